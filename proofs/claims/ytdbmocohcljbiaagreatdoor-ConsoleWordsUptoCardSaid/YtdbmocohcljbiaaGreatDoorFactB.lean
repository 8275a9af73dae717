/- Closed facts of the row, each by the kernel for itself: all at once they want more memory than there is. -/
import Derived.Test.YtdbmocohcljbiaaGreatDoorCards
import Derived.KernelRfl
import Derived.JoinedOf
import Derived.SevenTiedAt
namespace Go.Proofs.YtdbmocohcljbiaaGreatDoor
open Go Go.Proofs
set_option maxRecDepth 100000
theorem fact22 : ((Rows.consoleKnownRow.plainKeys == Tryz.prog.plainKeys)) = true := by kernel_rfl
theorem fact24 : (Tryz.prog.stopsHeard) = true := by kernel_rfl
theorem fact25 : (Tryz.prog.mayEnter) = true := by kernel_rfl
theorem fact1 : (laidOutB Tryz.prog) = true := by kernel_rfl
end Go.Proofs.YtdbmocohcljbiaaGreatDoor
