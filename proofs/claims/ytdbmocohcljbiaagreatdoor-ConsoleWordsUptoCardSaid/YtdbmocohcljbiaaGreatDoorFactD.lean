/- Closed facts of the row, each by the kernel for itself: all at once they want more memory than there is. -/
import Derived.Test.YtdbmocohcljbiaaGreatDoorCards
import Derived.KernelRfl
import Derived.JoinedOf
import Derived.SevenTiedAt
namespace Go.Proofs.YtdbmocohcljbiaaGreatDoor
open Go Go.Proofs
set_option maxRecDepth 100000
theorem fact11 : ((Rows.consoleKnownRow.recurses == Tryz.prog.recurses 5)) = true := by kernel_rfl
theorem fact12 : ((Rows.consoleKnownRow.named == Tryz.prog.varsNamed 5)) = true := by kernel_rfl
end Go.Proofs.YtdbmocohcljbiaaGreatDoor
