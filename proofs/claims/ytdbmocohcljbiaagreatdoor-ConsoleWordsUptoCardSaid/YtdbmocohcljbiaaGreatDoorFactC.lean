/- Closed facts of the row, each by the kernel for itself: all at once they want more memory than there is. -/
import Derived.Test.YtdbmocohcljbiaaGreatDoorCards
import Derived.KernelRfl
import Derived.JoinedOf
import Derived.SevenTiedAt
namespace Go.Proofs.YtdbmocohcljbiaaGreatDoor
open Go Go.Proofs
set_option maxRecDepth 100000
theorem fact9 : ((Rows.consoleKnownRow.inPlace == Tryz.prog.inPlace 5)) = true := by kernel_rfl
theorem fact10 : ((Rows.consoleKnownRow.unfollowed == Tryz.prog.unfollowed 5)) = true := by kernel_rfl
end Go.Proofs.YtdbmocohcljbiaaGreatDoor
