/- Closed facts of a row, each by the kernel for itself. -/
import Derived.Test.YtdbmocohcljbiaaGreatDoorCards
import Derived.KernelRfl
import Derived.JoinedOf
import Derived.SevenTiedAt
namespace Go.Proofs.YtdbmocohcljbiaaGreatDoor
open Go Go.Proofs
set_option maxRecDepth 100000
theorem num9 : ((Rows.consoleNumbersRow.inPlace == Tryz.prog.inPlace 4)) = true := by kernel_rfl
theorem num10 : ((Rows.consoleNumbersRow.unfollowed == Tryz.prog.unfollowed 4)) = true := by kernel_rfl
end Go.Proofs.YtdbmocohcljbiaaGreatDoor
