/- Closed facts of a row, each by the kernel for itself. -/
import Derived.Test.YtdbmocohcljbiaaGreatDoorCards
import Derived.KernelRfl
import Derived.JoinedOf
import Derived.SevenTiedAt
namespace Go.Proofs.YtdbmocohcljbiaaGreatDoor
open Go Go.Proofs
set_option maxRecDepth 100000
theorem wrd9 : ((Rows.consoleWordsUptoRow.inPlace == Tryz.prog.inPlace 3)) = true := by kernel_rfl
theorem wrd10 : ((Rows.consoleWordsUptoRow.unfollowed == Tryz.prog.unfollowed 3)) = true := by kernel_rfl
end Go.Proofs.YtdbmocohcljbiaaGreatDoor
