/- Closed facts of a row, each by the kernel for itself. -/
import Derived.Test.YtdbmocohcljbiaaGreatDoorCards
import Derived.KernelRfl
import Derived.JoinedOf
import Derived.SevenTiedAt
namespace Go.Proofs.YtdbmocohcljbiaaGreatDoor
open Go Go.Proofs
set_option maxRecDepth 100000
theorem wrd11 : ((Rows.consoleWordsUptoRow.recurses == Tryz.prog.recurses 3)) = true := by kernel_rfl
theorem wrd12 : ((Rows.consoleWordsUptoRow.named == Tryz.prog.varsNamed 3)) = true := by kernel_rfl
end Go.Proofs.YtdbmocohcljbiaaGreatDoor
