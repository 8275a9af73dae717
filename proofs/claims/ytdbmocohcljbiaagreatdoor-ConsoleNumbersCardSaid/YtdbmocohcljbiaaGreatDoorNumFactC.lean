/- Closed facts of a row, each by the kernel for itself. -/
import Derived.Test.YtdbmocohcljbiaaGreatDoorCards
import Derived.KernelRfl
import Derived.JoinedOf
import Derived.SevenTiedAt
namespace Go.Proofs.YtdbmocohcljbiaaGreatDoor
open Go Go.Proofs
set_option maxRecDepth 100000
theorem num11 : ((Rows.consoleNumbersRow.recurses == Tryz.prog.recurses 4)) = true := by kernel_rfl
theorem num12 : ((Rows.consoleNumbersRow.named == Tryz.prog.varsNamed 4)) = true := by kernel_rfl
end Go.Proofs.YtdbmocohcljbiaaGreatDoor
