/- Closed facts of a row, each by the kernel for itself. -/
import Derived.Test.YtdbmocohcljbiaaGreatDoorCards
import Derived.KernelRfl
import Derived.JoinedOf
import Derived.SevenTiedAt
namespace Go.Proofs.YtdbmocohcljbiaaGreatDoor
open Go Go.Proofs
set_option maxRecDepth 100000
theorem num0 : (Rows.consoleNumbersRow.wf (OpenSpec.ofChange Rows.consoleNumbersSpec)) = true := by kernel_rfl
theorem num3 : (Tryz.f4.params.all (Tryz.prog.readableRec ·)) = true := by kernel_rfl
theorem num4 : (namedTie Tryz.prog Rows.consoleNumbersRow.named Rows.consoleNumbersSpec.vars) = true := by kernel_rfl
theorem num5 : ((Rows.consoleNumbersRow.stops == [])) = true := by kernel_rfl
theorem num7 : ((Rows.consoleNumbersRow.knobs == [])) = true := by kernel_rfl
theorem num13 : ((Rows.consoleNumbersRow.maps == (Tryz.f4.params.toList ++ Rows.consoleNumbersSpec.plain.varTypes Tryz.prog).any (Tryz.prog.mapsRec ·))) = true := by kernel_rfl
theorem num14 : ((Rows.consoleNumbersRow.ifaces == (Tryz.f4.params.toList ++ Rows.consoleNumbersSpec.plain.varTypes Tryz.prog).any (Tryz.prog.ifacesRec ·))) = true := by kernel_rfl
theorem num15 : ((Rows.consoleNumbersRow.mapsOut == Tryz.prog.mapsAmong Tryz.f4.resultTypes.toList)) = true := by kernel_rfl
theorem num16 : ((Rows.consoleNumbersRow.loops == (Tryz.f4.params.toList ++ Rows.consoleNumbersSpec.plain.varTypes Tryz.prog).any (Tryz.prog.loopsFrom ·))) = true := by kernel_rfl
theorem num17 : ((Rows.consoleNumbersRow.wideKeys == (Tryz.f4.params.toList ++ Rows.consoleNumbersSpec.plain.varTypes Tryz.prog ++ Tryz.f4.resultTypes.toList).any (Tryz.prog.wideKeysFrom ·))) = true := by kernel_rfl
theorem num18 : (Rows.consoleNumbersSpec.vars.all (Tryz.prog.varReadable ·)) = true := by kernel_rfl
theorem num19 : (Tryz.f4.resultTypes.all (fun t => Tryz.prog.readableRec t && decide (t < Tryz.prog.types.size))) = true := by kernel_rfl
theorem num20 : ((Rows.consoleNumbersRow.ifacesOut == Tryz.f4.resultTypes.toList.any (Tryz.prog.ifacesRec ·))) = true := by kernel_rfl
theorem num21 : ((Rows.consoleNumbersRow.loopsOut == Tryz.f4.resultTypes.toList.any (Tryz.prog.loopsFrom ·))) = true := by kernel_rfl
theorem num23 : (Rows.consoleNumbersRow.shortTexts.isNone) = true := by kernel_rfl
theorem num26 : ((Rows.consoleNumbersRow.lifted == Tryz.prog.liftsFinal)) = true := by kernel_rfl
theorem num27 : ((Tryz.prog.make == some Rows.consoleNumbersRow.make)) = true := by kernel_rfl
theorem num28 : ((Rows.consoleNumbersRow.kinds == (if Rows.consoleNumbersRow.domain.isEmpty then [] else Tryz.f4.params.toList.map fun t => match Tryz.prog.underlying t with | some (.int k) => some k | _ => none))) = true := by kernel_rfl
theorem num29 : ((Rows.consoleNumbersRow.pinned == Rows.consoleNumbersRow.pinnedBy)) = true := by kernel_rfl
theorem num30 : ((Rows.consoleNumbersRow.veiled == (Tryz.f4.params.toList ++ Rows.consoleNumbersSpec.plain.varTypes Tryz.prog ++ Tryz.f4.resultTypes.toList).any (Tryz.prog.veiledRec ·))) = true := by kernel_rfl
theorem num31 : (Rows.consoleNumbersRow.veiledFits Tryz.prog Tryz.f4.params.toList (Tryz.f4.params.toList ++ Rows.consoleNumbersSpec.plain.varTypes Tryz.prog ++ Tryz.f4.resultTypes.toList)) = true := by kernel_rfl
theorem num32 : (Rows.consoleNumbersRow.wfByText (OpenSpec.ofChange Rows.consoleNumbersSpec)) = true := by kernel_rfl
end Go.Proofs.YtdbmocohcljbiaaGreatDoor
