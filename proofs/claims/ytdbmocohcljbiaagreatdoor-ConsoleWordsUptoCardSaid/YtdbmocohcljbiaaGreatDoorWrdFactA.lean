/- Closed facts of a row, each by the kernel for itself. -/
import Derived.Test.YtdbmocohcljbiaaGreatDoorCards
import Derived.KernelRfl
import Derived.JoinedOf
import Derived.SevenTiedAt
namespace Go.Proofs.YtdbmocohcljbiaaGreatDoor
open Go Go.Proofs
set_option maxRecDepth 100000
theorem wrd0 : (Rows.consoleWordsUptoRow.wf (OpenSpec.ofChange (Rows.OpenSpec.upto Rows.consoleWordsSpec).bare)) = true := by kernel_rfl
theorem wrd3 : (Tryz.f3.params.all (Tryz.prog.readableRec ·)) = true := by kernel_rfl
theorem wrd4 : (namedTie Tryz.prog Rows.consoleWordsUptoRow.named (Rows.OpenSpec.upto Rows.consoleWordsSpec).bare.vars) = true := by kernel_rfl
theorem wrd5 : ((Rows.consoleWordsUptoRow.stops == [])) = true := by kernel_rfl
theorem wrd7 : ((Rows.consoleWordsUptoRow.knobs == [])) = true := by kernel_rfl
theorem wrd13 : ((Rows.consoleWordsUptoRow.maps == (Tryz.f3.params.toList ++ (Rows.OpenSpec.upto Rows.consoleWordsSpec).bare.plain.varTypes Tryz.prog).any (Tryz.prog.mapsRec ·))) = true := by kernel_rfl
theorem wrd14 : ((Rows.consoleWordsUptoRow.ifaces == (Tryz.f3.params.toList ++ (Rows.OpenSpec.upto Rows.consoleWordsSpec).bare.plain.varTypes Tryz.prog).any (Tryz.prog.ifacesRec ·))) = true := by kernel_rfl
theorem wrd15 : ((Rows.consoleWordsUptoRow.mapsOut == Tryz.prog.mapsAmong Tryz.f3.resultTypes.toList)) = true := by kernel_rfl
theorem wrd16 : ((Rows.consoleWordsUptoRow.loops == (Tryz.f3.params.toList ++ (Rows.OpenSpec.upto Rows.consoleWordsSpec).bare.plain.varTypes Tryz.prog).any (Tryz.prog.loopsFrom ·))) = true := by kernel_rfl
theorem wrd17 : ((Rows.consoleWordsUptoRow.wideKeys == (Tryz.f3.params.toList ++ (Rows.OpenSpec.upto Rows.consoleWordsSpec).bare.plain.varTypes Tryz.prog ++ Tryz.f3.resultTypes.toList).any (Tryz.prog.wideKeysFrom ·))) = true := by kernel_rfl
theorem wrd18 : ((Rows.OpenSpec.upto Rows.consoleWordsSpec).bare.vars.all (Tryz.prog.varReadable ·)) = true := by kernel_rfl
theorem wrd19 : (Tryz.f3.resultTypes.all (fun t => Tryz.prog.readableRec t && decide (t < Tryz.prog.types.size))) = true := by kernel_rfl
theorem wrd20 : ((Rows.consoleWordsUptoRow.ifacesOut == Tryz.f3.resultTypes.toList.any (Tryz.prog.ifacesRec ·))) = true := by kernel_rfl
theorem wrd21 : ((Rows.consoleWordsUptoRow.loopsOut == Tryz.f3.resultTypes.toList.any (Tryz.prog.loopsFrom ·))) = true := by kernel_rfl
theorem wrd23 : (Rows.consoleWordsUptoRow.shortTexts.isNone) = true := by kernel_rfl
theorem wrd26 : ((Rows.consoleWordsUptoRow.lifted == Tryz.prog.liftsFinal)) = true := by kernel_rfl
theorem wrd27 : ((Tryz.prog.make == some Rows.consoleWordsUptoRow.make)) = true := by kernel_rfl
theorem wrd28 : ((Rows.consoleWordsUptoRow.kinds == (if Rows.consoleWordsUptoRow.domain.isEmpty then [] else Tryz.f3.params.toList.map fun t => match Tryz.prog.underlying t with | some (.int k) => some k | _ => none))) = true := by kernel_rfl
theorem wrd29 : ((Rows.consoleWordsUptoRow.pinned == Rows.consoleWordsUptoRow.pinnedBy)) = true := by kernel_rfl
theorem wrd30 : ((Rows.consoleWordsUptoRow.veiled == (Tryz.f3.params.toList ++ (Rows.OpenSpec.upto Rows.consoleWordsSpec).bare.plain.varTypes Tryz.prog ++ Tryz.f3.resultTypes.toList).any (Tryz.prog.veiledRec ·))) = true := by kernel_rfl
theorem wrd31 : (Rows.consoleWordsUptoRow.veiledFits Tryz.prog Tryz.f3.params.toList (Tryz.f3.params.toList ++ (Rows.OpenSpec.upto Rows.consoleWordsSpec).bare.plain.varTypes Tryz.prog ++ Tryz.f3.resultTypes.toList)) = true := by kernel_rfl
theorem wrd32 : (Rows.consoleWordsUptoRow.wfByText (Rows.OpenSpec.upto Rows.consoleWordsSpec)) = true := by kernel_rfl
end Go.Proofs.YtdbmocohcljbiaaGreatDoor
