/- Closed facts of the row, each by the kernel for itself: all at once they want more memory than there is. -/
import Derived.Test.YtdbmocohcljbiaaGreatDoorCards
import Derived.KernelRfl
import Derived.JoinedOf
import Derived.SevenTiedAt
namespace Go.Proofs.YtdbmocohcljbiaaGreatDoor
open Go Go.Proofs
set_option maxRecDepth 100000
theorem fact0 : (Rows.consoleKnownRow.wf (OpenSpec.ofChange Rows.consoleKnownSpec)) = true := by kernel_rfl
theorem fact2 : (mapsRowed Tryz.prog) = true := by kernel_rfl
theorem fact3 : (Tryz.f5.params.all (Tryz.prog.readableRec ·)) = true := by kernel_rfl
theorem fact4 : (namedTie Tryz.prog Rows.consoleKnownRow.named Rows.consoleKnownSpec.vars) = true := by kernel_rfl
theorem fact5 : ((Rows.consoleKnownRow.stops == [])) = true := by kernel_rfl
theorem fact6 : ((Tryz.prog.stops == [])) = true := by kernel_rfl
theorem fact7 : ((Rows.consoleKnownRow.knobs == [])) = true := by kernel_rfl
theorem fact8 : ((Tryz.prog.stopKnobs == [])) = true := by kernel_rfl
theorem fact13 : ((Rows.consoleKnownRow.maps == (Tryz.f5.params.toList ++ Rows.consoleKnownSpec.plain.varTypes Tryz.prog).any (Tryz.prog.mapsRec ·))) = true := by kernel_rfl
theorem fact14 : ((Rows.consoleKnownRow.ifaces == (Tryz.f5.params.toList ++ Rows.consoleKnownSpec.plain.varTypes Tryz.prog).any (Tryz.prog.ifacesRec ·))) = true := by kernel_rfl
theorem fact15 : ((Rows.consoleKnownRow.mapsOut == Tryz.prog.mapsAmong Tryz.f5.resultTypes.toList)) = true := by kernel_rfl
theorem fact16 : ((Rows.consoleKnownRow.loops == (Tryz.f5.params.toList ++ Rows.consoleKnownSpec.plain.varTypes Tryz.prog).any (Tryz.prog.loopsFrom ·))) = true := by kernel_rfl
theorem fact17 : ((Rows.consoleKnownRow.wideKeys == (Tryz.f5.params.toList ++ Rows.consoleKnownSpec.plain.varTypes Tryz.prog ++ Tryz.f5.resultTypes.toList).any (Tryz.prog.wideKeysFrom ·))) = true := by kernel_rfl
theorem fact18 : (Rows.consoleKnownSpec.vars.all (Tryz.prog.varReadable ·)) = true := by kernel_rfl
theorem fact19 : (Tryz.f5.resultTypes.all (fun t => Tryz.prog.readableRec t && decide (t < Tryz.prog.types.size))) = true := by kernel_rfl
theorem fact20 : ((Rows.consoleKnownRow.ifacesOut == Tryz.f5.resultTypes.toList.any (Tryz.prog.ifacesRec ·))) = true := by kernel_rfl
theorem fact21 : ((Rows.consoleKnownRow.loopsOut == Tryz.f5.resultTypes.toList.any (Tryz.prog.loopsFrom ·))) = true := by kernel_rfl
theorem fact23 : (Rows.consoleKnownRow.shortTexts.isNone) = true := by kernel_rfl
theorem fact26 : ((Rows.consoleKnownRow.lifted == Tryz.prog.liftsFinal)) = true := by kernel_rfl
theorem fact27 : ((Tryz.prog.make == some Rows.consoleKnownRow.make)) = true := by kernel_rfl
theorem fact28 : ((Rows.consoleKnownRow.kinds == (if Rows.consoleKnownRow.domain.isEmpty then [] else Tryz.f5.params.toList.map fun t => match Tryz.prog.underlying t with | some (.int k) => some k | _ => none))) = true := by kernel_rfl
theorem fact29 : ((Rows.consoleKnownRow.pinned == Rows.consoleKnownRow.pinnedBy)) = true := by kernel_rfl
theorem fact30 : ((Rows.consoleKnownRow.veiled == (Tryz.f5.params.toList ++ Rows.consoleKnownSpec.plain.varTypes Tryz.prog ++ Tryz.f5.resultTypes.toList).any (Tryz.prog.veiledRec ·))) = true := by kernel_rfl
theorem fact31 : (Rows.consoleKnownRow.veiledFits Tryz.prog Tryz.f5.params.toList (Tryz.f5.params.toList ++ Rows.consoleKnownSpec.plain.varTypes Tryz.prog ++ Tryz.f5.resultTypes.toList)) = true := by kernel_rfl
theorem fact32 : (Rows.consoleKnownRow.wfByText (OpenSpec.ofChange Rows.consoleKnownSpec)) = true := by kernel_rfl
theorem fact33 : ((true == Tryz.prog.looks [])) = true := by kernel_rfl
theorem goes_none : Tryz.prog.funcs.any Func.goes = false := by kernel_rfl
end Go.Proofs.YtdbmocohcljbiaaGreatDoor
