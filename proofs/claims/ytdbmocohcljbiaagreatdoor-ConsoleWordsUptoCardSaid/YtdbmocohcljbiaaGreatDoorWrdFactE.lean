/- The closed facts of a row joined. -/
import Derived.Test.YtdbmocohcljbiaaGreatDoorFactE
import Derived.Test.YtdbmocohcljbiaaGreatDoorWrdFactA
import Derived.Test.YtdbmocohcljbiaaGreatDoorWrdFactB
import Derived.Test.YtdbmocohcljbiaaGreatDoorWrdFactC
namespace Go.Proofs.YtdbmocohcljbiaaGreatDoor
open Go Go.Proofs
set_option maxRecDepth 100000 in
theorem wrdClosed : joinedFacts Tryz.prog 3 Tryz.f3 (Rows.OpenSpec.upto Rows.consoleWordsSpec).bare Rows.consoleWordsUptoRow = true := by
  unfold joinedFacts
  refine andT ?_ wrd31
  refine andT ?_ wrd30
  refine andT ?_ wrd29
  refine andT ?_ wrd28
  refine andT ?_ wrd27
  refine andT ?_ wrd26
  refine andT ?_ fact25
  refine andT ?_ fact24
  refine andT ?_ wrd23
  refine andT ?_ fact22
  refine andT ?_ wrd21
  refine andT ?_ wrd20
  refine andT ?_ wrd19
  refine andT ?_ wrd18
  refine andT ?_ wrd17
  refine andT ?_ wrd16
  refine andT ?_ wrd15
  refine andT ?_ wrd14
  refine andT ?_ wrd13
  refine andT ?_ wrd12
  refine andT ?_ wrd11
  refine andT ?_ wrd10
  refine andT ?_ wrd9
  refine andT ?_ fact8
  refine andT ?_ wrd7
  refine andT ?_ fact6
  refine andT ?_ wrd5
  refine andT ?_ wrd4
  refine andT ?_ wrd3
  refine andT ?_ fact2
  refine andT ?_ fact1
  exact wrd0

theorem wrdGoes : false = Rows.consoleWordsUptoRow.goesBy Tryz.prog := by
  unfold OpenClaim.goesBy Program.goesAt Program.goesFrom
  cases h : Tryz.prog.funcNamed Rows.consoleWordsUptoRow.func with
  | none => rfl
  | some f => simp only [Option.any_some, goes_of_none goes_none]; rfl
end Go.Proofs.YtdbmocohcljbiaaGreatDoor
