/- The closed facts of a row joined. -/
import Derived.Test.YtdbmocohcljbiaaGreatDoorFactE
import Derived.Test.YtdbmocohcljbiaaGreatDoorNumFactA
import Derived.Test.YtdbmocohcljbiaaGreatDoorNumFactB
import Derived.Test.YtdbmocohcljbiaaGreatDoorNumFactC
namespace Go.Proofs.YtdbmocohcljbiaaGreatDoor
open Go Go.Proofs
set_option maxRecDepth 100000 in
theorem numClosed : joinedFacts Tryz.prog 4 Tryz.f4 Rows.consoleNumbersSpec Rows.consoleNumbersRow = true := by
  unfold joinedFacts
  refine andT ?_ num31
  refine andT ?_ num30
  refine andT ?_ num29
  refine andT ?_ num28
  refine andT ?_ num27
  refine andT ?_ num26
  refine andT ?_ fact25
  refine andT ?_ fact24
  refine andT ?_ num23
  refine andT ?_ fact22
  refine andT ?_ num21
  refine andT ?_ num20
  refine andT ?_ num19
  refine andT ?_ num18
  refine andT ?_ num17
  refine andT ?_ num16
  refine andT ?_ num15
  refine andT ?_ num14
  refine andT ?_ num13
  refine andT ?_ num12
  refine andT ?_ num11
  refine andT ?_ num10
  refine andT ?_ num9
  refine andT ?_ fact8
  refine andT ?_ num7
  refine andT ?_ fact6
  refine andT ?_ num5
  refine andT ?_ num4
  refine andT ?_ num3
  refine andT ?_ fact2
  refine andT ?_ fact1
  exact num0

theorem numGoes : false = Rows.consoleNumbersRow.goesBy Tryz.prog := by
  unfold OpenClaim.goesBy Program.goesAt Program.goesFrom
  cases h : Tryz.prog.funcNamed Rows.consoleNumbersRow.func with
  | none => rfl
  | some f => simp only [Option.any_some, goes_of_none goes_none]; rfl
end Go.Proofs.YtdbmocohcljbiaaGreatDoor
