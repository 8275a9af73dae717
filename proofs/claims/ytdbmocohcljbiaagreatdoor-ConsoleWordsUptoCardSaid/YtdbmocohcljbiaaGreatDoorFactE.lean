/- The closed facts of the row joined; no text starts a goroutine. -/
import Derived.Test.YtdbmocohcljbiaaGreatDoorFactA
import Derived.Test.YtdbmocohcljbiaaGreatDoorFactB
import Derived.Test.YtdbmocohcljbiaaGreatDoorFactC
import Derived.Test.YtdbmocohcljbiaaGreatDoorFactD
import Derived.SevenTiedAt
namespace Go.Proofs.YtdbmocohcljbiaaGreatDoor
open Go Go.Proofs
theorem andT {a b : Bool} (h : a = true) (k : b = true) : (a && b) = true := by rw [h, k]; rfl
set_option maxRecDepth 100000 in
theorem closed : joinedFacts Tryz.prog 5 Tryz.f5 Rows.consoleKnownSpec Rows.consoleKnownRow = true := by
  unfold joinedFacts
  refine andT ?_ fact31
  refine andT ?_ fact30
  refine andT ?_ fact29
  refine andT ?_ fact28
  refine andT ?_ fact27
  refine andT ?_ fact26
  refine andT ?_ fact25
  refine andT ?_ fact24
  refine andT ?_ fact23
  refine andT ?_ fact22
  refine andT ?_ fact21
  refine andT ?_ fact20
  refine andT ?_ fact19
  refine andT ?_ fact18
  refine andT ?_ fact17
  refine andT ?_ fact16
  refine andT ?_ fact15
  refine andT ?_ fact14
  refine andT ?_ fact13
  refine andT ?_ fact12
  refine andT ?_ fact11
  refine andT ?_ fact10
  refine andT ?_ fact9
  refine andT ?_ fact8
  refine andT ?_ fact7
  refine andT ?_ fact6
  refine andT ?_ fact5
  refine andT ?_ fact4
  refine andT ?_ fact3
  refine andT ?_ fact2
  refine andT ?_ fact1
  exact fact0

theorem goes_of_none {P : Program} (h : P.funcs.any Func.goes = false) (f : FuncId) : P.goes f = false := by
  have hall : ∀ g : Nat, (P.funcs[g]?).any Func.goes = false := fun g => by
    cases hg : P.funcs[g]? with
    | none => rfl
    | some fn =>
      have hm := Array.mem_of_getElem? hg
      simp only [Option.any_some]
      cases hx : fn.goes with
      | false => rfl
      | true =>
        have : P.funcs.any Func.goes = true := by
          rw [Array.any_eq_true]
          obtain ⟨i, hi, he⟩ := Array.mem_iff_getElem.1 hm
          exact ⟨i, hi, by rw [he]; exact hx⟩
        rw [h] at this; cases this
  unfold Program.goes
  rw [h, Bool.and_false, Bool.or_false]
  rw [List.any_eq_false]
  intro g _
  rw [hall g]; simp

theorem goes_fact : false = Rows.consoleKnownRow.goesBy Tryz.prog := by
  unfold OpenClaim.goesBy Program.goesAt Program.goesFrom
  cases h : Tryz.prog.funcNamed Rows.consoleKnownRow.func with
  | none => rfl
  | some f => simp only [Option.any_some, goes_of_none goes_none]; rfl

end Go.Proofs.YtdbmocohcljbiaaGreatDoor
