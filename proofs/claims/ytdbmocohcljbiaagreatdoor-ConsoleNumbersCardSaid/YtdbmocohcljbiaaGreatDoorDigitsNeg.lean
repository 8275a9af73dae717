/- periluneref37.Digits of a negative number. -/
import Derived.Test.YtdbmocohcljbiaaGreatDoorDigits
namespace Go.Proofs.YtdbmocohcljbiaaGreatDoor
open Go.RowKit Go.Lib

set_option maxRecDepth 100000 in
set_option maxHeartbeats 1000000 in
theorem digits_neg (n : Nat) (w : World) (h1 : 1 ≤ (n : Int)) (hn : (n : Int) ≤ 999999999) :
    Calls Tryz.prog 12 #[.int .i64 (-(n : Int))] w fun e w' => e = .returned (.string ⟨(45 :: dec n).toArray⟩) ∧ Below w.heap.size w w' := by
  have hl : (dec n).length ≤ 10 := dec_length 9 n (by
    have : (10 : Nat) ^ (9 + 1) = 10000000000 := by decide
    omega)
  have hneg : decide (-(n : Int) < 0) = true := by simp; omega
  go_enter Tryz.func12, Tryz.ntmps12
  go_wp2_with (go_at_call 12; refine (digits_pos n _ (by omega)).mono ?_; rintro e w' ⟨rfl, hb⟩)
  go_ret
  refine ⟨?_, hb⟩
  have e : (⟨#[45]⟩ ++ ⟨(dec n).toArray⟩ : ByteArray) = ⟨(45 :: dec n).toArray⟩ := by
    apply ByteArray.ext
    apply Array.ext'
    simp
  rw [e]
  rfl
end Go.Proofs.YtdbmocohcljbiaaGreatDoor
