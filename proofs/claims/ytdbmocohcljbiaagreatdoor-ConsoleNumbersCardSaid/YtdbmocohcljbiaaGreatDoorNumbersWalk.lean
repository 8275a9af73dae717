/- The walk of ConsoleNumbers, given what its calls answer. -/
import Derived.Test.YtdbmocohcljbiaaGreatDoorDigitsNeg
import Derived.Test.YtdbmocohcljbiaaGreatDoorNumAny
namespace Go.Proofs.YtdbmocohcljbiaaGreatDoor
open Go.RowKit Go.Lib

set_option maxRecDepth 100000 in
set_option maxHeartbeats 1000000 in
theorem law4_walk (n r a b c : Int) (s t : ByteArray) (W : World) (hW : 7 ≤ W.heap.size) (hr : n.tmod 1000000000 = r) (hss : s.size ≤ 20) (hts : t.size ≤ 20)
    (hs : Hid (∀ w : World, Calls Tryz.prog 12 #[.int .i64 r] w fun e w' => e = .returned (.string s) ∧ Below w.heap.size w w'))
    (ht : Hid (∀ w : World, Calls Tryz.prog 12 #[.int .i64 1000000000] w fun e w' => e = .returned (.string t) ∧ Below w.heap.size w w'))
    (h1 : Hid (∀ w : World, Calls Tryz.prog 6 #[.string s] w fun e w' => e = .returned (.tuple #[.int .i64 r, .bool true]) ∧ w' = w))
    (h2 : Hid (∀ w : World, Calls Tryz.prog 6 #[.string (⟨#[48]⟩ ++ s)] w fun e w' => e = .returned (.tuple #[.int .i64 a, .bool false]) ∧ w' = w))
    (h3 : Hid (∀ w : World, Calls Tryz.prog 6 #[.string (⟨#[43]⟩ ++ s)] w fun e w' => e = .returned (.tuple #[.int .i64 b, .bool false]) ∧ w' = w))
    (h4 : Hid (∀ w : World, Calls Tryz.prog 6 #[.string (⟨#[49]⟩ ++ t)] w fun e w' => e = .returned (.tuple #[.int .i64 c, .bool false]) ∧ w' = w))
    (hl : Hid (∀ w : World, 7 ≤ w.heap.size → Calls Tryz.prog 11 #[] w fun e w' => e = .returned (.bool true) ∧ Below w.heap.size w w')) :
    Calls Tryz.prog 4 #[.int .i64 n] W fun e w' => e = .returned (.bool true) ∧ Below W.heap.size W w' := by
  go_enter Tryz.func4, Tryz.ntmps4
  go_wp2_with (go_at_call 12; refine (hs.out _).mono ?_; rintro e w1 ⟨rfl, hb1⟩)
  have HB1 := Lib.hid hb1
  have hz1 := hb1.size
  clear hb1
  refine (h1.out _).mono ?_; rintro e w2 ⟨rfl, hw⟩; rw [hw]; clear hw
  go_wp2_with (first
    | (go_at_call 6; first
        | ((with_reducible refine (h2.out _).mono ?_); rintro e w2 ⟨rfl, hw⟩; rw [hw]; clear hw)
        | ((with_reducible refine (h3.out _).mono ?_); rintro e w2 ⟨rfl, hw⟩; rw [hw]; clear hw)
        | ((with_reducible refine (h4.out _).mono ?_); rintro e w2 ⟨rfl, hw⟩; rw [hw]; clear hw))
    | (go_at_call 12; (with_reducible refine (ht.out _).mono ?_); rintro e w3 ⟨rfl, hb2⟩; have HB2 := Lib.hid hb2; have hz2 := hb2.size; clear hb2)
    | (go_at_call 11; (with_reducible refine (hl.out _ (by omega)).mono ?_); rintro e w4 ⟨rfl, hb3⟩; have HB3 := Lib.hid hb3; have hz3 := hb3.size; clear hb3))
  go_ret
  exact ⟨rfl, HB1.out.trans ((HB2.out.mono (by omega)).trans (HB3.out.mono (by omega)))⟩
end Go.Proofs.YtdbmocohcljbiaaGreatDoor
