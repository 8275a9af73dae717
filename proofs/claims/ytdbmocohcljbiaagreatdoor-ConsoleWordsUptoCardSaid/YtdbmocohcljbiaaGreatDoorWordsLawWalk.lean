/- The walk of ConsoleWords, given that the law's own example holds. -/
import Derived.Test.YtdbmocohcljbiaaGreatDoorWordsSame
import Derived.Test.YtdbmocohcljbiaaGreatDoorRefAny
namespace Go.Proofs.YtdbmocohcljbiaaGreatDoor
open Go.RowKit Go.Lib Go.Shelf

theorem below_drewN (B : Nat) (w : World) (q : Nat) : Below B w (w.drewN q) := ⟨rfl, rfl, rfl, Nat.le_refl _, fun _ _ => rfl⟩

set_option maxRecDepth 100000 in
set_option maxHeartbeats 2000000 in
theorem law3_walk (s : ByteArray) (m : Int) (W : World) (hW : 7 ≤ W.heap.size) (hs : s.size ≤ 1048576) (hm : W.cell? ⟨0, 0, none⟩ = some (.int .i64 m))
    (hl : Hid (∀ w : World, 7 ≤ w.heap.size → Calls Tryz.prog 11 #[] w fun e w' => e = .returned (.bool true) ∧ Below w.heap.size w w')) :
    Calls Tryz.prog 3 #[.string s] W fun e w' => e = .returned (.bool true) ∧ Below W.heap.size W w' := by
  have c8 := words_walk s m W hs hm
  have hwl : (keepW (Lib.splitB ⟨#[32]⟩ 0 (Lib.countB s ⟨#[32]⟩) s)).length ≤ 1048577 := by
    refine Nat.le_trans (List.length_filter_le _ _) (Nat.le_trans (Lib.splitB_length_le _ _ _ _) ?_)
    have := Lib.countB_le ⟨#[32]⟩ (by decide) s.size s (Nat.le_refl _)
    omega
  have hweq := words_eq s
  generalize hws : keepW (Lib.splitB ⟨#[32]⟩ 0 (Lib.countB s ⟨#[32]⟩) s) = ws at c8 hwl hweq
  have HE := Lib.hid hweq
  clear hws hweq
  generalize hnum : num s.data.toList = nb
  have c6 : Hid (∀ w : World, Calls Tryz.prog 6 #[.string s] w fun e w' => e = .returned (.tuple #[.int .i64 nb.1, .bool nb.2]) ∧ w' = w) := Lib.hid fun w => hnum ▸ number_any s w
  have c7 : Hid (∀ w : World, Calls Tryz.prog 7 #[.string s] w fun e w' => e = .returned (.tuple #[.int .i64 nb.1, .bool nb.2]) ∧ w' = w) := Lib.hid fun w => hnum ▸ ref_number_any s w
  clear hnum
  have C8 := Lib.hid c8
  clear c8
  go_enter Tryz.func3, Tryz.ntmps3
  go_wp2_with (first
    | (go_at_call 6; refine (c6.out _).mono ?_; rintro e w2 ⟨rfl, hw⟩; rw [hw]; clear hw)
    | (go_at_call 7; refine (c7.out _).mono ?_; rintro e w2 ⟨rfl, hw⟩; rw [hw]; clear hw)
    | (go_at_call 8; refine C8.out.mono ?_; rintro e w1 ⟨v1, rfl, hown1, hb1⟩))
  have HR1 := Lib.hid (Reads.of_own hown1)
  have HB1 := Lib.hid hb1
  have hz1 := hb1.size
  clear hown1 hb1
  rcases HR1.out with ⟨rfl, hw0⟩ | ⟨g, cap, rfl, hc⟩
  · have HW0 := Lib.hid hw0
    clear hw0
    go_loop [8] (fun i => i = .int .i64 0) (fun _ => 0)
    case atStart => rfl
    case round =>
    obtain rfl := hrel
    go_wp2_with (first
      | (go_at_call 10; refine (ref_words_walk s _ hs ws HE).mono ?_; rintro e w3 ⟨v2, rfl, hown2, hb2⟩; have HR2 := Lib.hid (Reads.of_own hown2); have HR1' := Lib.hid (HR1.out.below hb2); have HB2 := Lib.hid hb2; have hz2 := hb2.size; clear hown2 hb2)
      | (go_at_call 9; refine (strings_any _ _ ws _ hwl HR1'.out HR2.out).mono ?_; rintro e w4 ⟨rfl, q, hw4⟩; rw [hw4]; clear hw4)
      | (go_at_call 11; refine (hl.out _ (by simp; omega)).mono ?_; rintro e w5 ⟨rfl, hb5⟩; have HB5 := Lib.hid hb5; clear hb5))
    go_ret
    exact ⟨rfl, HB1.out.trans ((HB2.out.mono (by omega)).trans ((below_drewN _ _ _).trans (HB5.out.mono (by simp; omega))))⟩
  · have HC : Aside (∀ (j : Nat) p, ws[j]? = some p → w1.cell? ⟨g, j, none⟩ = some (.string p)) := hc
    clear hc
    generalize hn : ws.length = n at hwl HR1 ⊢
    have HN := Lib.hid hn
    go_loop [8] (fun i => ∃ k : Nat, k ≤ n ∧ i = .int .i64 k) (fun i => n - (RowKit.intOf i).toNat)
    case atStart => exact ⟨0, Nat.zero_le _, rfl⟩
    case round =>
    obtain ⟨k, hk, rfl⟩ := hrel
    by_cases hkn : (k : Int) < (n : Int)
    · obtain ⟨p, hp⟩ : ∃ p, ws[k]? = some p := ⟨_, List.getElem?_eq_getElem (by have := HN.out; omega)⟩
      have hcell := HC.out k p hp
      generalize hpn : num p.data.toList = pb
      have d6 : Hid (∀ w : World, Calls Tryz.prog 6 #[.string p] w fun e w' => e = .returned (.tuple #[.int .i64 pb.1, .bool pb.2]) ∧ w' = w) := Lib.hid fun w => hpn ▸ number_any p w
      have d7 : Hid (∀ w : World, Calls Tryz.prog 7 #[.string p] w fun e w' => e = .returned (.tuple #[.int .i64 pb.1, .bool pb.2]) ∧ w' = w) := Lib.hid fun w => hpn ▸ ref_number_any p w
      clear hpn
      go_wp2_with (first
        | (go_at_call 6; refine (d6.out _).mono ?_; rintro e w2 ⟨rfl, hw⟩; rw [hw]; clear hw)
        | (go_at_call 7; refine (d7.out _).mono ?_; rintro e w2 ⟨rfl, hw⟩; rw [hw]; clear hw))
      go_round
      case rel => exact ⟨k + 1, by omega, by first | rfl | simp⟩
      case measure => simp [RowKit.intOf]; omega
    · subst hn
      go_wp2_with (first
        | (go_at_call 10; refine (ref_words_walk s _ hs ws HE).mono ?_; rintro e w3 ⟨v2, rfl, hown2, hb2⟩; have HR2 := Lib.hid (Reads.of_own hown2); have HR1' := Lib.hid (HR1.out.below hb2); have HB2 := Lib.hid hb2; have hz2 := hb2.size; clear hown2 hb2)
        | (go_at_call 9; refine (strings_any _ _ ws _ hwl HR1'.out HR2.out).mono ?_; rintro e w4 ⟨rfl, q, hw4⟩; rw [hw4]; clear hw4)
        | (go_at_call 11; refine (hl.out _ (by simp; omega)).mono ?_; rintro e w5 ⟨rfl, hb5⟩; have HB5 := Lib.hid hb5; clear hb5))
      go_ret
      exact ⟨rfl, HB1.out.trans ((HB2.out.mono (by omega)).trans ((below_drewN _ _ _).trans (HB5.out.mono (by simp; omega))))⟩
end Go.Proofs.YtdbmocohcljbiaaGreatDoor
