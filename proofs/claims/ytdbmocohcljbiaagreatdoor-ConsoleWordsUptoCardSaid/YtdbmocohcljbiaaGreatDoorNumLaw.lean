/- Numbers in decimal are the numbers that they are: plain lists. -/
import Derived.Test.YtdbmocohcljbiaaGreatDoorDigits
import Derived.Test.YtdbmocohcljbiaaGreatDoorNumPlain
namespace Go.Proofs.YtdbmocohcljbiaaGreatDoor
set_option autoImplicit false

theorem digit_of {k : Nat} (h : k < 10) : (UInt8.ofNat (48 + k)).toNat = 48 + k := by
  rw [UInt8.toNat_ofNat']; omega
theorem isDig_of {k : Nat} (h : k < 10) : isDig (UInt8.ofNat (48 + k)) = true := by
  unfold isDig; rw [digit_of h]; exact decide_eq_true (by omega)

theorem dec_all : ∀ (k n : Nat), n < k → (dec n).all isDig = true ∧ valOf (dec n) = n ∧ (0 < n → (dec n).head? ≠ some 48) ∧ 1 ≤ (dec n).length ∧ (dec n).head? ≠ some 45 ∧ (dec n).head? ≠ none
  | 0, n, h => by omega
  | k + 1, n, h => by
    by_cases h9 : 9 < n
    · obtain ⟨h1, h2, h3, h4, h5, h6⟩ := dec_all k (n / 10) (by omega)
      rw [dec_high h9]
      have hne : dec (n / 10) ≠ [] := fun e => by rw [e] at h4; simp at h4
      have hh : (dec (n / 10) ++ [UInt8.ofNat (48 + n % 10)]).head? = (dec (n / 10)).head? := by
        cases hd : dec (n / 10) with
        | nil => exact absurd hd hne
        | cons x xs => rfl
      rw [hh]
      refine ⟨?_, ?_, fun _ => h3 (by omega), by simp, h5, h6⟩
      · rw [List.all_append, h1]; simp only [List.all_cons, List.all_nil, Bool.and_true, Bool.true_and]; exact isDig_of (by omega)
      · rw [valOf_snoc, h2, digit_of (by omega)]; omega
    · rw [dec_low (by omega)]
      refine ⟨by simp only [List.all_cons, List.all_nil, Bool.and_true]; exact isDig_of (by omega), ?_, fun h0 he => ?_, by simp, fun he => ?_, by simp⟩
      · unfold valOf; simp only [List.foldl_cons, List.foldl_nil]; rw [digit_of (by omega)]; omega
      · simp only [List.head?_cons, Option.some.injEq] at he
        have := congrArg UInt8.toNat he
        rw [digit_of (by omega)] at this
        have e : (48 : UInt8).toNat = 48 := rfl
        omega
      · simp only [List.head?_cons, Option.some.injEq] at he
        have := congrArg UInt8.toNat he
        rw [digit_of (by omega)] at this
        have e : (45 : UInt8).toNat = 45 := rfl
        omega

/-- A number in decimal, with its sign. -/
def decI (r : Int) : List UInt8 := if r < 0 then 45 :: dec r.natAbs else dec r.natAbs

theorem body_keep {l : List UInt8} (h : l.head? ≠ some 45) : body l = l := by
  unfold body
  cases l with
  | nil => rfl
  | cons x xs =>
    rw [if_neg]
    intro he
    apply h
    simp [List.isPrefixOf] at he
    simp [he]
theorem body_minus (l : List UInt8) : body (45 :: l) = l := by unfold body; simp [List.isPrefixOf]

theorem num_decI {r : Int} (h0 : -999999999 ≤ r) (h1 : r ≤ 999999999) : num (decI r) = (r, true) := by
  obtain ⟨a1, a2, a3, a4, a5, a6⟩ := dec_all (r.natAbs + 1) r.natAbs (by omega)
  have a7 : (dec r.natAbs).length ≤ 9 := dec_length 8 _ (by
    have : (10 : Nat) ^ (8 + 1) = 1000000000 := by decide
    omega)
  unfold decI
  by_cases hr : r < 0
  · rw [if_pos hr]
    unfold num
    rw [if_neg (by
      intro e
      simp only [List.cons.injEq] at e
      exact absurd e.1 (by decide)), body_minus, if_neg (by
      rintro (h | h | h)
      · omega
      · omega
      · exact a3 (by omega) h), if_pos a1, if_pos (by simp), a2]
    simp; omega
  · rw [if_neg hr]
    by_cases hz : r = 0
    · subst hz
      have : dec (0 : Int).natAbs = [48] := by rw [dec_low (by decide)]; rfl
      rw [this]; rfl
    · unfold num
      rw [if_neg (by
        intro e
        exact a3 (by omega) (by rw [e]; rfl)), body_keep a5, if_neg (by
        rintro (h | h | h)
        · omega
        · omega
        · exact a3 (by omega) h), if_pos a1, if_neg (by omega), a2]
      simp; omega

theorem num_zero {l : List UInt8} (h : l ≠ []) : (num (48 :: l)).2 = false := by
  unfold num
  rw [if_neg (by
    intro e
    simp only [List.cons.injEq, true_and] at e
    exact h e), body_keep (by simp), if_pos (.inr (.inr rfl))]

theorem num_plus (l : List UInt8) : (num (43 :: l)).2 = false := by
  unfold num
  rw [if_neg (by
    intro e
    simp only [List.cons.injEq] at e
    exact absurd e.1 (by decide)), body_keep (by simp)]
  split
  · rfl
  · rw [if_neg (by simp [isDig])]

theorem num_long : (num (49 :: dec 1000000000)).2 = false := by
  unfold num
  rw [if_neg (by
    intro e
    simp only [List.cons.injEq] at e
    exact absurd e.1 (by decide)), body_keep (by simp), if_pos]
  refine .inr (.inl ?_)
  have e : (dec 1000000000).length = 10 := by
    simp [dec_high, dec_low]
  simp [e]

end Go.Proofs.YtdbmocohcljbiaaGreatDoor
