/- What a word in decimal is: plain lists and numbers. -/
namespace Go.Proofs.YtdbmocohcljbiaaGreatDoor
set_option autoImplicit false

def isDig (b : UInt8) : Bool := decide (48 ≤ (b.toNat : Int) ∧ (b.toNat : Int) ≤ 57)
def valOf (l : List UInt8) : Int := l.foldl (fun a b => 10 * a + ((b.toNat : Int) - 48)) 0

theorem valOf_snoc (l : List UInt8) (c : UInt8) : valOf (l ++ [c]) = 10 * valOf l + ((c.toNat : Int) - 48) := by
  unfold valOf; rw [List.foldl_append]; rfl

/-- Bounds, by the count of digits. -/
theorem valOf_bound : ∀ (n : Nat) (l : List UInt8), l.length = n → l.all isDig = true → 0 ≤ valOf l ∧ valOf l < (10 ^ n : Nat)
  | 0, l, hl, _ => by
    have : l = [] := List.length_eq_zero_iff.1 hl
    subst this
    exact ⟨by decide, by decide⟩
  | n + 1, l, hl, ha => by
    rcases List.eq_nil_or_concat l with h | ⟨m, c, h⟩
    · subst h; simp at hl
    · subst h
      rw [List.concat_eq_append] at hl ha ⊢
      simp only [List.length_append, List.length_singleton] at hl
      rw [List.all_append] at ha
      simp only [Bool.and_eq_true, List.all_cons, List.all_nil, Bool.and_true] at ha
      obtain ⟨h1, h2⟩ := valOf_bound n m (by omega) ha.1
      have hd := ha.2
      unfold isDig at hd
      have hd := of_decide_eq_true hd
      rw [valOf_snoc]
      have : ((10 ^ (n + 1) : Nat) : Int) = 10 * ((10 ^ n : Nat) : Int) := by rw [Nat.pow_succ]; omega
      omega

theorem valOf_nine (l : List UInt8) (hl : l.length ≤ 9) (ha : l.all isDig = true) : 0 ≤ valOf l ∧ valOf l ≤ 999999999 := by
  obtain ⟨h1, h2⟩ := valOf_bound l.length l rfl ha
  have : (10 ^ l.length : Nat) ≤ 10 ^ 9 := Nat.pow_le_pow_right (by decide) hl
  have e : (10 ^ 9 : Nat) = 1000000000 := by decide
  omega

/-- The digits of a word: what follows a minus sign. -/
def body (l : List UInt8) : List UInt8 := if [45].isPrefixOf l then l.drop 1 else l

/-- The number that a word is, and whether it is one. -/
def num (l : List UInt8) : Int × Bool :=
  if l = [48] then (0, true)
  else if (body l).length < 1 ∨ 9 < (body l).length ∨ (body l).head? = some 48 then (0, false)
  else if (body l).all isDig then ((if (body l).length < l.length then -valOf (body l) else valOf (body l)), true)
  else (0, false)

end Go.Proofs.YtdbmocohcljbiaaGreatDoor
