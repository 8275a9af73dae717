/- The parts between blanks that are not empty are the words: plain lists. -/
import Derived.Test.YtdbmocohcljbiaaGreatDoorWordsRef
namespace Go.Proofs.YtdbmocohcljbiaaGreatDoor
open Go.Lib

theorem index_one : ∀ (l : List UInt8), (Lib.index l [32] = -1 ∧ (32 : UInt8) ∉ l) ∨ ∃ a b, l = a ++ 32 :: b ∧ (32 : UInt8) ∉ a ∧ Lib.index l [32] = a.length
  | [] => .inl ⟨rfl, by simp⟩
  | c :: l => by
    by_cases hc : c = 32
    · subst hc
      exact .inr ⟨[], l, rfl, by simp, by simp [Lib.index, List.isPrefixOf]⟩
    · have hp : [32].isPrefixOf (c :: l) = false := by
        simp [List.isPrefixOf]; exact fun e => hc e.symm
      rcases index_one l with ⟨h1, h2⟩ | ⟨a, b, h1, h2, h3⟩
      · refine .inl ⟨?_, ?_⟩
        · simp [Lib.index, hp, h1]
        · simp [h2]; exact fun e => hc e.symm
      · refine .inr ⟨c :: a, b, by simp [h1], ?_, ?_⟩
        · simp [h2]; exact fun e => hc e.symm
        · have : ¬ (Lib.index l [32] == -1) = true := by rw [h3]; simp
          unfold Lib.index
          rw [if_neg (by rw [hp]; simp), if_neg this, h3]
          simp

theorem cutW_none : ∀ (l cur : List UInt8), (32 : UInt8) ∉ l → cutW cur l = if (cur ++ l).isEmpty then [] else [cur ++ l]
  | [], cur, _ => by simp [cutW]
  | c :: l, cur, h => by
    have hc : c ≠ 32 := fun e => h (by simp [e])
    rw [cutW, if_neg hc, cutW_none l _ (fun e => h (by simp [e]))]
    simp

theorem cutW_hit : ∀ (a cur b : List UInt8), (32 : UInt8) ∉ a → cutW cur (a ++ 32 :: b) = (if (cur ++ a).isEmpty then [] else [cur ++ a]) ++ cutW [] b
  | [], cur, b, _ => by simp [cutW]
  | c :: a, cur, b, h => by
    have hc : c ≠ 32 := fun e => h (by simp [e])
    rw [List.cons_append, cutW, if_neg hc, cutW_hit a _ b (fun e => h (by simp [e]))]
    simp

theorem keepW_map (l : List ByteArray) : (keepW l).map (·.data.toList) = (l.map (·.data.toList)).filter (fun x => !x.isEmpty) := by
  unfold keepW
  induction l with
  | nil => rfl
  | cons p l ih =>
    have e : p.toList = p.data.toList := Lib.toList_data p
    simp only [List.filter_cons, List.map_cons, e]
    cases p.data.toList.isEmpty <;> simp [ih]

theorem split_words : ∀ (k : Nat) (s : ByteArray), Lib.countB s ⟨#[32]⟩ = k → ((Lib.splitB ⟨#[32]⟩ 0 k s).map (·.data.toList)).filter (fun x => !x.isEmpty) = cutW [] s.data.toList
  | 0, s, hk => by
    rcases index_one s.data.toList with ⟨h1, h2⟩ | ⟨a, b, h1, h2, h3⟩
    · rw [cutW_none _ _ h2]
      simp only [Lib.splitB, List.map_cons, List.map_nil, List.filter_cons, List.filter_nil, List.nil_append]
      cases s.data.toList.isEmpty <;> rfl
    · have := Lib.countB_hit s ⟨#[32]⟩ a.length (by decide) h3
      omega
  | k + 1, s, hk => by
    rcases index_one s.data.toList with ⟨h1, h2⟩ | ⟨a, b, h1, h2, h3⟩
    · have := Lib.countB_miss s ⟨#[32]⟩ h1
      omega
    · have hc := Lib.countB_hit s ⟨#[32]⟩ a.length (by decide) h3
      have hsz : s.size = a.length + (b.length + 1) := by
        have := congrArg List.length h1
        simpa using this
      have hb : (s.extract (a.length + 1) s.size).data.toList = b := by
        rw [bytes_extract, h1, hsz]
        simp
        exact List.take_of_length_le (by omega)
      have ha : (s.extract 0 (a.length + 0)).data.toList = a := by
        rw [bytes_extract, h1]
        simp
      have e1 : (⟨#[32]⟩ : ByteArray).size = 1 := rfl
      rw [e1] at hc
      have ih := split_words k (s.extract (a.length + 1) s.size) (by omega)
      rw [hb] at ih
      rw [Lib.splitB_hit ⟨#[32]⟩ 0 k s a.length h3, e1, List.map_cons, List.filter_cons, ha, ih, h1, cutW_hit a [] b h2]
      cases a with
      | nil => rfl
      | cons x xs => rfl

theorem words_eq (s : ByteArray) : (keepW (Lib.splitB ⟨#[32]⟩ 0 (Lib.countB s ⟨#[32]⟩) s)).map (·.data.toList) = cutW [] s.data.toList := by
  rw [keepW_map, split_words _ s rfl]

end Go.Proofs.YtdbmocohcljbiaaGreatDoor
