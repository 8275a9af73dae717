/- console.Number returns the number that a word is: at every string. -/
import Derived.Test.YtdbmocohcljbiaaGreatDoorNumWalk
namespace Go.Proofs.YtdbmocohcljbiaaGreatDoor
open Go.RowKit Go.Lib

theorem first_no : ∀ (l : List UInt8), l.all isDig = false → ∃ (j : Nat) (h : j < l.length), (l.take j).all isDig = true ∧ isDig l[j] = false
  | [], h => by simp at h
  | a :: l, h => by
    cases ha : isDig a with
    | false => exact ⟨0, by simp, by simp, by simpa using ha⟩
    | true =>
      simp only [List.all_cons, ha, Bool.true_and] at h
      obtain ⟨j, h1, h2, h3⟩ := first_no l h
      exact ⟨j + 1, by simpa using h1, by simp [ha, h2], by simpa using h3⟩

theorem body_eq (l : List UInt8) : Lib.trimPrefix l [45] = body l := rfl

theorem body_length (l : List UInt8) : (body l).length ≤ l.length := by
  unfold body; split
  · simp
  · exact Nat.le_refl _

theorem number_any (s : ByteArray) (w : World) :
    Calls Tryz.prog 6 #[.string s] w fun e w' => e = .returned (.tuple #[.int .i64 (num s.data.toList).1, .bool (num s.data.toList).2]) ∧ w' = w := by
  have hd : ∀ w : World, Calls Tryz.prog 14 #[.string s, .string ⟨#[45]⟩] w fun e w' => e = .returned (.string ⟨(body s.data.toList).toArray⟩) ∧ w' = w := fun w => trimPrefix_any s ⟨#[45]⟩ w
  generalize hdd : (⟨(body s.data.toList).toArray⟩ : ByteArray) = d at hd
  have hl : d.data.toList = body s.data.toList := by rw [← hdd]
  have hsz : d.size = (body s.data.toList).length := by rw [← hl]; simp
  have hss : s.size = s.data.toList.length := by simp
  have htl : s.toList = s.data.toList := Lib.toList_data s
  have hbl := body_length s.data.toList
  unfold num
  by_cases h0 : s.data.toList = [48]
  · rw [if_pos h0]
    exact number_zero s d w hd (by rw [htl, h0]; rfl)
  · rw [if_neg h0]
    have hs0 : (s.toList == [48]) = false := by rw [htl]; simpa using h0
    by_cases hb : (body s.data.toList).length < 1 ∨ 9 < (body s.data.toList).length ∨ (body s.data.toList).head? = some 48
    · rw [if_pos hb]
      refine number_bad s d w hd hs0 ?_
      by_cases h1 : d.size < 1
      · exact .inl h1
      · by_cases h9 : 9 < d.size
        · exact .inr (.inl h9)
        · refine .inr (.inr ⟨by omega, by omega, ?_⟩)
          rcases hb with hb | hb | hb
          · omega
          · omega
          · rw [← hl] at hb
            have hp : 0 < d.data.toList.length := by simp; omega
            have : d[0]'(by omega) = 48 := by
              rw [List.head?_eq_getElem?, List.getElem?_eq_getElem hp] at hb
              simpa [ByteArray.getElem_eq_getElem_data] using hb
            rw [this]; rfl
    · rw [if_neg hb]
      have hb1 : ¬ (body s.data.toList).length < 1 := fun h => hb (.inl h)
      have hb2 : ¬ 9 < (body s.data.toList).length := fun h => hb (.inr (.inl h))
      have hb3 : ¬ (body s.data.toList).head? = some 48 := fun h => hb (.inr (.inr h))
      have hp : 0 < d.size := by omega
      have hz : ((d[0].toNat : Int) == 48) = false := by
        rw [← hl] at hb3
        have hp' : 0 < d.data.toList.length := by simp; omega
        rw [List.head?_eq_getElem?, List.getElem?_eq_getElem hp'] at hb3
        have hne : d[0] ≠ 48 := fun e => hb3 (by rw [← e]; simp [ByteArray.getElem_eq_getElem_data])
        have : d[0].toNat ≠ 48 := fun e => hne (UInt8.toNat_inj.1 (by rw [e]; rfl))
        simp; omega
      cases ha : (body s.data.toList).all isDig with
      | true =>
        rw [if_pos rfl]
        by_cases hlt : (body s.data.toList).length < s.data.toList.length
        · rw [if_pos hlt, ← hl]
          exact number_main s d w hd hs0 (by omega) (by omega) hp hz (Lib.hid (by rw [hl]; exact ha)) (by omega)
        · rw [if_neg hlt, ← hl]
          exact number_pos s d w hd hs0 (by omega) (by omega) hp hz (Lib.hid (by rw [hl]; exact ha)) (by omega)
      | false =>
        rw [if_neg (by simp)]
        rw [← hl] at ha
        obtain ⟨j, hj, h1, h2⟩ := first_no _ ha
        have hj' : j < d.size := by simpa using hj
        refine number_sign s d w hd hs0 (by omega) (by omega) hp hz j hj' ?_ (Lib.hid h1)
        have e : d.data.toList[j] = d[j] := by simp [ByteArray.getElem_eq_getElem_data]
        rw [e] at h2
        unfold isDig at h2
        have := of_decide_eq_false h2
        omega

end Go.Proofs.YtdbmocohcljbiaaGreatDoor
