/- periluneref37.Number returns the number that a word is: at every string. -/
import Derived.Test.YtdbmocohcljbiaaGreatDoorRefSign
import Derived.Test.YtdbmocohcljbiaaGreatDoorRefBare
import Derived.Test.YtdbmocohcljbiaaGreatDoorNumLaw
namespace Go.Proofs.YtdbmocohcljbiaaGreatDoor
open Go.RowKit Go.Lib

theorem get_int {d : ByteArray} (hp : 0 < d.size) (c : UInt8) : (((d[0].toNat : Int) == (c.toNat : Int)) = true ↔ d.data.toList.head? = some c) := by
  have hp' : 0 < d.data.toList.length := by simp; omega
  rw [List.head?_eq_getElem?, List.getElem?_eq_getElem hp']
  have e : d.data.toList[0] = d[0] := by simp [ByteArray.getElem_eq_getElem_data]
  rw [e]
  simp only [beq_iff_eq, Option.some.injEq]
  constructor
  · intro h; exact UInt8.toNat_inj.1 (by omega)
  · intro h; rw [h]

theorem ref_number_any (s : ByteArray) (w : World) :
    Calls Tryz.prog 7 #[.string s] w fun e w' => e = .returned (.tuple #[.int .i64 (num s.data.toList).1, .bool (num s.data.toList).2]) ∧ w' = w := by
  have hss : s.size = s.data.toList.length := by simp
  have htl : s.toList = s.data.toList := Lib.toList_data s
  have e45 : ((45 : UInt8).toNat : Int) = 45 := rfl
  have e48 : ((48 : UInt8).toNat : Int) = 48 := rfl
  by_cases hm : s.data.toList.head? = some 45
  · -- a sign
    have hp0 : 0 < s.size := by
      rw [hss]
      cases hd : s.data.toList with
      | nil => rw [hd] at hm; cases hm
      | cons x xs => simp
    have hsg : ((s[0].toNat : Int) == 45) = true := by rw [← e45]; exact (get_int hp0 45).2 hm
    obtain ⟨xs, hx⟩ : ∃ xs, s.data.toList = 45 :: xs := by
      cases hd : s.data.toList with
      | nil => rw [hd] at hm; cases hm
      | cons x xs => rw [hd] at hm; cases hm; exact ⟨xs, rfl⟩
    generalize hd : s.extract 1 s.size = d
    have hdl : d.data.toList = xs := by
      rw [← hd, ByteArray.data_extract, Array.toList_extract, hx]
      have : s.size = xs.length + 1 := by rw [hss, hx]; simp
      simp [this, List.extract]
    have hsz : d.size = xs.length := by rw [← hdl]; simp
    have hsz2 : s.size = xs.length + 1 := by rw [hss, hx]; simp
    have hs0 : (s.toList == [48]) = false := by rw [htl, hx]; simp
    rw [hx]
    unfold num
    rw [if_neg (by
      intro e
      simp only [List.cons.injEq] at e
      exact absurd e.1 (by decide)), body_minus]
    by_cases hb : xs.length < 1 ∨ 9 < xs.length ∨ xs.head? = some 48
    · rw [if_pos hb]
      refine ref_badS s d w hp0 hsg hd hs0 ?_
      by_cases h1 : d.size < 1
      · exact .inl h1
      · by_cases h9 : 9 < d.size
        · exact .inr (.inl h9)
        · refine .inr (.inr ⟨by omega, by omega, ?_⟩)
          rcases hb with hb | hb | hb
          · omega
          · omega
          · rw [← e48]; exact (get_int (by omega) 48).2 (by rw [hdl]; exact hb)
    · rw [if_neg hb]
      have hb1 : ¬ xs.length < 1 := fun h => hb (.inl h)
      have hb2 : ¬ 9 < xs.length := fun h => hb (.inr (.inl h))
      have hb3 : ¬ xs.head? = some 48 := fun h => hb (.inr (.inr h))
      have hp : 0 < d.size := by omega
      have hz : ((d[0].toNat : Int) == 48) = false := by
        cases hh : ((d[0].toNat : Int) == 48) with
        | false => rfl
        | true => rw [← e48] at hh; exact absurd ((get_int hp 48).1 hh) (by rw [hdl]; exact hb3)
      cases ha : xs.all isDig with
      | true =>
        rw [if_pos rfl, if_pos (by simp), ← hdl]
        exact ref_mainS s d w hp0 hsg hd hs0 (by omega) (by omega) hp hz (Lib.hid (by rw [hdl]; exact ha)) (by omega)
      | false =>
        rw [if_neg (by simp)]
        rw [← hdl] at ha
        obtain ⟨j, hj, h1, h2⟩ := first_no _ ha
        have hj' : j < d.size := by simpa using hj
        refine ref_signS s d w hp0 hsg hd hs0 (by omega) (by omega) hp hz j hj' ?_ (Lib.hid h1)
        have e : d.data.toList[j] = d[j] := by simp [ByteArray.getElem_eq_getElem_data]
        rw [e] at h2
        unfold isDig at h2
        have := of_decide_eq_false h2
        omega
  · -- no sign
    unfold num
    by_cases h0 : s.data.toList = [48]
    · rw [if_pos h0]
      exact ref_zeroN s w (by rw [htl, h0]; rfl)
    · rw [if_neg h0, body_keep hm]
      have hs0 : (s.toList == [48]) = false := by rw [htl]; simpa using h0
      have hsg : ∀ h : 0 < s.size, ((s[0].toNat : Int) == 45) = false := fun h => by
        cases hh : ((s[0].toNat : Int) == 45) with
        | false => rfl
        | true => rw [← e45] at hh; exact absurd ((get_int h 45).1 hh) hm
      by_cases hb : s.data.toList.length < 1 ∨ 9 < s.data.toList.length ∨ s.data.toList.head? = some 48
      · rw [if_pos hb]
        refine ref_badN s w hs0 ?_
        by_cases h1 : s.size < 1
        · exact .inl h1
        · by_cases h9 : 9 < s.size
          · exact .inr (.inl ⟨by omega, hsg (by omega), h9⟩)
          · refine .inr (.inr ⟨by omega, by omega, ?_, hsg (by omega)⟩)
            rcases hb with hb | hb | hb
            · omega
            · omega
            · rw [← e48]; exact (get_int (by omega) 48).2 hb
      · rw [if_neg hb]
        have hb1 : ¬ s.data.toList.length < 1 := fun h => hb (.inl h)
        have hb2 : ¬ 9 < s.data.toList.length := fun h => hb (.inr (.inl h))
        have hb3 : ¬ s.data.toList.head? = some 48 := fun h => hb (.inr (.inr h))
        have hp : 0 < s.size := by omega
        have hz : ((s[0].toNat : Int) == 48) = false := by
          cases hh : ((s[0].toNat : Int) == 48) with
          | false => rfl
          | true => rw [← e48] at hh; exact absurd ((get_int hp 48).1 hh) hb3
        cases ha : s.data.toList.all isDig with
        | true =>
          rw [if_pos rfl, if_neg (by omega)]
          exact ref_posN s w hs0 (by omega) (by omega) hp (hsg hp) hz (Lib.hid ha)
        | false =>
          rw [if_neg (by simp)]
          obtain ⟨j, hj, h1, h2⟩ := first_no _ ha
          have hj' : j < s.size := by simpa using hj
          refine ref_signN s w hs0 (by omega) (by omega) hp (hsg hp) hz j hj' ?_ (Lib.hid h1)
          have e : s.data.toList[j] = s[j] := by simp [ByteArray.getElem_eq_getElem_data]
          rw [e] at h2
          unfold isDig at h2
          have := of_decide_eq_false h2
          omega

end Go.Proofs.YtdbmocohcljbiaaGreatDoor
