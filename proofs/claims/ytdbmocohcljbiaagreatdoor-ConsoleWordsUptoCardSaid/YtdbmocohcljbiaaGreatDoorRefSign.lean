/- periluneref37.Number returns the number that a word is. -/
import Derived.Test.YtdbmocohcljbiaaGreatDoorNumAny
namespace Go.Proofs.YtdbmocohcljbiaaGreatDoor
open Go.RowKit Go.Lib

set_option maxHeartbeats 1000000 in
/-- The part behind the sign, as it is laid. -/
theorem ref_mainS (s d : ByteArray) (w : World) (hp0 : 0 < s.size) (hsg : ((s[0].toNat : Int) == 45) = true) (hd : s.extract 1 s.size = d)
    (hs0 : (s.toList == [48]) = false) (h1 : 1 ≤ (d.size : Int)) (h9 : (d.size : Int) ≤ 9) (hp : 0 < d.size) (hz : ((d[0].toNat : Int) == 48) = false) (hall : Hid (d.data.toList.all isDig = true)) (hlt : (d.size : Int) < s.size) :
    Calls Tryz.prog 7 #[.string s] w fun e w' => e = .returned (.tuple #[.int .i64 (-valOf d.data.toList), .bool true]) ∧ w' = w := by
  have h1' : decide ((d.size : Int) < 1) = false := by simp; omega
  have h9' : decide (9 < (d.size : Int)) = false := by simp; omega
  go_enter Tryz.func7, Tryz.ntmps7
  go_wp2
  have hall' := hall.out
  have hdig : ∀ k (h : k < d.size), 48 ≤ (d[k].toNat : Int) ∧ (d[k].toNat : Int) ≤ 57 := fun k h => by
    have := List.all_eq_true.1 hall' d[k] (by simp [ByteArray.getElem_eq_getElem_data])
    unfold isDig at this
    exact of_decide_eq_true this
  have hval : ∀ k, k ≤ d.size → 0 ≤ valOf (d.data.toList.take k) ∧ valOf (d.data.toList.take k) ≤ 999999999 := fun k h =>
    valOf_nine _ (by
      have h1 := List.length_take_le k d.data.toList
      omega) (List.all_eq_true.2 fun x hx => List.all_eq_true.1 hall' x (List.mem_of_mem_take hx))
  have hfull : d.data.toList.take d.size = d.data.toList := List.take_of_length_le (by simp)
  have HD := Lib.hid hdig
  have HV := Lib.hid hval
  have HF := Lib.hid hfull
  clear hdig hval hfull hall'
  go_loop [5, 6] (fun n i => ∃ k : Nat, k ≤ d.size ∧ i = .int .i64 k ∧ n = .int .i64 (valOf (d.data.toList.take k))) (fun _ i => d.size - (RowKit.intOf i).toNat)
  case atStart => exact ⟨0, Nat.zero_le _, rfl, rfl⟩
  case round =>
    obtain ⟨k, hk, rfl, rfl⟩ := hrel
    obtain ⟨hv0, hv1⟩ := HV.out k hk
    by_cases hkd : k < d.size
    · obtain ⟨hd0, hd1⟩ := HD.out k hkd
      have hsn := valOf_snoc (d.data.toList.take k) d[k]
      have hts := take_snoc' d k hkd
      have HS : Hid (valOf (d.data.toList.take (k + 1)) = 10 * valOf (d.data.toList.take k) + ((d[k].toNat : Int) - 48)) := by rw [hts]; exact hsn
      clear hsn hts
      go_wp2
      all_goals
        go_round
        case rel => exact ⟨k + 1, by omega, by go_num, by rw [HS.out]⟩
        case measure => simp [RowKit.intOf]; omega
    · have hke : k = d.size := by omega
      subst hke
      rw [HF.out] at hv0 hv1 ⊢
      go_wp2
      go_ret2
      exact ⟨ret2_int (by first | rfl | (unfold wrap64; omega)), rfl⟩
set_option maxHeartbeats 1000000 in
/-- The same without a sign. -/
theorem ref_posS (s d : ByteArray) (w : World) (hp0 : 0 < s.size) (hsg : ((s[0].toNat : Int) == 45) = true) (hd : s.extract 1 s.size = d)
    (hs0 : (s.toList == [48]) = false) (h1 : 1 ≤ (d.size : Int)) (h9 : (d.size : Int) ≤ 9) (hp : 0 < d.size) (hz : ((d[0].toNat : Int) == 48) = false) (hall : Hid (d.data.toList.all isDig = true)) (hlt : (s.size : Int) ≤ d.size) :
    Calls Tryz.prog 7 #[.string s] w fun e w' => e = .returned (.tuple #[.int .i64 (valOf d.data.toList), .bool true]) ∧ w' = w := by
  have hlt' : decide ((d.size : Int) < s.size) = false := by simp; omega
  have h1' : decide ((d.size : Int) < 1) = false := by simp; omega
  have h9' : decide (9 < (d.size : Int)) = false := by simp; omega
  go_enter Tryz.func7, Tryz.ntmps7
  go_wp2
  have hall' := hall.out
  have hdig : ∀ k (h : k < d.size), 48 ≤ (d[k].toNat : Int) ∧ (d[k].toNat : Int) ≤ 57 := fun k h => by
    have := List.all_eq_true.1 hall' d[k] (by simp [ByteArray.getElem_eq_getElem_data])
    unfold isDig at this
    exact of_decide_eq_true this
  have hval : ∀ k, k ≤ d.size → 0 ≤ valOf (d.data.toList.take k) ∧ valOf (d.data.toList.take k) ≤ 999999999 := fun k h =>
    valOf_nine _ (by
      have h1 := List.length_take_le k d.data.toList
      omega) (List.all_eq_true.2 fun x hx => List.all_eq_true.1 hall' x (List.mem_of_mem_take hx))
  have hfull : d.data.toList.take d.size = d.data.toList := List.take_of_length_le (by simp)
  have HD := Lib.hid hdig
  have HV := Lib.hid hval
  have HF := Lib.hid hfull
  clear hdig hval hfull hall'
  go_loop [5, 6] (fun n i => ∃ k : Nat, k ≤ d.size ∧ i = .int .i64 k ∧ n = .int .i64 (valOf (d.data.toList.take k))) (fun _ i => d.size - (RowKit.intOf i).toNat)
  case atStart => exact ⟨0, Nat.zero_le _, rfl, rfl⟩
  case round =>
    obtain ⟨k, hk, rfl, rfl⟩ := hrel
    obtain ⟨hv0, hv1⟩ := HV.out k hk
    by_cases hkd : k < d.size
    · obtain ⟨hd0, hd1⟩ := HD.out k hkd
      have hsn := valOf_snoc (d.data.toList.take k) d[k]
      have hts := take_snoc' d k hkd
      have HS : Hid (valOf (d.data.toList.take (k + 1)) = 10 * valOf (d.data.toList.take k) + ((d[k].toNat : Int) - 48)) := by rw [hts]; exact hsn
      clear hsn hts
      go_wp2
      all_goals
        go_round
        case rel => exact ⟨k + 1, by omega, by go_num, by rw [HS.out]⟩
        case measure => simp [RowKit.intOf]; omega
    · have hke : k = d.size := by omega
      subst hke
      rw [HF.out] at hv0 hv1 ⊢
      go_wp2
      go_ret2
      exact ⟨ret2_int (by first | rfl | (unfold wrap64; omega)), rfl⟩

set_option maxHeartbeats 1000000 in
theorem ref_badS (s d : ByteArray) (w : World) (hp0 : 0 < s.size) (hsg : ((s[0].toNat : Int) == 45) = true) (hd : s.extract 1 s.size = d) (hs0 : (s.toList == [48]) = false)
    (hb : d.size < 1 ∨ 9 < d.size ∨ ∃ h : 0 < d.size, (d.size : Int) ≤ 9 ∧ ((d[0].toNat : Int) == 48) = true) :
    Calls Tryz.prog 7 #[.string s] w fun e w' => e = .returned (.tuple #[.int .i64 0, .bool false]) ∧ w' = w := by
  rcases hb with h | h | ⟨h, h9, hz⟩
  · have h1' : decide ((d.size : Int) < 1) = true := by simp; omega
    go_enter Tryz.func7, Tryz.ntmps7
    go_wp2
    all_goals (go_ret2; exact ⟨rfl, rfl⟩)
  · have h1' : decide ((d.size : Int) < 1) = false := by simp; omega
    have h9' : decide (9 < (d.size : Int)) = true := by simp; omega
    go_enter Tryz.func7, Tryz.ntmps7
    go_wp2
    all_goals (go_ret2; exact ⟨rfl, rfl⟩)
  · have h1' : decide ((d.size : Int) < 1) = false := by simp; omega
    have h9' : decide (9 < (d.size : Int)) = false := by simp; omega
    go_enter Tryz.func7, Tryz.ntmps7
    go_wp2
    all_goals (go_ret2; exact ⟨rfl, rfl⟩)
set_option maxHeartbeats 1000000 in
/-- A sign that is no digit, at place j. -/
theorem ref_signS (s d : ByteArray) (w : World) (hp0 : 0 < s.size) (hsg : ((s[0].toNat : Int) == 45) = true) (hd : s.extract 1 s.size = d)
    (hs0 : (s.toList == [48]) = false) (h1 : 1 ≤ (d.size : Int)) (h9 : (d.size : Int) ≤ 9) (hp : 0 < d.size) (hz : ((d[0].toNat : Int) == 48) = false) (j : Nat) (hj : j < d.size) (hnd : ((d[j].toNat : Int) < 48) ∨ (57 < (d[j].toNat : Int))) (hall : Hid ((d.data.toList.take j).all isDig = true)) :
    Calls Tryz.prog 7 #[.string s] w fun e w' => e = .returned (.tuple #[.int .i64 0, .bool false]) ∧ w' = w := by
  have h1' : decide ((d.size : Int) < 1) = false := by simp; omega
  have h9' : decide (9 < (d.size : Int)) = false := by simp; omega
  go_enter Tryz.func7, Tryz.ntmps7
  go_wp2
  have hall' := hall.out
  have hdig : ∀ k (h : k < d.size), k < j → 48 ≤ (d[k].toNat : Int) ∧ (d[k].toNat : Int) ≤ 57 := fun k h hkj => by
    have := List.all_eq_true.1 hall' d[k] (by
      rw [List.mem_take_iff_getElem]
      exact ⟨k, by simp; omega, by simp [ByteArray.getElem_eq_getElem_data]⟩)
    unfold isDig at this
    exact of_decide_eq_true this
  have hval : ∀ k, k ≤ j → 0 ≤ valOf (d.data.toList.take k) ∧ valOf (d.data.toList.take k) ≤ 999999999 := fun k h =>
    valOf_nine _ (by
      have h1 := List.length_take_le k d.data.toList
      omega) (List.all_eq_true.2 fun x hx => List.all_eq_true.1 hall' x (List.mem_of_mem_take (i := k) (by rw [List.take_take, Nat.min_eq_left h]; exact hx)))
  have HD := Lib.hid hdig
  have HV := Lib.hid hval
  clear hdig hval hall'
  go_loop [5, 6] (fun n i => ∃ k : Nat, k ≤ j ∧ i = .int .i64 k ∧ n = .int .i64 (valOf (d.data.toList.take k))) (fun _ i => d.size - (RowKit.intOf i).toNat)
  case atStart => exact ⟨0, Nat.zero_le _, rfl, rfl⟩
  case round =>
    obtain ⟨k, hk, rfl, rfl⟩ := hrel
    obtain ⟨hv0, hv1⟩ := HV.out k hk
    by_cases hkj : k < j
    · have hkd : k < d.size := by omega
      obtain ⟨hd0, hd1⟩ := HD.out k hkd hkj
      have hsn := valOf_snoc (d.data.toList.take k) d[k]
      have hts := take_snoc' d k hkd
      have HS : Hid (valOf (d.data.toList.take (k + 1)) = 10 * valOf (d.data.toList.take k) + ((d[k].toNat : Int) - 48)) := by rw [hts]; exact hsn
      clear hsn hts
      go_wp2
      all_goals
        go_round
        case rel => exact ⟨k + 1, by omega, by go_num, by rw [HS.out]⟩
        case measure => simp [RowKit.intOf]; omega
    · obtain rfl : k = j := by omega
      rcases hnd with hnd | hnd
      · have hnd' : decide ((d[k].toNat : Int) < 48) = true := by simpa using hnd
        go_wp2
        all_goals (go_ret2; exact ⟨rfl, rfl⟩)
      · have hnd' : decide ((d[k].toNat : Int) < 48) = false := by simp; omega
        have hnd2 : decide (57 < (d[k].toNat : Int)) = true := by simpa using hnd
        go_wp2
        all_goals (go_ret2; exact ⟨rfl, rfl⟩)

end Go.Proofs.YtdbmocohcljbiaaGreatDoor
