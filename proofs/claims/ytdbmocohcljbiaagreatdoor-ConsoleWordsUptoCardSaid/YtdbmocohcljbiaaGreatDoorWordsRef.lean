/- periluneref37.Words returns the words of a line. -/
import Derived.Test.YtdbmocohcljbiaaGreatDoorWordsWalk
namespace Go.Proofs.YtdbmocohcljbiaaGreatDoor
open Go.RowKit Go.Lib Go.Shelf

/-- The words of a line, the first of which has begun. -/
def cutW : List UInt8 → List UInt8 → List (List UInt8)
  | cur, [] => if cur.isEmpty then [] else [cur]
  | cur, c :: l => if c = 32 then (if cur.isEmpty then [] else [cur]) ++ cutW [] l else cutW (cur ++ [c]) l

theorem bytes_extract (s : ByteArray) (a b : Nat) : (s.extract a b).data.toList = (s.data.toList.drop a).take (b - a) := by
  rw [ByteArray.data_extract, Array.toList_extract]

set_option maxHeartbeats 1000000 in
set_option maxRecDepth 1000000 in
theorem ref_words_walk (s : ByteArray) (w : World) (hs : s.size ≤ 1048576) (W : List ByteArray) (hW : Hid (W.map (·.data.toList) = cutW [] s.data.toList)) :
    Calls Tryz.prog 10 #[.string s] w (OwnStrs w W) := by
  have hi9 : (Tryz.prog.info? 9).map (fun i => (i.zero, i.size, i.bytes)) = some (some (.string ByteArray.empty), 1, 16) := by kernel_rfl
  obtain ⟨i0, hi, hx⟩ := Option.map_eq_some_iff.1 hi9
  simp only [Prod.mk.injEq] at hx
  obtain ⟨hz0, hz1, hz2⟩ := hx
  clear hi9
  go_enter Tryz.func10, Tryz.ntmps10
  go_wp2
  go_loopg [3, 4, 5] (s.size + 1) (fun g s3 s4 s5 wx => ∃ (k f : Nat) (ks : List ByteArray), k + g = s.size + 1 ∧ f ≤ k ∧ s5 = .int .i64 k ∧ s4 = .int .i64 f ∧ (k ≤ s.size → Aside (ks.map (·.data.toList) ++ cutW ((s.data.toList.drop f).take (k - f)) (s.data.toList.drop k) = cutW [] s.data.toList)) ∧
    (s.size < k → Aside (ks.map (·.data.toList) = cutW [] s.data.toList)) ∧ ks.length ≤ k ∧
    wx.ownsRow w.heap.size 9 1 s3 ks.length (ks.map Value.string) ∧ Below w.heap.size w wx)
  case atStart => exact ⟨0, 0, [], by omega, by omega, rfl, rfl, fun _ => by show _ = _; simp, fun h => by omega, Nat.le_refl _, World.ownsRow_nil _ _ _ _, Below.refl _ _⟩
  case round =>
    obtain ⟨k, f, ks, hkg, hfk, rfl, rfl, HI, HE, hkl, hrow, hbx⟩ := hrel
    cases gk with
    | zero =>
      have hkz : ¬ ((k : Int) ≤ (s.size : Int)) := by omega
      have HK := HE (by omega)
      have X : Aside (wr.ownsRow w.heap.size 9 1 _ ks.length (ks.map Value.string) ∧ Below w.heap.size w wr) := ⟨hrow, hbx⟩
      clear hrow hbx HI HE
      go_wp2
      go_ret
      have e : ks = W := by
        have h := HK.out.trans hW.out.symm
        have inj : ∀ (a b : List ByteArray), a.map (·.data.toList) = b.map (·.data.toList) → a = b := by
          intro a
          induction a with
          | nil => intro b h; cases b with
            | nil => rfl
            | cons _ _ => cases h
          | cons x xs ih => intro b h; cases b with
            | nil => cases h
            | cons y ys =>
              simp only [List.map_cons, List.cons.injEq] at h
              rw [ih ys h.2]
              congr 1
              exact ByteArray.ext (Array.ext' h.1)
        exact inj _ _ h
      subst e
      exact ⟨_, rfl, X.out.1, X.out.2⟩
    | succ g =>
      have hkz : (k : Int) ≤ (s.size : Int) := by omega
      have HI := HI (by omega)
      clear HE
      have hsx := hbx.size
      have hsl : s.data.toList.length = s.size := by simp
      by_cases hend : k < s.size
      · have hdk : s.data.toList.drop k = s[k] :: s.data.toList.drop (k + 1) := by
          rw [List.drop_eq_getElem_cons (by simpa using hend)]; rfl
        by_cases hsp : s[k] = 32
        · have hspi : ((s[k].toNat : Int) == 32) = true := by rw [hsp]; rfl
          by_cases hfk2 : f < k
          · have hfki : ((f : Int) < (k : Int)) := by omega
            have hfd : decide ((f : Int) < (k : Int)) = true := decide_eq_true hfki
            have hne : ((s.data.toList.drop f).take (k - f)).isEmpty = false := by
              cases hh : ((s.data.toList.drop f).take (k - f)) with
              | nil =>
                have := congrArg List.length hh
                simp at this; omega
              | cons _ _ => rfl
            have HI2 : Aside ((ks ++ [s.extract f k]).map (·.data.toList) ++ cutW ((s.data.toList.drop (k + 1)).take (k + 1 - (k + 1))) (s.data.toList.drop (k + 1)) = cutW [] s.data.toList) := by
              show _ = _
              rw [← HI.out, hdk, cutW, if_pos hsp, hne]
              simp
            go_wp2_with (first
                      | (at_builtin; refine wpList_append_own _ rfl _ _ 24 rfl w.heap.size 9 i0 (.string ByteArray.empty) 1 16 Tryz.underlying24 hi hz0 hz1 hz2 rfl (by decide) _ _ _ rfl (hrow.alloc _) ⟨wr.heap.size, 0, none⟩ 1 1 [.string (s.extract f k)] rfl rfl (cell_one_new _ _ _) (fun x hx => by simp at hx; subst hx; rfl) (by unfold maxLen; omega) (by omega) (by simp; omega) ?_; intro v' w3 hown' hgrow3 hnil3))
            go_roundg g
            case measure => omega
            case rel =>
              refine ⟨k + 1, k + 1, ks ++ [s.extract f k], by omega, by omega, by first | rfl | simp, by first | rfl | simp, fun _ => HI2, fun h => by omega, by simp; omega, ?_, (hbx.alloc (by omega) _).grown hgrow3 (by simp; omega) (fun q hq => (hrow.lt q hq).1)⟩
              rw [List.map_append, List.length_append]
              exact hown'
          · obtain rfl : f = k := by omega
            have hfd : decide ((f : Int) < (f : Int)) = false := decide_eq_false (by omega)
            have HI2 : Aside (ks.map (·.data.toList) ++ cutW ((s.data.toList.drop (f + 1)).take (f + 1 - (f + 1))) (s.data.toList.drop (f + 1)) = cutW [] s.data.toList) := by
              show _ = _
              rw [← HI.out, hdk, cutW, if_pos hsp]
              simp
            go_wp2
            go_roundg g
            case measure => omega
            case rel => exact ⟨f + 1, f + 1, ks, by omega, by omega, by first | rfl | simp, by first | rfl | simp, fun _ => HI2, fun h => by omega, by omega, hrow, hbx⟩
        · -- inside a word
          have hspi : ((s[k].toNat : Int) == 32) = false := by
            cases hh : ((s[k].toNat : Int) == 32) with
            | false => rfl
            | true =>
              exfalso
              apply hsp
              apply UInt8.toNat_inj.1
              have := eq_of_beq hh
              have e32 : (32 : UInt8).toNat = 32 := rfl
              omega
          have HI2 : Aside (ks.map (·.data.toList) ++ cutW ((s.data.toList.drop f).take (k + 1 - f)) (s.data.toList.drop (k + 1)) = cutW [] s.data.toList) := by
            show _ = _
            rw [← HI.out, hdk, cutW, if_neg hsp]
            congr 2
            rw [show k + 1 - f = (k - f) + 1 by omega, List.take_succ_eq_append_getElem (by simp; omega)]
            congr 2
            simp [show f + (k - f) = k by omega]
            rfl
          go_wp2
          go_roundg g
          case measure => omega
          case rel => exact ⟨k + 1, f, ks, by omega, by omega, by first | rfl | simp, rfl, fun _ => HI2, fun h => by omega, by omega, hrow, hbx⟩
      · have hdn : s.data.toList.drop k = [] := List.drop_eq_nil_of_le (by omega)
        have hkd : decide ((k : Int) < (s.size : Int)) = false := decide_eq_false (by omega)
        by_cases hfk2 : f < k
        · have hfki : ((f : Int) < (k : Int)) := by omega
          have hfd : decide ((f : Int) < (k : Int)) = true := decide_eq_true hfki
          have hne : ((s.data.toList.drop f).take (k - f)).isEmpty = false := by
            cases hh : ((s.data.toList.drop f).take (k - f)) with
            | nil =>
              have := congrArg List.length hh
              simp at this; omega
            | cons _ _ => rfl
          have HI2 : Aside ((ks ++ [s.extract f k]).map (·.data.toList) = cutW [] s.data.toList) := by
            show _ = _
            rw [← HI.out, hdn, cutW, hne]
            simp
          go_wp2_with (first
                    | (at_builtin; refine wpList_append_own _ rfl _ _ 24 rfl w.heap.size 9 i0 (.string ByteArray.empty) 1 16 Tryz.underlying24 hi hz0 hz1 hz2 rfl (by decide) _ _ _ rfl (hrow.alloc _) ⟨wr.heap.size, 0, none⟩ 1 1 [.string (s.extract f k)] rfl rfl (cell_one_new _ _ _) (fun x hx => by simp at hx; subst hx; rfl) (by unfold maxLen; omega) (by omega) (by simp; omega) ?_; intro v' w3 hown' hgrow3 hnil3))
          go_roundg g
          case measure => omega
          case rel =>
            refine ⟨k + 1, k + 1, ks ++ [s.extract f k], by omega, by omega, by first | rfl | simp, by first | rfl | simp, fun h => by omega, fun _ => HI2, by simp; omega, ?_, (hbx.alloc (by omega) _).grown hgrow3 (by simp; omega) (fun q hq => (hrow.lt q hq).1)⟩
            rw [List.map_append, List.length_append]
            exact hown'
        · obtain rfl : f = k := by omega
          have hfd : decide ((f : Int) < (f : Int)) = false := decide_eq_false (by omega)
          have HI2 : Aside (ks.map (·.data.toList) = cutW [] s.data.toList) := by
            show _ = _
            rw [← HI.out, hdn, cutW]
            simp
          go_wp2
          go_roundg g
          case measure => omega
          case rel => exact ⟨f + 1, f + 1, ks, by omega, by omega, by first | rfl | simp, by first | rfl | simp, fun h => by omega, fun _ => HI2, by omega, hrow, hbx⟩
end Go.Proofs.YtdbmocohcljbiaaGreatDoor
