/- strings.TrimPrefix of this program returns the string less the prefix. -/
import Derived.Test.YtdbmocohcljbiaaGreatDoorProg
import Derived.WalkKit
import Derived.Lib.Walk
import Derived.Lib.Strings
import Derived.Lib.Slices
import Derived.Laws.Strings3
import Derived.KernelRfl
namespace Go.Proofs.YtdbmocohcljbiaaGreatDoor
open Go.RowKit Go.Lib

set_option maxHeartbeats 1000000 in
theorem hasPrefix_any (s p : ByteArray) (w : World) : Calls Tryz.prog 21 #[.string s, .string p] w fun e w' => e = .returned (.bool (Lib.hasPrefix s.data.toList p.data.toList)) ∧ w' = w := by
  rw [← Lib.hasPrefix_of_take, ← Lib.size_eq, ← Lib.size_eq]
  go_enter Tryz.func21, Tryz.ntmps21
  go_wp2
  · rename_i h
    go_ret
    refine ⟨?_, rfl⟩
    show Ending.returned (Value.bool ((s.extract 0 p.size).toList == p.toList)) = _
    rw [Lib.extract_toList, Lib.toList_data]
    simp [h]
  · rename_i h
    go_ret
    refine ⟨?_, rfl⟩
    show Ending.returned (Value.bool false) = _
    simp [h]

set_option maxHeartbeats 1000000 in
theorem trimPrefix_lite (s p : ByteArray) (w : World) : Calls Tryz.prog 19 #[.string s, .string p] w fun e w' => e = .returned (.string ⟨(Lib.trimPrefix s.data.toList p.data.toList).toArray⟩) ∧ w' = w := by
  by_cases h1 : p.size ≤ s.size
  · cases h2 : ((s.extract 0 p.size).toList == p.toList)
    · have hh : Lib.hasPrefix s.data.toList p.data.toList = false := by rw [← Lib.hasPrefix_raw, h2]; simp
      go_enter Tryz.func19, Tryz.ntmps19
      go_wp2_with (go_at_call 21; refine (hasPrefix_any _ _ _).mono ?_; rintro e w' ⟨rfl, hw⟩; rw [hw, hh])
      go_ret
      refine ⟨?_, rfl⟩
      rw [Lib.trimPrefix_miss s p (by rw [h2]; simp)]
      rfl
    · have hh : Lib.hasPrefix s.data.toList p.data.toList = true := by rw [← Lib.hasPrefix_raw, h2]; simp [h1]
      go_enter Tryz.func19, Tryz.ntmps19
      go_wp2_with (go_at_call 21; refine (hasPrefix_any _ _ _).mono ?_; rintro e w' ⟨rfl, hw⟩; rw [hw, hh])
      go_ret
      refine ⟨?_, rfl⟩
      rw [Lib.trimPrefix_hit s p h1 h2]
      rfl
  · have hh : Lib.hasPrefix s.data.toList p.data.toList = false := by rw [← Lib.hasPrefix_raw]; simp [h1]
    go_enter Tryz.func19, Tryz.ntmps19
    go_wp2_with (go_at_call 21; refine (hasPrefix_any _ _ _).mono ?_; rintro e w' ⟨rfl, hw⟩; rw [hw, hh])
    go_ret
    refine ⟨?_, rfl⟩
    rw [Lib.trimPrefix_miss s p (by simp [h1])]
    rfl

set_option maxHeartbeats 1000000 in
theorem trimPrefix_any (s p : ByteArray) (w : World) : Calls Tryz.prog 14 #[.string s, .string p] w fun e w' => e = .returned (.string ⟨(Lib.trimPrefix s.data.toList p.data.toList).toArray⟩) ∧ w' = w := by
  go_enter Tryz.func14, Tryz.ntmps14
  go_wp2_with (go_at_call 19; refine (trimPrefix_lite _ _ _).mono ?_; rintro e w' ⟨rfl, hw⟩; rw [hw])
  go_ret
  exact ⟨rfl, rfl⟩

end Go.Proofs.YtdbmocohcljbiaaGreatDoor
