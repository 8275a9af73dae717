/- periluneref37.Digits returns a number in decimal. -/
import Derived.Test.YtdbmocohcljbiaaGreatDoorProg
import Derived.WalkKit
import Derived.Lib.Walk
import Derived.Lib.Strings
import Derived.Lib.Slices
import Derived.Laws.Strings3
import Derived.KernelRfl
import Derived.IntWalk
import Derived.Lib.Hide
import Derived.Laws.BytesArg
import Derived.Laws.IdiomStrings
namespace Go.Proofs.YtdbmocohcljbiaaGreatDoor
open Go.RowKit Go.Lib

/-- A number in decimal. -/
def dec (n : Nat) : List UInt8 := if n < 10 then [UInt8.ofNat (48 + n)] else dec (n / 10) ++ [UInt8.ofNat (48 + n % 10)]
termination_by n
decreasing_by omega

theorem conv_one (W : World) (x : Int) : (convert 34 9 (.slice (some ⟨W.heap.size, 0, none⟩) 1 1)).run Tryz.prog (W.alloc (.cells #[.int .u8 x] 5)) = .ok (.string ⟨#[UInt8.ofNat x.toNat]⟩) (W.alloc (.cells #[.int .u8 x] 5)) := by
  have h := run_convert_bytes_arg (P := Tryz.prog) (W.alloc (.cells #[.int .u8 x] 5)) 34 5 Tryz.underlying34 Tryz.underlying5 W.heap.size 0 1 1 [x] rfl (fun i hi => by
    have : i = 0 := by omega
    subst this
    have := World.cell?_alloc_mark W #[.int .u8 x] 5 (0, 0) 0
    simp) 9 Tryz.underlying9
  rw [h]
  rfl

theorem u8_add (k : Nat) : UInt8.ofNat (48 + k) = 48 + UInt8.ofNat k := by simp
theorem dec_low {n : Nat} (h : n < 10) : dec n = [UInt8.ofNat (48 + n)] := by rw [dec, if_pos h]
theorem dec_high {n : Nat} (h : 9 < n) : dec n = dec (n / 10) ++ [UInt8.ofNat (48 + n % 10)] := by rw [dec, if_neg (by omega)]
theorem dec_length : ∀ (k n : Nat), n < 10 ^ (k + 1) → (dec n).length ≤ k + 1
  | 0, n, h => by rw [dec_low (by simpa using h)]; simp
  | k + 1, n, h => by
    by_cases h9 : 9 < n
    · rw [dec_high h9]
      have := dec_length k (n / 10) (by rw [Nat.pow_succ] at h; omega)
      simp; omega
    · rw [dec_low (by omega)]; simp

set_option maxRecDepth 100000 in
set_option maxHeartbeats 1000000 in
theorem digits_pos (n : Nat) (w : World) (hn : (n : Int) ≤ 9999999999) :
    Calls Tryz.prog 12 #[.int .i64 n] w fun e w' => e = .returned (.string ⟨(dec n).toArray⟩) ∧ Below w.heap.size w w' := by
  have hconv := conv_one
  have HL : Hid ((dec n).length ≤ 10) := Lib.hid (dec_length 9 n (by
    have : (10 : Nat) ^ (9 + 1) = 10000000000 := by decide
    omega))
  go_enter Tryz.func12, Tryz.ntmps12
  go_wp2
  go_loopw [0, 3] (fun i s w' => ∃ (m : Nat) (t : ByteArray), m ≤ n ∧ i = .int .i64 m ∧ s = .string t ∧ dec m ++ t.data.toList = dec n ∧ Below w.heap.size w w') (fun i _ _ => (RowKit.intOf i).toNat)
  case atStart => exact ⟨n, ⟨#[]⟩, Nat.le_refl _, rfl, rfl, by simp, Below.refl _ _⟩
  case round =>
    obtain ⟨m, t, hm, rfl, rfl, hdec, hb⟩ := hrel
    have ht : t.size ≤ 20 := by
      have h1 := congrArg List.length hdec
      have h2 := HL.out
      simp only [List.length_append] at h1
      have h3 : t.data.toList.length = t.size := by simp
      omega
    have HDEC := Lib.hid hdec
    have HB := Lib.hid hb
    have hbs := hb.size
    clear hdec hb
    by_cases h9 : 9 < (m : Int)
    · go_wp2
      go_roundw
      case rel =>
        refine ⟨m / 10, ⟨#[UInt8.ofNat (48 + m % 10)]⟩ ++ t, by omega, by simp, ?_, ?_, ?_⟩
        · rw [u8_add]
        · have e : (⟨#[UInt8.ofNat (48 + m % 10)]⟩ ++ t : ByteArray).data.toList = UInt8.ofNat (48 + m % 10) :: t.data.toList := by simp
          have h := dec_high (n := m) (by omega)
          rw [e, ← HDEC.out, h]
          simp
        · exact HB.out.trans (((Below.refl _ _).alloc (Nat.le_refl _) _).mono hbs)
      case measure => simp [RowKit.intOf]; omega
    · go_wp2
      go_ret
      refine ⟨?_, HB.out.trans (((Below.refl _ _).alloc (Nat.le_refl _) _).mono hbs)⟩
      have e : (⟨#[48 + UInt8.ofNat m]⟩ ++ t : ByteArray) = ⟨(dec n).toArray⟩ := by
        rw [← HDEC.out, dec_low (by omega)]
        apply ByteArray.ext
        apply Array.ext'
        simp
      rw [e]
      rfl
end Go.Proofs.YtdbmocohcljbiaaGreatDoor
