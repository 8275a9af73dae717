/- perilunelaw37.strings of two slices that hold the same strings is true. -/
import Derived.Test.YtdbmocohcljbiaaGreatDoorWordsPlain
import Derived.Deep.QuietTactic
import Derived.BigQuiet
namespace Go.Proofs.YtdbmocohcljbiaaGreatDoor
open Go.RowKit Go.Lib Go.Shelf

/-- A slice that holds these strings. -/
def Reads (w : World) (v : Value) (ws : List ByteArray) : Prop :=
  (v = .slice none 0 0 ∧ ws = []) ∨ ∃ g cap, v = .slice (some ⟨g, 0, none⟩) ws.length cap ∧ ∀ (j : Nat) p, ws[j]? = some p → w.cell? ⟨g, j, none⟩ = some (.string p)

set_option maxHeartbeats 1000000 in
set_option maxRecDepth 1000000 in
theorem strings_some (g1 g2 c1 c2 : Nat) (ws : List ByteArray) (n : Nat) (hn : ws.length = n) (w : World) (hlt : n ≤ 1048577)
    (h1 : Aside (∀ (j : Nat) p, ws[j]? = some p → w.cell? ⟨g1, j, none⟩ = some (.string p))) (h2 : Aside (∀ (j : Nat) p, ws[j]? = some p → w.cell? ⟨g2, j, none⟩ = some (.string p))) :
    Calls Tryz.prog 9 #[.slice (some ⟨g1, 0, none⟩) n c1, .slice (some ⟨g2, 0, none⟩) n c2] w fun e w' => e = .returned (.bool true) ∧ ∃ q, w' = w.drewN q := by
  have HN := Lib.hid hn
  clear hn
  go_enter Tryz.func9, Tryz.ntmps9
  go_wp2
  go_loopw [5] (fun i w' => ∃ (k q : Nat), k ≤ n ∧ i = .int .i64 k ∧ w' = w.drewN q) (fun i _ => n - (RowKit.intOf i).toNat)
  case atStart => exact ⟨0, 0, Nat.zero_le _, rfl, rfl⟩
  case round =>
    obtain ⟨k, q, hk, rfl, rfl⟩ := hrel
    by_cases hkn : (k : Int) < (n : Int)
    · obtain ⟨p, hp⟩ : ∃ p, ws[k]? = some p := ⟨_, List.getElem?_eq_getElem (by have := HN.out; omega)⟩
      have c1 := h1.out k p hp
      have c2 := h2.out k p hp
      go_wp2
      go_quiet (fail)
      go_wp2
      go_roundw
      case rel => exact ⟨k + 1, _, by omega, by first | rfl | simp, by first | rfl | exact drewN_add _ _ _⟩
      case measure => simp [RowKit.intOf]; omega
    · go_wp2
      go_ret
      exact ⟨rfl, q, rfl⟩

set_option maxHeartbeats 1000000 in
theorem strings_none (a1 a2 : Option Addr) (c1 c2 : Nat) (w : World) :
    Calls Tryz.prog 9 #[.slice a1 0 c1, .slice a2 0 c2] w fun e w' => e = .returned (.bool true) ∧ ∃ q, w' = w.drewN q := by
  go_enter Tryz.func9, Tryz.ntmps9
  go_wp2
  go_loop [5] (fun i => i = .int .i64 0) (fun _ => 0)
  case atStart => rfl
  case round =>
    obtain rfl := hrel
    go_wp2
    go_ret
    exact ⟨rfl, 0, rfl⟩

theorem strings_any (v1 v2 : Value) (ws : List ByteArray) (w : World) (hl : ws.length ≤ 1048577) (h1 : Reads w v1 ws) (h2 : Reads w v2 ws) :
    Calls Tryz.prog 9 #[v1, v2] w fun e w' => e = .returned (.bool true) ∧ ∃ q, w' = w.drewN q := by
  rcases h1 with ⟨rfl, rfl⟩ | ⟨g1, c1, rfl, h1⟩
  · rcases h2 with ⟨rfl, _⟩ | ⟨g2, c2, rfl, _⟩
    · exact strings_none _ _ _ _ _
    · exact strings_none _ _ _ _ _
  · rcases h2 with ⟨rfl, rfl⟩ | ⟨g2, c2, rfl, h2⟩
    · exact strings_none _ _ _ _ _
    · exact strings_some g1 g2 c1 c2 ws ws.length rfl w hl h1 h2

theorem Reads.of_own {w : World} {base : Nat} {v : Value} {ws : List ByteArray} (h : w.ownsRow base 9 1 v ws.length (ws.map Value.string)) : Reads w v ws := by
  rcases h.2 with ⟨h0, hn⟩ | ⟨g, cap, cur, hv, _⟩
  · exact .inl ⟨h0, List.length_eq_zero_iff.1 hn⟩
  · subst hv
    refine .inr ⟨g, cap, rfl, fun j p hj => ?_⟩
    rw [World.ownsRow.cellAt h j (by have := (List.getElem?_eq_some_iff.1 hj).1; omega)]
    rw [List.getElem?_map, hj]; rfl

theorem Reads.below {w w' : World} {v : Value} {ws : List ByteArray} (h : Reads w v ws) (hb : Below w.heap.size w w') : Reads w' v ws := by
  rcases h with h | ⟨g, cap, hv, hc⟩
  · exact .inl h
  · refine .inr ⟨g, cap, hv, fun j p hj => ?_⟩
    have h1 := hc j p hj
    rw [hb.cell (p := ⟨g, j, none⟩) (World.block_lt_of_cell? _ _ h1)]
    exact h1

end Go.Proofs.YtdbmocohcljbiaaGreatDoor
