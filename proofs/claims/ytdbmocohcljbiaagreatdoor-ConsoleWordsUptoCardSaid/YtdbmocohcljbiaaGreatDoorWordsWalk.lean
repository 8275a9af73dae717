/- console.Words returns the parts between blanks that are not empty. -/
import Derived.Test.YtdbmocohcljbiaaGreatDoorSplit
import Derived.WalkKit
import Derived.Below
import Derived.Lib.Walk
import Derived.Lib.Split
import Derived.Lib.SplitLaws
import Derived.Lib.Hide
import Derived.Laws.AppendOwn
import Derived.Laws.OwnMore
import Derived.Laws.IdiomStrings
import Derived.OwnWalk
import Derived.Maps.AppendAt
import Derived.Deep.LoopGhost
import Derived.Deep.Draws
import Derived.Deep.Onto
namespace Go.Proofs.YtdbmocohcljbiaaGreatDoor
open Go.RowKit Go.Lib Go.Shelf

def keepW (l : List ByteArray) : List ByteArray := l.filter fun p => !p.toList.isEmpty

/-- What the call leaves: a slice of its own that holds these strings. -/
def OwnStrs (w : World) (ws : List ByteArray) (e : Ending) (w' : World) : Prop :=
  ∃ v, e = .returned v ∧ w'.ownsRow w.heap.size 9 1 v ws.length (ws.map Value.string) ∧ Below w.heap.size w w'

theorem cell_one_new (w : World) (x : Value) (t : TypeId) : ∀ (j : Nat) u, [x][j]? = some u → (w.alloc (.cells #[x] t)).cell? ((⟨w.heap.size, 0, none⟩ : Addr).add j) = some u := by
  intro j u hj
  cases j with
  | zero =>
    simp at hj; subst hj
    simp [Addr.add]
  | succ j => simp at hj

theorem own_em (v : Value) : v.ownBlock = none ∨ v.ownBlock ≠ none := Classical.em _

set_option maxHeartbeats 1000000 in
set_option maxRecDepth 1000000 in
theorem words_walk (s : ByteArray) (m : Int) (w : World) (hs : s.size ≤ 1048576) (hm : w.cell? ⟨0, 0, none⟩ = some (.int .i64 m)) :
    Calls Tryz.prog 8 #[.string s] w (OwnStrs w (keepW (Lib.splitB ⟨#[32]⟩ 0 (Lib.countB s ⟨#[32]⟩) s))) := by
  have hi9 : (Tryz.prog.info? 9).map (fun i => (i.zero, i.size, i.bytes)) = some (some (.string ByteArray.empty), 1, 16) := by kernel_rfl
  obtain ⟨i0, hi, hx⟩ := Option.map_eq_some_iff.1 hi9
  simp only [Prod.mk.injEq] at hx
  obtain ⟨hz0, hz1, hz2⟩ := hx
  clear hi9
  have cS := Tryz.strings_Split s ⟨#[32]⟩ m w (by omega) hm (by decide)
  have hlen := Lib.splitB_all ⟨#[32]⟩ (by decide) 0 (Lib.countB s ⟨#[32]⟩) s rfl
  have hcle := Lib.countB_le ⟨#[32]⟩ (by decide) s.size s (Nat.le_refl _)
  generalize hPs : Lib.splitB ⟨#[32]⟩ 0 (Lib.countB s ⟨#[32]⟩) s = Ps at cS hlen
  generalize hN : Lib.countB s ⟨#[32]⟩ = N at cS hlen hcle hPs
  clear hPs hN
  go_enter Tryz.func8, Tryz.ntmps8
  go_wp2_with (go_at_call 15; refine cS.mono ?_; rintro e w' ⟨rfl, hw⟩; rw [hw])
  have hcell : ∀ (j : Nat) p, Ps[j]? = some p → (w.alloc (.cells (Ps.map Value.string).toArray 9)).cell? ⟨w.heap.size, j, none⟩ = some (.string p) := fun j p hj => by
    have h := World.cell?_alloc_mark w (Ps.map Value.string).toArray 9 (0, 0) j
    rw [show (w.alloc (.cells (Ps.map Value.string).toArray 9)) = (w.alloc (.cells (Ps.map Value.string).toArray 9 (0, 0))) from rfl, h]
    simp [hj]
  have hsz1 : (w.alloc (.cells (Ps.map Value.string).toArray 9)).heap.size = w.heap.size + 1 := by simp
  have hb0 : Below w.heap.size w (w.alloc (.cells (Ps.map Value.string).toArray 9)) := (Below.refl _ _).alloc (Nat.le_refl _) _
  generalize hW1 : w.alloc (.cells (Ps.map Value.string).toArray 9) = W1 at hcell hsz1 hb0 ⊢
  have HC : Aside (∀ (j : Nat) p, Ps[j]? = some p → W1.cell? ⟨w.heap.size, j, none⟩ = some (.string p)) := hcell
  have HB0 : Aside (Below w.heap.size w W1) := hb0
  have HL : Aside (Ps.length = N + 1) := hlen
  clear hcell hb0 hW1 hlen cS
  go_loopg [3, 9] (N + 1) (fun g s3 s9 wx => ∃ (k : Nat) (ks : List ByteArray), k + g = N + 1 ∧ s9 = .int .i64 k ∧ Aside (ks ++ keepW (Ps.drop k) = keepW Ps) ∧ ks.length ≤ k ∧
    wx.ownsRow (w.heap.size + 1) 9 1 s3 ks.length (ks.map Value.string) ∧ Below (w.heap.size + 1) W1 wx)
  case atStart => exact ⟨0, [], by omega, rfl, rfl, Nat.le_refl _, World.ownsRow_nil _ _ _ _, Below.refl _ _⟩
  case round =>
    obtain ⟨k, ks, hkg, rfl, HI, hkl, hrow, hbx⟩ := hrel
    cases gk with
    | zero =>
      have hkz : ¬ ((k : Int) < (N : Int) + 1) := by omega
      have HK : Aside (ks = keepW Ps) := by
        have := HI.out
        rw [List.drop_eq_nil_of_le (by have := HL.out; omega)] at this
        show ks = _
        simpa [keepW] using this
      have X : Aside (wr.ownsRow (w.heap.size + 1) 9 1 _ ks.length (ks.map Value.string) ∧ Below (w.heap.size + 1) W1 wr) := ⟨hrow, hbx⟩
      clear hrow hbx
      go_wp2
      go_ret
      rw [← HK.out]
      exact ⟨_, rfl, World.ownsRow.mono X.out.1 (by omega), HB0.out.trans (X.out.2.mono (by omega))⟩
    | succ g =>
      have hkz : (k : Int) < (N : Int) + 1 := by omega
      obtain ⟨p, hp⟩ : ∃ p, Ps[k]? = some p := ⟨_, List.getElem?_eq_getElem (by have := HL.out; omega)⟩
      have hdrop : Ps.drop k = p :: Ps.drop (k + 1) := by
        obtain ⟨h1, h2⟩ := List.getElem?_eq_some_iff.1 hp
        rw [← h2]; exact List.drop_eq_getElem_cons h1
      have hcellp : wr.cell? ⟨w.heap.size, k, none⟩ = some (.string p) := (hbx.cell (p := ⟨w.heap.size, k, none⟩) (by simp)).trans (HC.out k p hp)
      have hsx := hbx.size
      cases hemp : p.toList.isEmpty with
      | true =>
        have HI2 : Aside (ks ++ keepW (Ps.drop (k + 1)) = keepW Ps) := by
          show _ = _
          rw [← HI.out, hdrop]
          simp [keepW, hemp]
        go_wp2
        go_roundg g
        case measure => omega
        case rel => exact ⟨k + 1, ks, by omega, by first | rfl | simp, HI2, by omega, hrow, hbx⟩
      | false =>
        have HI2 : Aside ((ks ++ [p]) ++ keepW (Ps.drop (k + 1)) = keepW Ps) := by
          show _ = _
          rw [← HI.out, hdrop]
          simp [keepW, hemp]
        go_wp2_with (first
          | (at_builtin; refine wpList_append_own _ rfl _ _ 24 rfl (w.heap.size + 1) 9 i0 (.string ByteArray.empty) 1 16 Tryz.underlying24 hi hz0 hz1 hz2 rfl (by decide) _ _ _ rfl (hrow.alloc _) ⟨wr.heap.size, 0, none⟩ 1 1 [.string p] rfl rfl (cell_one_new _ _ _) (fun x hx => by simp at hx; subst hx; rfl) (by unfold maxLen; omega) (by omega) (by simp; omega) ?_; intro v' w3 hown' hgrow3 hnil3))
        go_roundg g
        case measure => omega
        case rel =>
          refine ⟨k + 1, ks ++ [p], by omega, by first | rfl | simp, HI2, by simp; omega, ?_, (hbx.alloc (by omega) _).grown hgrow3 (by simp; omega) (fun q hq => (hrow.lt q hq).1)⟩
          rw [List.map_append, List.length_append]
          exact hown'
end Go.Proofs.YtdbmocohcljbiaaGreatDoor
