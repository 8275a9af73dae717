/- The law's own example: live returns true, whatever lies in memory. -/
import Derived.Test.YtdbmocohcljbiaaGreatDoorRunB
namespace Go.Proofs.YtdbmocohcljbiaaGreatDoor
open Go Go.AE Go.Proofs Go.RowKit

/-- A run whose argument and result are strings, as a known call. -/
theorem live_str {f : FuncId} {sIn sOut : List UInt8} {m d : Nat} (hb : bodyIs (T.fn.get f) = true) (run : isStr sOut (callVF T (runAF T m) d h0 (.func (.func f) [] []) [.str sIn]) = true)
    (N0 : Nat) (w0 : World) (φ : Phi) (h : AHp) (w : World) (args : Array Value) (hg : Gl T φ) (r : Rel N0 w0 φ h w) (ha : VRels φ [.str sIn] args.toList) :
    Calls T.P f args w fun e w' => ∃ u φ', e = .returned u ∧ VRel φ' (.str sOut) u ∧ Rel N0 w0 φ' h w' ∧ Post φ φ' h h w w' := by
  obtain ⟨h', hrun⟩ := isStr_of run
  rw [callVF_runAF] at hrun
  have ha0 : VRels (phi0 T.ng) [.str sIn] args.toList := by
    generalize args.toList = l at ha
    cases ha with
    | cons _ _ _ _ h1 h2 =>
      cases h2
      cases h1
      exact .cons _ _ _ _ (.str _) .nil
  refine (calls_closed T_ok (by show 7 ≤ maxT + 1; unfold maxT; omega) (hg.bound r) hb hrun ha0).mono fun e w' => ?_
  rintro ⟨u, φ', rfl, h1, h2⟩
  obtain ⟨r', p'⟩ := r.grown h2
  cases h1
  exact ⟨_, φ, rfl, .str _, r', p'⟩

/-- The example's script. -/
def KL : KnownF := fun h f xs =>
  cond (Nat.beq f 13)
    (match xs with
    | [.str s] => cond (beqBytes s liveIn) (some (.str liveOut, h)) none
    | _ => none) none

theorem live_body13 : bodyIs (T.fn.get 13) = true := by kernel_rfl
theorem live_body11 : bodyIs (T.fn.get 11) = true := by kernel_rfl

theorem knownL : Known T KL := by
  intro h f xs v h' hk
  unfold KL at hk
  replace hk := cond_some hk; obtain ⟨hf, hk⟩ := hk
  have hf : f = 13 := Nat.eq_of_beq_eq_true hf
  subst hf
  refine ⟨live_body13, ?_⟩
  split at hk
  · rename_i s
    cases h1 : beqBytes s liveIn with
    | true =>
      rw [h1] at hk
      cases hk
      rw [beqBytes_of _ _ h1]
      exact fun N0 w0 φ w args hg r ha => live_str live_body13 run_live N0 w0 φ h w args hg r ha
    | false => rw [h1] at hk; cases hk
  · cases hk

theorem run_live11 : isBool true (callV T (runK T KL 1000) 3 h0 (.func (.func 11) [] []) []) = true := by kernel_rfl

theorem live_any (W : World) (hW : 7 ≤ W.heap.size) : Calls Tryz.prog 11 #[] W fun e W' => e = .returned (.bool true) ∧ Below W.heap.size W W' := by
  obtain ⟨h', hrun⟩ := isBool_of run_live11
  refine (calls_known (N0 := W.heap.size) (w0 := W) (φ := phi0 T.ng) (w := W) (args := #[]) T_ok knownL live_body11 hrun (gl0 T) (rel0 (n := 7) (by unfold maxT; omega) hW) .nil).mono fun e W' => ?_
  rintro ⟨u, φ', rfl, h1, h2, _⟩
  cases h1
  exact ⟨rfl, h2.below⟩

theorem live_own : ownKnob Tryz.prog.godebug = none := by kernel_rfl
theorem live_globals7 : Tryz.prog.globals.size = 7 := by kernel_rfl
theorem live_begin7 : Nat.blt 7 (begin Tryz.prog (fun _ _ => 0) default).world.heap.size = true := by kernel_rfl
theorem live_size {W : World} (h : W.ShapedOpen Tryz.prog) : 7 ≤ W.heap.size := by
  obtain ⟨o, _, h1, _⟩ := h.2 7 (by rw [live_globals7]; exact Nat.le_refl _) (Nat.le_of_ble_eq_true live_begin7)
  have := (Array.getElem?_eq_some_iff.1 h1).1
  omega

end Go.Proofs.YtdbmocohcljbiaaGreatDoor
