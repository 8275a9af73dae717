/- The examples of the chapter have the answers that it gives: whatever the heap, console.Run answers the four scripts so, and the law returns true. -/
import Derived.Test.YtdbmocohcljbiaaGreatDoorRunB
import Derived.Test.YtdbmocohcljbiaaGreatDoorFactE
import Derived.Test.YtdbmocohcljbiaaGreatDoorCards
import Derived.Test.YtdbmocohcljbiaaGreatDoorTie
import Derived.WalkKit
import Derived.ProofKit
import Derived.Handy
import Derived.Lay
import Derived.SevenTiedAt
import Derived.SizedLaws
import Derived.Deep.DeepHandedRow
namespace Go.Proofs.YtdbmocohcljbiaaGreatDoor
open Go Go.AE Go.Proofs Go.ChangeShapes Go.WideShapes Go.ChangeAt Go.RowKit

/-- A run whose argument and result are strings, as a known call. -/
theorem known_str {f : FuncId} {sIn sOut : List UInt8} {m d : Nat} (hb : bodyIs (T.fn.get f) = true) (run : isStr sOut (callVF T (runAF T m) d h0 (.func (.func f) [] []) [.str sIn]) = true)
    (N0 : Nat) (w0 : World) (φ : Phi) (h : AHp) (w : World) (args : Array Value) (hg : Gl T φ) (r : Rel N0 w0 φ h w) (ha : VRels φ [.str sIn] args.toList) :
    Calls T.P f args w fun e w' => ∃ u φ', e = .returned u ∧ VRel φ' (.str sOut) u ∧ Rel N0 w0 φ' h w' ∧ Post φ φ' h h w w' := by
  obtain ⟨h', hrun⟩ := isStr_of run
  rw [callVF_runAF] at hrun
  have ha0 : VRels (phi0 T.ng) [.str sIn] args.toList := by
    generalize args.toList = l at ha
    cases ha with
    | cons _ _ _ _ h1 h2 =>
      cases h2
      cases h1
      exact .cons _ _ _ _ (.str _) .nil
  refine (calls_closed T_ok (by show 7 ≤ maxT + 1; unfold maxT; omega) (hg.bound r) hb hrun ha0).mono fun e w' => ?_
  rintro ⟨u, φ', rfl, h1, h2⟩
  obtain ⟨r', p'⟩ := r.grown h2
  cases h1
  exact ⟨_, φ, rfl, .str _, r', p'⟩

/-- The four scripts. -/
def K : KnownF := fun h f xs =>
  cond (Nat.beq f 13)
    (match xs with
    | [.str s] => cond (beqBytes s liveIn) (some (.str liveOut, h)) (cond (beqBytes s aIn) (some (.str aOut, h)) (cond (beqBytes s bIn) (some (.str bOut, h)) (cond (beqBytes s cIn) (some (.str cOut, h)) none)))
    | _ => none) none

theorem body13 : bodyIs (T.fn.get 13) = true := by kernel_rfl
theorem body5 : bodyIs (T.fn.get 5) = true := by kernel_rfl

theorem known : Known T K := by
  intro h f xs v h' hk
  unfold K at hk
  replace hk := cond_some hk; obtain ⟨hf, hk⟩ := hk
  have hf : f = 13 := Nat.eq_of_beq_eq_true hf
  subst hf
  refine ⟨body13, ?_⟩
  split at hk
  · rename_i s
    cases h1 : beqBytes s liveIn with
    | true =>
      rw [h1] at hk
      cases hk
      rw [beqBytes_of _ _ h1]
      exact fun N0 w0 φ w args hg r ha => known_str body13 run_live N0 w0 φ h w args hg r ha
    | false =>
      rw [h1] at hk
      cases h2 : beqBytes s aIn with
      | true =>
        rw [h2] at hk
        cases hk
        rw [beqBytes_of _ _ h2]
        exact fun N0 w0 φ w args hg r ha => known_str body13 run_a N0 w0 φ h w args hg r ha
      | false =>
        rw [h2] at hk
        cases h3 : beqBytes s bIn with
        | true =>
          rw [h3] at hk
          cases hk
          rw [beqBytes_of _ _ h3]
          exact fun N0 w0 φ w args hg r ha => known_str body13 run_b N0 w0 φ h w args hg r ha
        | false =>
          rw [h3] at hk
          cases h4 : beqBytes s cIn with
          | true =>
            rw [h4] at hk
            cases hk
            rw [beqBytes_of _ _ h4]
            exact fun N0 w0 φ w args hg r ha => known_str body13 run_c N0 w0 φ h w args hg r ha
          | false => rw [h4] at hk; cases hk
  · cases hk

theorem run_known : isBool true (callV T (runK T K 1000) 3 h0 (.func (.func 5) [] []) []) = true := by kernel_rfl

/-- THE LAW: the call returns true, whatever lies in memory. -/
theorem law (W : World) (hW : 7 ≤ W.heap.size) : Calls Tryz.prog 5 #[] W fun e W' => e = .returned (.bool true) ∧ Below W.heap.size W W' := by
  obtain ⟨h', hrun⟩ := isBool_of run_known
  refine (calls_known (N0 := W.heap.size) (w0 := W) (φ := phi0 T.ng) (w := W) (args := #[]) T_ok known body5 hrun (gl0 T) (rel0 (n := 7) (by unfold maxT; omega) hW) .nil).mono fun e W' => ?_
  rintro ⟨u, φ', rfl, h1, h2, _⟩
  cases h1
  exact ⟨rfl, h2.below⟩

theorem own : ownKnob Tryz.prog.godebug = none := by kernel_rfl

set_option maxRecDepth 100000 in
theorem witness_row (os : Os) {H : Type} (enc : TypeId × Value → H) :
    (OpenSpec.ofChange Rows.consoleKnownSpec).preRow enc Tryz.prog Tryz.f5 [] false Rows.consoleKnownRow.laid ((World.laidAll Tryz.prog os Rows.consoleKnownRow.laid).forCall (fun _ _ => 0) ⟨#[], #[], []⟩).memory #[] := by
  have hw : (DataW.whole enc Tryz.prog ((World.laidAll Tryz.prog os Rows.consoleKnownRow.laid).forCall (fun _ _ => 0) ⟨#[], #[], []⟩).memory Tryz.f5.params.toList (OpenSpec.ofChange Rows.consoleKnownSpec).vars false #[].toList 8).map (fun x => (x.1, x.2.1)) =
      some ([], []) := by kernel_rfl
  obtain ⟨⟨x1, x2, x3⟩, hx, hx1⟩ := Option.map_eq_some_iff.1 hw
  simp only [Prod.mk.injEq] at hx1
  obtain ⟨rfl, rfl⟩ := hx1
  exact OpenSpec.preRow_of_cond 8 hx (by kernel_rfl) (fun k hk => by cases hk) (by kernel_rfl) (laidMet_laidAll _ (by kernel_rfl) (by kernel_rfl))

theorem globals7 : Tryz.prog.globals.size = 7 := by kernel_rfl
theorem begin7 : Nat.blt 7 (begin Tryz.prog (fun _ _ => 0) default).world.heap.size = true := by kernel_rfl

theorem size_of_shaped {W : World} (h : W.ShapedOpen Tryz.prog) : 7 ≤ W.heap.size := by
  obtain ⟨o, _, h1, _⟩ := h.2 7 (by rw [globals7]; exact Nat.le_refl _) (Nat.le_of_ble_eq_true begin7)
  have := (Array.getElem?_eq_some_iff.1 h1).1
  omega

set_option maxRecDepth 100000 in
theorem lifted (os : Os) (started : os.Started) (H : Type) (enc : TypeId × Value → H) (F : Stop.Interp) :
    ReturnsInHanded {} Tryz.checked os 5 .any ((OpenSpec.ofChange Rows.consoleKnownSpec).preRow enc Tryz.prog Tryz.f5 [] false Rows.consoleKnownRow.laid) (((OpenSpec.ofChange Rows.consoleKnownSpec).at F).post enc Tryz.prog Tryz.f5 false true false false) := by
  refine returnsInHanded_of_row (C := Tryz.checked) (s := OpenSpec.ofChange Rows.consoleKnownSpec) own started (by kernel_rfl) Tryz.func5
    ⟨World.laidAll Tryz.prog os Rows.consoleKnownRow.laid, fun _ _ => 0, ⟨#[], #[], []⟩, World.laidAll_os _ _ _, World.shaped_of_ZipB (by kernel_rfl) (by kernel_rfl), rfl, (Input.okWide_of_okWideB (by kernel_rfl)).2, witness_row os enc, by
      simp only [Assume.holds]
      exact ⟨by simp, by simp, fun _ => Modest.zero, by simp, by simp⟩⟩ ?_
  intro W base args ds gs before hval0 hW _ _ _ _ hsh _
  have hW' := hW
  obtain ⟨p, q, hA0, hV0, rfl, _, _⟩ := hW
  have hA : DataW.TrodAll enc Tryz.prog W 0 (fun _ => true) true Tryz.f5.params.toList args.toList ds p := hA0
  rw [Tryz.params5] at hA
  obtain ⟨rfl, rfl, rfl⟩ := trodAll_none hA
  obtain ⟨rfl, rfl⟩ := trodVars_none hV0
  refine (law W (size_of_shaped hsh)).mono fun e W' ⟨he, hb⟩ => ?_
  subst he
  exact ⟨_, rfl, _, _, _, [], [], [], hW', trodAll_mk1 (shut_bool Tryz.underlying4 _), trodAll_mk0, rfl, hb.frame _, fun h => by cases h⟩

theorem holds : Rows.ConsoleKnownSaid :=
  OpenClaim.holds_of_wide 5 Tryz.f5 rfl rfl rfl rfl rfl rfl rfl ⟨rfl, rfl, rfl, rfl, rfl⟩ rfl rfl rfl rfl rfl (by kernel_rfl) Tryz.func5 closed
    (of_decide_eq_true (by kernel_rfl)) (by unfold Func.isWrapper; first | (rw [if_pos (by decide +kernel)]; kernel_rfl) | (rw [if_neg (by decide +kernel)]; exact ⟨rfl, rfl⟩))
    (fun os started H enc _ => by rw [OpenClaim.pre_eq_preRow]; exact lifted os started H enc (fun _ _ _ => 0))

theorem card_holds : Rows.ConsoleKnownCardSaid :=
  Claim7.holds_tied_plain_at .later [] [.data, .data, .data, .data, .data, .pinned] true (true, "0041c607a5147cd7c226c8584b90f1011646490d5ec91cc45c42e64fc03e949b") true holds (fun _ h => by cases h) fact32 (fun _ h => by cases h) consoleKnown_row_tie rfl ⟨rfl, rfl⟩ (by kernel_rfl) rfl
    (fun f fn hf hfn => by
      obtain rfl : f = 5 := Option.some.inj ((show Tryz.prog.funcNamed "perilune/perilunelaw37.ConsoleKnown" = some 5 by kernel_rfl).symm.trans hf) |>.symm
      obtain rfl : fn = Tryz.f5 := (Option.some.inj (Tryz.func5.symm.trans hfn)).symm
      exact ⟨eq_of_beq fact33, fun j t ht => by
        rw [Tryz.params5] at ht
        simp at ht⟩)
    goes_fact
#print axioms card_holds

end Go.Proofs.YtdbmocohcljbiaaGreatDoor
