/- Every number from -999999999 to 999999999, written in decimal, is that number; with a leading zero, a plus sign or a tenth digit it is none; and the example of the chapter has its answers: whatever the argument, the law returns true. -/
import Derived.Test.YtdbmocohcljbiaaGreatDoorLive
import Derived.Test.YtdbmocohcljbiaaGreatDoorNumbersWalk
import Derived.Test.YtdbmocohcljbiaaGreatDoorNumLaw
import Derived.Test.YtdbmocohcljbiaaGreatDoorNumFactE
import Derived.Test.YtdbmocohcljbiaaGreatDoorCards
import Derived.Test.YtdbmocohcljbiaaGreatDoorTie
import Derived.WalkKit
import Derived.ProofKit
import Derived.Handy
import Derived.Lay
import Derived.SevenTiedAt
import Derived.SizedLaws
import Derived.Deep.DeepHandedRow
namespace Go.Proofs.YtdbmocohcljbiaaGreatDoor
open Go Go.Proofs Go.ChangeShapes Go.WideShapes Go.ChangeAt Go.RowKit

theorem digits_any {r : Int} (h0 : -999999999 ≤ r) (h1 : r ≤ 9999999999) (w : World) : Calls Tryz.prog 12 #[.int .i64 r] w fun e w' => e = .returned (.string ⟨(decI r).toArray⟩) ∧ Below w.heap.size w w' := by
  unfold decI
  by_cases hr : r < 0
  · rw [if_pos hr]
    have e : r = -(r.natAbs : Int) := by omega
    have := digits_neg r.natAbs w (by omega) (by omega)
    rw [← e] at this
    exact this
  · rw [if_neg hr]
    have e : r = (r.natAbs : Int) := by omega
    have := digits_pos r.natAbs w (by omega)
    rw [← e] at this
    exact this

theorem decI_length {r : Int} (h0 : -999999999 ≤ r) (h1 : r ≤ 1000000000) : (decI r).length ≤ 11 := by
  have h := dec_length 9 r.natAbs (by
    have : (10 : Nat) ^ (9 + 1) = 10000000000 := by decide
    omega)
  unfold decI
  split
  · simp; omega
  · omega

theorem number_at (s : ByteArray) (l : List UInt8) (hl : s.data.toList = l) (v : Int) (b : Bool) (hv : (num l).1 = v) (hb : (num l).2 = b) (w : World) :
    Calls Tryz.prog 6 #[.string s] w fun e w' => e = .returned (.tuple #[.int .i64 v, .bool b]) ∧ w' = w := by
  have := number_any s w
  rw [hl, hv, hb] at this
  exact this

/-- THE LAW: the call returns true, whatever its argument, whatever lies in memory. -/
theorem numbers_law (n : Int) (W : World) (hW : 7 ≤ W.heap.size) : Calls Tryz.prog 4 #[.int .i64 n] W fun e W' => e = .returned (.bool true) ∧ Below W.heap.size W W' := by
  have hb : -999999999 ≤ n.tmod 1000000000 ∧ n.tmod 1000000000 ≤ 999999999 := by
    cases n with
    | ofNat a =>
      have e : (Int.ofNat a).tmod 1000000000 = ((a % 1000000000 : Nat) : Int) := rfl
      rw [e]; omega
    | negSucc a =>
      have e : (Int.negSucc a).tmod 1000000000 = -(((a + 1) % 1000000000 : Nat) : Int) := rfl
      rw [e]; omega
  generalize hr : n.tmod 1000000000 = r at hb
  obtain ⟨hb0, hb1⟩ := hb
  have hne : decI r ≠ [] := fun e => by
    have h := num_decI hb0 hb1
    rw [e] at h
    have h2 : (num []).2 = true := by rw [h]
    exact absurd h2 (by decide)
  have hbig : decI 1000000000 = dec 1000000000 := by
    unfold decI
    rw [if_neg (by decide)]
    have e : (1000000000 : Int).natAbs = 1000000000 := by decide
    rw [e]
  have hlong : (num (49 :: decI 1000000000)).2 = false := by rw [hbig]; exact num_long
  refine law4_walk n r (num (48 :: decI r)).1 (num (43 :: decI r)).1 (num (49 :: decI 1000000000)).1 ⟨(decI r).toArray⟩ ⟨(decI 1000000000).toArray⟩ W hW hr ?_ ?_ (Lib.hid fun w => digits_any hb0 (by omega) w) (Lib.hid fun w => digits_any (by omega) (by omega) w)
    (Lib.hid fun w => number_at _ (decI r) rfl _ _ (by rw [num_decI hb0 hb1]) (by rw [num_decI hb0 hb1]) w)
    (Lib.hid fun w => number_at _ (48 :: decI r) (by simp) _ _ rfl (num_zero hne) w)
    (Lib.hid fun w => number_at _ (43 :: decI r) (by simp) _ _ rfl (num_plus _) w)
    (Lib.hid fun w => number_at _ (49 :: decI 1000000000) (by simp) _ _ rfl hlong w)
    (Lib.hid live_any)
  · have := decI_length hb0 (by omega)
    show (decI r).toArray.size ≤ 20
    simp; omega
  · have := decI_length (r := 1000000000) (by omega) (by omega)
    show (decI 1000000000).toArray.size ≤ 20
    simp; omega

set_option maxRecDepth 100000 in
theorem numbers_witness (os : Os) {H : Type} (enc : TypeId × Value → H) :
    (OpenSpec.ofChange Rows.consoleNumbersSpec).preRow enc Tryz.prog Tryz.f4 [] false Rows.consoleNumbersRow.laid ((World.laidAll Tryz.prog os Rows.consoleNumbersRow.laid).forCall (fun _ _ => 0) ⟨#[], #[.int .i64 0], []⟩).memory #[.int .i64 0] := by
  have hw : (DataW.whole enc Tryz.prog ((World.laidAll Tryz.prog os Rows.consoleNumbersRow.laid).forCall (fun _ _ => 0) ⟨#[], #[.int .i64 0], []⟩).memory Tryz.f4.params.toList (OpenSpec.ofChange Rows.consoleNumbersSpec).vars false #[Value.int .i64 0].toList 8).map (fun x => (x.1, x.2.1)) =
      some ([.lit (.int .i64 0)], []) := by kernel_rfl
  obtain ⟨⟨x1, x2, x3⟩, hx, hx1⟩ := Option.map_eq_some_iff.1 hw
  simp only [Prod.mk.injEq] at hx1
  obtain ⟨rfl, rfl⟩ := hx1
  exact OpenSpec.preRow_of_cond 8 hx (by kernel_rfl) (fun k hk => by cases hk) (by kernel_rfl) (laidMet_laidAll _ (by kernel_rfl) (by kernel_rfl))

set_option maxRecDepth 100000 in
theorem numbers_lifted (os : Os) (started : os.Started) (H : Type) (enc : TypeId × Value → H) (F : Stop.Interp) :
    ReturnsInHanded {} Tryz.checked os 4 .any ((OpenSpec.ofChange Rows.consoleNumbersSpec).preRow enc Tryz.prog Tryz.f4 [] false Rows.consoleNumbersRow.laid) (((OpenSpec.ofChange Rows.consoleNumbersSpec).at F).post enc Tryz.prog Tryz.f4 false true false false) := by
  refine returnsInHanded_of_row (C := Tryz.checked) (s := OpenSpec.ofChange Rows.consoleNumbersSpec) live_own started (by kernel_rfl) Tryz.func4
    ⟨World.laidAll Tryz.prog os Rows.consoleNumbersRow.laid, fun _ _ => 0, ⟨#[], #[.int .i64 0], []⟩, World.laidAll_os _ _ _, World.shaped_of_ZipB (by kernel_rfl) (by kernel_rfl), rfl, (Input.okWide_of_okWideB (by kernel_rfl)).2, numbers_witness os enc, by
      simp only [Assume.holds]
      exact ⟨by simp, by simp, fun _ => Modest.zero, by simp, by simp⟩⟩ ?_
  intro W base args ds gs before hval0 hW _ _ _ _ hsh _
  have hval : ∀ (j : Nat) t v, Tryz.f4.params[j]? = some t → args[j]? = some v → Value.okWide Tryz.prog W .any base t v := hval0
  have hW' := hW
  obtain ⟨p, q, hA0, hV0, rfl, _, _⟩ := hW
  have hA : DataW.TrodAll enc Tryz.prog W 0 (fun _ => true) true Tryz.f4.params.toList args.toList ds p := hA0
  rw [Tryz.params4] at hA hval
  obtain ⟨v0, d0, rfl, rfl, h0⟩ := trodAll_one hA
  obtain ⟨rfl, rfl⟩ := trodVars_none hV0
  obtain ⟨x, rfl, rfl, rfl, wx⟩ := open_int Tryz.underlying3 (hval 0 3 v0 rfl rfl) h0
  refine (numbers_law x W (live_size hsh)).mono fun e W' ⟨he, hb⟩ => ?_
  subst he
  exact ⟨_, rfl, _, _, _, [], [], [], hW', trodAll_mk1 (shut_bool Tryz.underlying4 _), trodAll_mk1 (shut_int Tryz.underlying3 wx), rfl, hb.frame _, fun h => by cases h⟩

theorem numbers_holds : Rows.ConsoleNumbersSaid :=
  OpenClaim.holds_of_wide 4 Tryz.f4 rfl rfl rfl rfl rfl rfl rfl ⟨rfl, rfl, rfl, rfl, rfl⟩ rfl rfl rfl rfl rfl (by kernel_rfl) Tryz.func4 numClosed
    (of_decide_eq_true (by kernel_rfl)) (by unfold Func.isWrapper; first | (rw [if_pos (by decide +kernel)]; kernel_rfl) | (rw [if_neg (by decide +kernel)]; exact ⟨rfl, rfl⟩))
    (fun os started H enc _ => by rw [OpenClaim.pre_eq_preRow]; exact numbers_lifted os started H enc (fun _ _ _ => 0))

theorem numbers_card : Rows.ConsoleNumbersCardSaid :=
  Claim7.holds_tied_plain_at .later [] [.data, .data, .data, .data, .data, .pinned] true (true, "0041c607a5147cd7c226c8584b90f1011646490d5ec91cc45c42e64fc03e949b") true numbers_holds (fun _ h => by cases h) num32 (fun _ h => by cases h) consoleNumbers_row_tie rfl ⟨rfl, rfl⟩ (by kernel_rfl) rfl
    (fun f fn hf hfn => by
      obtain rfl : f = 4 := Option.some.inj ((show Tryz.prog.funcNamed "perilune/perilunelaw37.ConsoleNumbers" = some 4 by kernel_rfl).symm.trans hf) |>.symm
      obtain rfl : fn = Tryz.f4 := (Option.some.inj (Tryz.func4.symm.trans hfn)).symm
      exact ⟨eq_of_beq fact33, fun j t ht => by
        rw [Tryz.params4] at ht
        have hm : t ∈ [3] := by simpa using Array.mem_of_getElem? ht
        have hall : ([3].all fun u => !Tryz.prog.wantsStandIn u) = true := by kernel_rfl
        exact (show Tryz.prog.wantsStandIn t = false by simpa using List.all_eq_true.1 hall t hm)⟩)
    numGoes
#print axioms numbers_card

end Go.Proofs.YtdbmocohcljbiaaGreatDoor
