/- A region that draws its order leads where the evaluator leads, whatever the order; so a call that the evaluator answers ends so in the model. -/
import Derived.Test.YtdbmocohcljbiaaGreatDoorEe
import Derived.Orders
/- The orders of a region. -/
namespace Go.AE
set_option autoImplicit false
open Go.RowKit Go.Lib

/-- Every binding edge leads to an operation ahead in the text. -/
def EdgesOk (ops : Array Oper) : Prop := ∀ i o, ops[i]? = some o → ∀ e ∈ o.after, Region.binds .any e = true → e.on < i

/-- An order: each operation when those that must come ahead have come; all of them in the end. -/
inductive Ord (ops : Array Oper) : Array Bool → List Nat → Prop
  | nil (D : Array Bool) : (∀ i, i < ops.size → D.getD i true = true) → Ord ops D []
  | cons (D : Array Bool) (i : Nat) (L : List Nat) : i ∈ Region.ready .any ops D → Ord ops (D.setIfInBounds i true) L → Ord ops D (i :: L)

theorem ready_iff {ops : Array Oper} {D : Array Bool} {i : Nat} : i ∈ Region.ready .any ops D ↔ i < ops.size ∧ D.getD i true = false ∧ ∃ o, ops[i]? = some o ∧ ∀ e ∈ o.after, Region.binds .any e = true → D.getD e.on false = true := by
  unfold Region.ready
  simp only [List.mem_filter, List.mem_range, Bool.and_eq_true, Bool.not_eq_true']
  constructor
  · rintro ⟨h1, h2, h3⟩
    refine ⟨h1, h2, ops[i], by simp [h1], fun e he hb => ?_⟩
    simp [h1] at h3
    obtain ⟨j, hj, rfl⟩ := Array.mem_iff_getElem.1 he
    have := h3 j hj
    simp [hb] at this
    simpa using this
  · rintro ⟨h1, h2, o, ho, h3⟩
    refine ⟨h1, h2, ?_⟩
    rw [ho]
    simp
    intro j hj
    cases hb : Region.binds .any o.after[j] with
    | false => exact .inl rfl
    | true => exact .inr (by simpa using h3 _ (Array.getElem_mem hj) hb)

theorem ready_some {ops : Array Oper} (hok : EdgesOk ops) {D : Array Bool} (hs : D.size = ops.size) (h : Region.ready .any ops D = []) : ∀ i, i < ops.size → D.getD i true = true := by
  intro i
  induction i using Nat.strongRecOn with
  | ind i ih =>
    intro hi
    cases hd : D.getD i true with
    | true => rfl
    | false =>
      have : i ∈ Region.ready .any ops D := ready_iff.2 ⟨hi, hd, ops[i], by simp [hi], fun e he hb => by
        have hlt := hok i ops[i] (by simp [hi]) e he hb
        have := ih e.on hlt (by omega)
        simp only [Array.getD_eq_getD_getElem?] at this ⊢
        rw [Array.getElem?_eq_getElem (by omega)] at this ⊢
        simpa using this⟩
      rw [h] at this; cases this

theorem ord_go {ops : Array Oper} (hok : EdgesOk ops) : ∀ (fuel t : Nat) (D : Array Bool), D.size = ops.size → D.toList.count false ≤ fuel → Ord ops D (Region.linearise.go .any ops fuel t D [])
  | 0, t, D, hs, hc => by
    simp only [Region.linearise.go, List.reverse_nil]
    refine .nil D (fun i hi => ?_)
    have h0 : D.toList.count false = 0 := by omega
    rw [List.count_eq_zero] at h0
    cases hd : D.getD i true with
    | true => rfl
    | false =>
      exfalso
      apply h0
      simp only [Array.getD_eq_getD_getElem?] at hd
      rw [Array.getElem?_eq_getElem (by omega)] at hd
      simp at hd
      rw [← hd]; simp
  | fuel + 1, t, D, hs, hc => by
    simp only [Region.linearise.go]
    change Ord ops D (match (Region.ready .any ops D)[t % (Region.ready .any ops D).length]? with
      | some i => Region.linearise.go .any ops fuel (t / (Region.ready .any ops D).length) (D.setIfInBounds i true) [i]
      | none => [].reverse)
    cases hi : (Region.ready .any ops D)[t % (Region.ready .any ops D).length]? with
    | none =>
      refine .nil D (ready_some hok hs ?_)
      cases hr : Region.ready .any ops D with
      | nil => rfl
      | cons x xs =>
        rw [hr] at hi
        have hlt : t % (x :: xs).length < (x :: xs).length := Nat.mod_lt _ (by simp)
        rw [List.getElem?_eq_getElem hlt] at hi
        cases hi
    | some i =>
      simp only []
      rw [linearise_go_acc, List.reverse_singleton, List.singleton_append]
      have hm := List.mem_of_getElem? hi
      refine .cons D i _ hm (ord_go hok fuel _ _ (by simp [hs]) ?_)
      obtain ⟨h1, h2, _⟩ := ready_iff.1 hm
      rw [Array.getD_eq_getD_getElem?, Array.getElem?_eq_getElem (by omega)] at h2
      simp at h2
      have hlt : i < D.toList.length := by simp; omega
      rw [Array.toList_setIfInBounds, List.count_set (h := hlt)]
      have hpos : 0 < D.toList.count false := List.count_pos_iff.2 (by rw [← h2]; exact Array.mem_toList_iff.2 (Array.getElem_mem _))
      have e1 : (D.toList[i]'hlt == false) = true := by simp [h2]
      have e2 : (true == false) = false := rfl
      simp only [e1, if_true, e2, Bool.false_eq_true, if_false]
      omega

theorem ord_schedule {ops : Array Oper} (hok : EdgesOk ops) (t : Nat) : Ord ops (Array.replicate ops.size false) (Region.schedule true ops t) := by
  simp only [Region.schedule, Bool.true_or, if_true, Region.linearise]
  refine ord_go hok _ t _ (by simp) (by simp)

end Go.AE

/- What is told of a region's operations. -/
namespace Go.AE
set_option autoImplicit false
open Go.RowKit Go.Lib

theorem hasBit_eq (m n : Nat) : hasBit m n = m.testBit n := by
  have e : hasBit m n = Nat.beq ((m >>> n) &&& 1) 1 := rfl
  rw [e, Nat.testBit]
  rw [Nat.and_comm 1]
  rw [Nat.and_one_is_mod]
  rcases Nat.mod_two_eq_zero_or_one (m >>> n) with h | h <;> rw [h] <;> rfl

theorem bitOf_eq (n j : Nat) : hasBit (bitOf n) j = decide (n = j) := by
  rw [hasBit_eq]
  unfold bitOf
  show (1 <<< n).testBit j = _
  rw [Nat.one_shiftLeft, Nat.testBit_two_pow]

theorem hasBit_lor (a b j : Nat) : hasBit (Nat.lor a b) j = (hasBit a j || hasBit b j) := by
  rw [hasBit_eq, hasBit_eq, hasBit_eq]
  exact Nat.testBit_or a b j

theorem land_zero {a b : Nat} (h : Nat.beq (Nat.land a b) 0 = true) (j : Nat) : ¬ (hasBit a j = true ∧ hasBit b j = true) := by
  have h0 : Nat.land a b = 0 := Nat.eq_of_beq_eq_true h
  rintro ⟨h1, h2⟩
  rw [hasBit_eq] at h1 h2
  have : (a &&& b).testBit j = true := by rw [Nat.testBit_and, h1, h2]; rfl
  have e : a &&& b = 0 := h0
  rw [e] at this
  simp at this

theorem operandBits_mem {t : Tmp} : ∀ {l : List Operand}, .tmp t ∈ l → hasBit (operandBits l) t = true
  | x :: l, h => by
    cases h with
    | head => simp only [operandBits]; rw [hasBit_lor, bitOf_eq]; simp
    | tail _ h =>
      have ih := operandBits_mem h
      cases x <;> simp only [operandBits] <;> first | exact ih | (rw [hasBit_lor, ih]; simp)

theorem dstBits_some {d : Option Tmp} {t : Tmp} (h : d = some t) : hasBit (dstBits d) t = true := by
  subst h; simp only [dstBits]; rw [bitOf_eq]; simp

/-- What is told of the operation at place i. -/
structure InfoOk (ops : List Oper) (l : List XOper) (ds : List DInfo) (i : Nat) (d : DInfo) : Prop where
  oper : ∃ o x, ops[i]? = some o ∧ l[i]? = some x ∧ d.dst = dstBits o.dst ∧ d.sees = Nat.lor (operandBits o.op.operands.toList) (guardBits ops o.guard) ∧ d.eff = x.op.eff ∧
    (∀ e ∈ o.after, Region.binds .any e = true → e.on < i) ∧
    (∀ j, hasBit d.anc j = true → ∃ e ∈ o.after, Region.binds .any e = true ∧ (j = e.on ∨ ∃ d', ds[e.on]? = some d' ∧ hasBit d'.anc j = true))
  pair : ∀ j d', j < i → ds[j]? = some d' → hasBit d.anc j = true ∨ apartD d' d = true

theorem ancOf_ok {i : Nat} {acc : List DInfo} (hi : acc.length = i) : ∀ {es : List Edge} {m : Nat}, ancOf i acc es = some m →
    (∀ e ∈ es, Region.binds .any e = true → e.on < i) ∧ ∀ j, hasBit m j = true → ∃ e ∈ es, Region.binds .any e = true ∧ (j = e.on ∨ ∃ d', acc.reverse[e.on]? = some d' ∧ hasBit d'.anc j = true)
  | [], m, h => by
    simp only [ancOf, Option.some.injEq] at h; subst h
    refine ⟨by simp, fun j hj => ?_⟩
    rw [hasBit_eq] at hj; simp at hj
  | e :: es, m, h => by
    simp only [ancOf] at h
    cases hb : Region.binds .any e with
    | false =>
      rw [hb] at h
      obtain ⟨h1, h2⟩ := ancOf_ok hi (es := es) h
      refine ⟨fun x hx hxb => ?_, fun j hj => ?_⟩
      · cases hx with
        | head => rw [hb] at hxb; cases hxb
        | tail _ hx => exact h1 x hx hxb
      · obtain ⟨x, hx, k⟩ := h2 j hj
        exact ⟨x, by simp [hx], k⟩
    | true =>
      rw [hb] at h
      simp only [cond_true] at h
      replace h := cond_some h; obtain ⟨hlt, h⟩ := h
      replace hlt := blt_true hlt
      split at h
      · cases h
      · rename_i d hd
        split at h
        · cases h
        · rename_i m' hm'
          cases h
          obtain ⟨h1, h2⟩ := ancOf_ok hi (es := es) hm'
          have hrev : acc.reverse[e.on]? = some d := by
            rw [nth_eq] at hd
            rw [List.getElem?_reverse (by omega)]
            rw [show acc.length - 1 - e.on = i - 1 - e.on from by omega]; exact hd
          refine ⟨fun x hx hxb => ?_, fun j hj => ?_⟩
          · cases hx with
            | head => exact hlt
            | tail _ hx => exact h1 x hx hxb
          · rw [hasBit_lor, hasBit_lor, bitOf_eq] at hj
            simp only [Bool.or_eq_true, decide_eq_true_eq] at hj
            rcases hj with (hj | hj) | hj
            · exact ⟨e, by simp, hb, .inl hj.symm⟩
            · exact ⟨e, by simp, hb, .inr ⟨d, hrev, hj⟩⟩
            · obtain ⟨x, hx, k⟩ := h2 j hj
              exact ⟨x, by simp [hx], k⟩

theorem apartAll_ok {d : DInfo} : ∀ {acc : List DInfo} {n : Nat}, acc.length = n → apartAll d acc n = true → ∀ j d', acc.reverse[j]? = some d' → hasBit d.anc j = true ∨ apartD d' d = true
  | [], n, hn, h, j, d', hj => by simp at hj
  | a :: acc, n, hn, h, j, d', hj => by
    simp only [List.length_cons] at hn
    simp only [apartAll] at h
    obtain ⟨h1, h2⟩ := cond_and h
    have hn1 : Nat.sub n 1 = acc.length := by show n - 1 = _; omega
    rw [hn1] at h1 h2
    rw [List.reverse_cons] at hj
    by_cases hlt : j < acc.length
    · rw [List.getElem?_append_left (by simpa using hlt)] at hj
      exact apartAll_ok rfl h2 j d' hj
    · have hj2 : j = acc.length := by
        have := (List.getElem?_eq_some_iff.1 hj).1
        simp at this; omega
      subst hj2
      rw [List.getElem?_append_right (by simp)] at hj
      simp at hj
      subst hj
      cases hb : hasBit d.anc acc.length with
      | true => exact .inl rfl
      | false => rw [hb] at h1; exact .inr h1

theorem InfoOk.more {ops : List Oper} {l : List XOper} {ds ds' : List DInfo} {i : Nat} {d : DInfo} (h : InfoOk ops l ds i d) (hi : i ≤ ds.length) : InfoOk ops l (ds ++ ds') i d := by
  obtain ⟨⟨o, x, h1, h2, h3, h4, h5, h6, h7⟩, hp⟩ := h
  refine ⟨⟨o, x, h1, h2, h3, h4, h5, h6, fun j hj => ?_⟩, fun j d' hj hd => ?_⟩
  · obtain ⟨e, k1, k2, k3⟩ := h7 j hj
    refine ⟨e, k1, k2, ?_⟩
    rcases k3 with k3 | ⟨d', k3, k4⟩
    · exact .inl k3
    · refine .inr ⟨d', ?_, k4⟩
      rw [List.getElem?_append_left (List.getElem?_eq_some_iff.1 k3).1]; exact k3
  · rw [List.getElem?_append_left (by omega)] at hd
    exact hp j d' hj hd

theorem drawInfo_ok {ops : List Oper} {l : List XOper} : ∀ {os : List Oper} {xs : List XOper} {i : Nat} {acc res : List DInfo}, ops.drop i = os → l.drop i = xs → acc.length = i → (∀ j d, acc.reverse[j]? = some d → InfoOk ops l acc.reverse j d) →
    drawInfo ops os xs i acc = some res → (∀ j d, res.reverse[j]? = some d → InfoOk ops l res.reverse j d) ∧ res.length = i + os.length
  | [], [], i, acc, res, ho, hl, hi, ha, h => by
    simp only [drawInfo, Option.some.injEq] at h; subst h
    exact ⟨ha, by simp [hi]⟩
  | [], _ :: _, i, acc, res, ho, hl, hi, ha, h => by simp [drawInfo] at h
  | _ :: _, [], i, acc, res, ho, hl, hi, ha, h => by simp [drawInfo] at h
  | o :: os, x :: xs, i, acc, res, ho, hl, hi, ha, h => by
    simp only [drawInfo] at h
    split at h
    · cases h
    · rename_i m hm
      replace h := cond_some h; obtain ⟨hap, h⟩ := h
      have hoi : ops[i]? = some o := by
        have : (ops.drop i)[0]? = some o := by rw [ho]; rfl
        simpa using this
      have hxi : l[i]? = some x := by
        have : (l.drop i)[0]? = some x := by rw [hl]; rfl
        simpa using this
      have hanc := ancOf_ok hi hm
      have hpair := apartAll_ok hi hap
      have := drawInfo_ok (os := os) (xs := xs) (i := Nat.succ i) (res := res) (by
        have : ops.drop (i + 1) = (ops.drop i).drop 1 := by rw [List.drop_drop]
        rw [show Nat.succ i = i + 1 from rfl, this, ho]; rfl) (by
        have : l.drop (i + 1) = (l.drop i).drop 1 := by rw [List.drop_drop]
        rw [show Nat.succ i = i + 1 from rfl, this, hl]; rfl) (by simp [hi]) (fun j d hj => by
        rw [List.reverse_cons] at hj ⊢
        by_cases hlt : j < acc.length
        · rw [List.getElem?_append_left (by simpa using hlt)] at hj
          exact (ha j d hj).more (by simp; omega)
        · have hj2 : j = acc.length := by
            have := (List.getElem?_eq_some_iff.1 hj).1
            simp at this; omega
          subst hj2
          rw [List.getElem?_append_right (by simp)] at hj
          simp at hj
          subst hj
          refine InfoOk.more ⟨⟨o, x, by rw [hi]; exact hoi, by rw [hi]; exact hxi, rfl, rfl, rfl, fun e he hb => by rw [hi]; exact hanc.1 e (by simpa using he) hb, fun j hj => ?_⟩, fun j d' _ hd => hpair j d' hd⟩ (by simp)
          obtain ⟨e, k1, k2, k3⟩ := hanc.2 j hj
          exact ⟨e, by simpa using k1, k2, k3⟩) h
      refine ⟨this.1, ?_⟩
      rw [this.2]; simp; omega

theorem drawInfos_ok {ops : List Oper} {l : List XOper} {ds : List DInfo} (h : drawInfos ops l = some ds) : (∀ i d, ds[i]? = some d → InfoOk ops l ds i d) ∧ ds.length = ops.length := by
  unfold drawInfos at h
  split at h
  · cases h
  · rename_i acc ha
    cases h
    obtain ⟨h1, h2⟩ := drawInfo_ok (ops := ops) (l := l) (os := ops) (xs := l) (i := 0) (acc := []) rfl rfl rfl (by intro j d hj; simp at hj) ha
    exact ⟨h1, by simpa using h2⟩

/-- A set of done operations that has, with each, those that must come ahead of it. -/
def Closed (ops : Array Oper) (D : Nat → Prop) : Prop := ∀ i o, D i → ops[i]? = some o → ∀ e ∈ o.after, Region.binds .any e = true → D e.on

theorem anc_in {ops : Array Oper} {l : List XOper} {ds : List DInfo} (hd : ∀ i d, ds[i]? = some d → InfoOk ops.toList l ds i d) {D : Nat → Prop} (hc : Closed ops D) : ∀ (i : Nat) (d : DInfo), ds[i]? = some d →
    (∀ o, ops[i]? = some o → ∀ e ∈ o.after, Region.binds .any e = true → D e.on) → ∀ j, hasBit d.anc j = true → D j := by
  intro i
  induction i using Nat.strongRecOn with
  | ind i ih =>
    intro d hdi hpre j hj
    obtain ⟨⟨o, x, h1, h2, h3, h4, h5, h6, h7⟩, hp⟩ := hd i d hdi
    have ho : ops[i]? = some o := by rw [← Array.getElem?_toList]; exact h1
    obtain ⟨e, k1, k2, k3⟩ := h7 j hj
    have hDe := hpre o ho e k1 k2
    rcases k3 with rfl | ⟨d', k3, k4⟩
    · exact hDe
    · exact ih e.on (h6 e k1 k2) d' k3 (fun o' ho' e' he' hb' => hc e.on o' hDe ho' e' he' hb') j k4

end Go.AE

/- What a region's run in the text's order tells. -/
namespace Go.AE
set_option autoImplicit false
open Go.RowKit Go.Lib

theorem sizeH_eq (h : AHp) : sizeH h = h.size := by cases h; rfl

/-- The memories ahead of the changes. -/
def viewsOf (H : Nat → AHp) : List XOper → List DInfo → Nat → List (AHp × Nat × Nat)
  | [], _, _ => []
  | _ :: _, [], _ => []
  | x :: xs, d :: ds, i => (if x.op.eff = true then [(H i, i, d.anc)] else []) ++ viewsOf H xs ds (i + 1)

/-- A read at place i that is wanted. -/
def ReadAt (E : Nat → AEnv) (H : Nat → AHp) (l : List XOper) (ds : List DInfo) (i : Nat) (r : RLog) : Prop :=
  ∃ x d g args v, l[i]? = some x ∧ ds[i]? = some d ∧ wantedA (E i) x.guard = some true ∧ readOf (E i) x.op = some (g, args) ∧ g (H i) = some v ∧ r = ⟨g, v, args, (H i).size, d.anc, i⟩

theorem drawGo_ok {call : CallF} {l : List XOper} {ds : List DInfo} : ∀ {os : List XOper} {dds : List DInfo} {i : Nat} {e : AEnv} {h : AHp} {views : List (AHp × Nat × Nat)} {logs : List RLog} {e' : AEnv} {h' : AHp}, l.drop i = os → ds.drop i = dds → drawGo call os dds i e h views logs = some (e', h') →
    ∃ (E : Nat → AEnv) (H : Nat → AHp) (R : List RLog), E i = e ∧ H i = h ∧ E (i + os.length) = e' ∧ H (i + os.length) = h' ∧ (∀ j x, i ≤ j → l[j]? = some x → stepX call (E j) (H j) x = some (E (j + 1), H (j + 1)) ∧ (H j).size ≤ (H (j + 1)).size) ∧
      checkRs (views.reverse ++ viewsOf H os dds i) h' R = true ∧ (∀ r ∈ logs, r ∈ R) ∧ (∀ j r, i ≤ j → ReadAt E H l ds j r → r ∈ R)
  | [], dds, i, e, h, views, logs, e', h', ho, hd, hf => by
    simp only [drawGo] at hf
    unfold drawEnd at hf
    replace hf := cond_some hf; obtain ⟨hc, hf⟩ := hf
    cases hf
    have hl : l.length ≤ i := by simpa using ho
    refine ⟨fun _ => e, fun _ => h, logs, rfl, rfl, rfl, rfl, fun j x hj hx => ?_, by simpa [viewsOf] using hc, fun r hr => hr, fun j r hj hr => ?_⟩
    · have := (List.getElem?_eq_some_iff.1 hx).1; omega
    · obtain ⟨x, d, g, args, v, h1, _⟩ := hr
      have := (List.getElem?_eq_some_iff.1 h1).1; omega
  | o :: os, [], i, e, h, views, logs, e', h', ho, hd, hf => by simp [drawGo] at hf
  | o :: os, d :: dds, i, e, h, views, logs, e', h', ho, hd, hf => by
    simp only [drawGo] at hf
    split at hf
    · cases hf
    · rename_i e1 h1 hst
      replace hf := cond_some hf; obtain ⟨hsz, hf⟩ := hf
      replace hsz := ble_true hsz
      rw [sizeH_eq, sizeH_eq] at hsz
      have hoi : l[i]? = some o := by
        have : (l.drop i)[0]? = some o := by rw [ho]; rfl
        simpa using this
      have hdi : ds[i]? = some d := by
        have : (ds.drop i)[0]? = some d := by rw [hd]; rfl
        simpa using this
      obtain ⟨E, H, R, k1, k2, k3, k4, k5, k6, k7, k8⟩ := drawGo_ok (l := l) (ds := ds) (os := os) (dds := dds) (i := Nat.succ i) (by
        have : l.drop (i + 1) = (l.drop i).drop 1 := by rw [List.drop_drop]
        rw [show Nat.succ i = i + 1 from rfl, this, ho]; rfl) (by
        have : ds.drop (i + 1) = (ds.drop i).drop 1 := by rw [List.drop_drop]
        rw [show Nat.succ i = i + 1 from rfl, this, hd]; rfl) hf
      have k1 : E (i + 1) = e1 := k1
      have k2 : H (i + 1) = h1 := k2
      let E' : Nat → AEnv := fun j => if j = i then e else E j
      let H' : Nat → AHp := fun j => if j = i then h else H j
      have eE : ∀ j, j ≠ i → E' j = E j := fun j hj => by simp [E', hj]
      have eH : ∀ j, j ≠ i → H' j = H j := fun j hj => by simp [H', hj]
      have e0 : E' i = e := by simp [E']
      have h0 : H' i = h := by simp [H']
      have vs : ∀ (xs : List XOper) (dd : List DInfo) (j : Nat), i < j → viewsOf H' xs dd j = viewsOf H xs dd j := by
        intro xs
        induction xs with
        | nil => intro dd j _; cases dd <;> rfl
        | cons x xs ih =>
          intro dd j hj
          cases dd with
          | nil => rfl
          | cons d dd => simp only [viewsOf, eH j (by omega), ih dd (j + 1) (by omega)]
      refine ⟨E', H', R, e0, h0, ?_, ?_, fun j x hj hx => ?_, ?_, fun r hr => ?_, fun j r hj hr => ?_⟩
      · rw [eE _ (by simp), ← k3]; congr 1; simp; omega
      · rw [eH _ (by simp), ← k4]; congr 1; simp; omega
      · by_cases hji : j = i
        · subst hji
          rw [hoi] at hx; cases hx
          rw [e0, h0, eE _ (by omega), eH _ (by omega), k1, k2]
          exact ⟨hst, hsz⟩
        · rw [eE j hji, eH j hji, eE (j + 1) (by omega), eH (j + 1) (by omega)]
          exact k5 j x (by omega) hx
      · rw [← k6]
        simp only [viewsOf, vs os dds (i + 1) (by omega), h0, viewX]
        cases o.op.eff <;> simp
      · refine k7 r ?_
        unfold logX
        split
        · unfold logR
          split
          · exact hr
          · split
            · exact hr
            · simp [hr]
        · exact hr
      · by_cases hji : j = i
        · subst hji
          obtain ⟨x, d2, g, args, v, q1, q2, q3, q4, q5, rfl⟩ := hr
          rw [hoi] at q1; cases q1
          rw [hdi] at q2; cases q2
          rw [e0] at q3 q4
          rw [h0] at q5
          refine k7 _ ?_
          simp only [logX, q3, q4, logR, q5, sizeH_eq, h0]
          simp
        · obtain ⟨x, d2, g, args, v, q1, q2, q3, q4, q5, rfl⟩ := hr
          rw [eE j hji] at q3 q4
          rw [eH j hji] at q5
          refine k8 j _ (by omega) ⟨x, d2, g, args, v, q1, q2, q3, q4, q5, ?_⟩
          rw [eH j hji]

end Go.AE

/- Reads that may fall elsewhere; maps cut to low ids. -/
namespace Go.AE
set_option autoImplicit false
open Go.RowKit Go.Lib

theorem checkRs_mem {V : List (AHp × Nat × Nat)} {h : AHp} : ∀ {R : List RLog}, checkRs V h R = true → ∀ r ∈ R, lowV r.size r.val = true ∧ checkR r V h false = true
  | [], _, r, hr => by cases hr
  | r0 :: R, hc, r, hr => by
    simp only [checkRs] at hc
    obtain ⟨h1, hc⟩ := cond_and hc
    obtain ⟨h2, hc⟩ := cond_and hc
    cases hr with
    | head => exact ⟨h1, h2⟩
    | tail _ hr => exact checkRs_mem hc r hr

/-- At a memory ahead of a change: nothing ahead of it comes behind the read, the change itself need not come ahead. -/
theorem checkR_at {r : RLog} {h : AHp} : ∀ {V1 : List (AHp × Nat × Nat)} {v : AHp} {j anc : Nat} {V2 : List (AHp × Nat × Nat)}, checkR r (V1 ++ (v, j, anc) :: V2) h false = true → (∀ p ∈ V1, hasBit p.2.2 r.idx = false) → hasBit r.anc j = false → sameAt r v = true
  | [], v, j, anc, V2, hc, h1, h2 => by
    simp only [List.nil_append, checkR, cond_false, h2] at hc
    exact (cond_and hc).1
  | (v0, j0, a0) :: V1, v, j, anc, V2, hc, h1, h2 => by
    simp only [List.cons_append, checkR, cond_false] at hc
    obtain ⟨_, hc⟩ := cond_and hc
    have := h1 (v0, j0, a0) (by simp)
    rw [show hasBit a0 r.idx = false from this] at hc
    exact checkR_at hc (fun p hp => h1 p (by simp [hp])) h2

theorem checkR_end {r : RLog} {h : AHp} : ∀ {V : List (AHp × Nat × Nat)}, checkR r V h false = true → (∀ p ∈ V, hasBit p.2.2 r.idx = false) → sameAt r h = true
  | [], hc, _ => by simpa [checkR] using hc
  | (v0, j0, a0) :: V, hc, h1 => by
    simp only [checkR, cond_false] at hc
    obtain ⟨_, hc⟩ := cond_and hc
    rw [show hasBit a0 r.idx = false from h1 (v0, j0, a0) (by simp)] at hc
    exact checkR_end hc (fun p hp => h1 p (by simp [hp]))

/-- A map cut to the ids below s. -/
def Phi.cut (ψ : Phi) (s : Nat) : Phi := fun b => if b < s then ψ b else none

theorem Phi.cut_le (ψ : Phi) {s t : Nat} (h : s ≤ t) : Phi.le (ψ.cut s) (ψ.cut t) := fun b p e => by
  unfold Phi.cut at *
  split at e
  · rw [if_pos (by omega)]; exact e
  · cases e

theorem Phi.cut_mono {ψ χ : Phi} (h : Phi.le ψ χ) (s : Nat) : Phi.le (ψ.cut s) (χ.cut s) := fun b p e => by
  unfold Phi.cut at *
  split at e
  · rename_i hb; rw [if_pos hb]; exact h b p e
  · cases e

theorem Phi.cut_lt {ψ : Phi} {s b : Nat} {p : PInfo} (h : ψ.cut s b = some p) : b < s ∧ ψ b = some p := by
  unfold Phi.cut at h
  split at h
  · rename_i hb; exact ⟨hb, h⟩
  · cases h

theorem Phi.cut_of {ψ : Phi} {s b : Nat} (h : b < s) : ψ.cut s b = ψ b := by unfold Phi.cut; rw [if_pos h]

mutual
theorem VRel.low {φ : Phi} {s : Nat} : ∀ {a : AVal} {v : Value}, VRel φ a v → lowV s a = true → VRel (φ.cut s) a v
  | _, _, .bool b, _ => .bool b
  | _, _, .int k n, _ => .int k n
  | _, _, .str s, _ => .str s
  | _, _, .ptrN, _ => .ptrN
  | _, _, .ptr b o p h, hl => .ptr b o p (by rw [Phi.cut_of (blt_true (by simpa [lowV] using hl))]; exact h)
  | _, _, .sliceN s, _ => .sliceN s
  | _, _, .slice b o len cap soft p off cap' h h1 h2 h3 h4 h5, hl => .slice b o len cap soft p off cap' (by rw [Phi.cut_of (blt_true (by simpa [lowV] using hl))]; exact h) h1 h2 h3 h4 h5
  | _, _, .mapN, _ => .mapN
  | _, _, .map r p h, hl => .map r p (by rw [Phi.cut_of (blt_true (by simpa [lowV] using hl))]; exact h)
  | _, _, .func f a c a' c' h k, hl => .func f a c a' c' (h.low (cond_and (by simpa only [lowV] using hl)).1) (k.low (cond_and (by simpa only [lowV] using hl)).2)
  | _, _, .yield l p h, hl => .yield l p (by
      have := (cond_and (show cond (Nat.blt l s) (cond (lowVs s []) (lowVs s []) false) false = true by simpa only [lowV] using hl)).1
      rw [Phi.cut_of (blt_true this)]; exact h)
  | _, _, .nilFunc, _ => .nilFunc
  | _, _, .iface t a v h, hl => .iface t a v (h.low (by simpa only [lowV] using hl))
  | _, _, .nilIface, _ => .nilIface
  | _, _, .agg l l' h, hl => .agg l l' (h.low (by simpa only [lowV] using hl))
  | _, _, .tuple l l' h, hl => .tuple l l' (h.low (by simpa only [lowV] using hl))
  | _, _, .junk v h, _ => .junk v h
theorem VRels.low {φ : Phi} {s : Nat} : ∀ {as : List AVal} {vs : List Value}, VRels φ as vs → lowVs s as = true → VRels (φ.cut s) as vs
  | _, _, .nil, _ => .nil
  | _, _, .cons a v as vs h k, hl => .cons a v as vs (h.low (cond_and (by simpa only [lowVs] using hl)).1) (k.low (cond_and (by simpa only [lowVs] using hl)).2)
end

end Go.AE

/- Memory that runs ahead of the text, or behind it. -/
namespace Go.AE
set_option autoImplicit false
open Go.RowKit Go.Lib
variable {T : Tab} {φ : Phi} {N0 : Nat} {w0 : World} {h : AHp} {w : World}

/-- The text lays a block that is not there yet. -/
theorem Rel.more (r : Rel N0 w0 φ h w) {x : ABlk} {b : Nat} {h' : AHp} (e : h.new x = some (b, h')) : Rel N0 w0 φ h' w := by
  obtain ⟨rfl, hm, rfl⟩ := AHp.new_eq e
  have hn := r.fresh
  have gn : ∀ c q, φ c = some q → (⟨h.tr.set fuelT h.size x, h.size + 1, h.ro⟩ : AHp).get c = h.get c := fun c q hc => Tr.get_set_ne _ _ _ _ _ (fun e => by subst e; rw [hn] at hc; cases hc)
  refine ⟨fun c y q hy hq => ?_, fun c c' y y' q q' hq hq' hy hy' hd hd' hb => ?_, fun c q hq => Nat.lt_succ_of_lt (r.dom c q hq), r.lt, r.old, Nat.succ_le_succ hm, r.below, r.start⟩
  · rw [gn c q hq] at hy; exact r.blk c y q hy hq
  · rw [gn c q hq] at hy; rw [gn c' q' hq'] at hy'
    exact r.inj c c' y y' q q' hq hq' hy hy' hd hd' hb

/-- A block of the text comes to be there. -/
theorem Rel.map (r : Rel N0 w0 φ h w) {x : ABlk} {b : Nat} {p : PInfo} (hn : φ b = none) (hb : b < h.size) (hx : h.get b = some x) (hp : p.blk < w.heap.size) (hN : N0 ≤ p.blk) (hfree : ∀ c q, φ c = some q → q.blk ≠ p.blk)
    (hB : BRel (φ.at b p) x p w) : Rel N0 w0 (φ.at b p) h w := by
  have hle := Phi.le_at p hn
  refine ⟨fun c y q hy hq => ?_, fun c c' y y' q q' hq hq' hy hy' hd hd' hbk => ?_, fun c q hq => ?_, fun c q hq => ?_, fun c q hq hro => ?_, r.fits, r.below, r.start⟩
  · by_cases hc : c = b
    · subst hc; rw [Phi.at_same] at hq; cases hq; rw [hx] at hy; cases hy; exact hB
    · rw [Phi.at_ne φ p hc] at hq; exact (r.blk c y q hy hq).mono hle
  · by_cases hc : c = b <;> by_cases hc' : c' = b
    · rw [hc, hc']
    · subst hc; rw [Phi.at_same] at hq; cases hq; rw [Phi.at_ne φ p hc'] at hq'; exact absurd hbk.symm (hfree c' q' hq')
    · subst hc'; rw [Phi.at_same] at hq'; cases hq'; rw [Phi.at_ne φ p hc] at hq; exact absurd hbk (hfree c q hq)
    · rw [Phi.at_ne φ p hc] at hq; rw [Phi.at_ne φ p hc'] at hq'
      exact r.inj c c' y y' q q' hq hq' hy hy' hd hd' hbk
  · by_cases hc : c = b
    · subst hc; exact hb
    · rw [Phi.at_ne φ p hc] at hq; exact r.dom c q hq
  · by_cases hc : c = b
    · subst hc; rw [Phi.at_same] at hq; cases hq; exact hp
    · rw [Phi.at_ne φ p hc] at hq; exact r.lt c q hq
  · by_cases hc : c = b
    · subst hc; rw [Phi.at_same] at hq; cases hq; exact hN
    · rw [Phi.at_ne φ p hc] at hq; exact r.old c q hq hro

end Go.AE

/- A region at any time of a drawn order: what must be told of its operations, of memory, of the temporaries. -/
namespace Go.AE
set_option autoImplicit false
open Go.RowKit Go.Lib
variable {T : Tab}

theorem xa_rel1 {φ : Phi} (hg : Gl T φ) {n : Nat} {e : AEnv} {a : Act} {x : Operand} (ht : ∀ t, x = .tmp t → t < n → VRel φ (orUndef (e.tmps.getP (path fuelT t))) (a.tmps.getD t undef)) {xx : XA} (h : xa T n x = some xx) : VRel φ (xx.eval e) (a.eval x) := by
  cases x with
  | tmp t =>
    simp only [xa] at h
    obtain ⟨h1, h2⟩ := cond_some h
    cases h2
    exact ht t rfl (blt_true h1)
  | const v =>
    simp only [xa, Option.map_eq_some_iff] at h
    obtain ⟨c, hc, rfl⟩ := h
    exact constA_rel φ hc
  | global g =>
    simp only [xa] at h
    obtain ⟨h1, h2⟩ := cond_some h
    cases h2
    obtain ⟨p, hp, hb, h0⟩ := hg g (blt_true h1)
    have := VRel.ptr (φ := φ) g 0 p hp
    rw [hb, h0] at this
    exact this
  | func f =>
    simp only [xa] at h
    cases h
    exact .func f [] [] [] [] .nil .nil

theorem aput_eta (e : AEnv) (d : Option (List Bool)) (v : AVal) : e.put d v = (AEnv.mk e.tmps e.defers).put d v := by cases e; rfl

theorem AHp.new_facts {h h' : AHp} {y : ABlk} {b : Nat} (e : h.new y = some (b, h')) : b = h.size ∧ h'.size = h.size + 1 ∧ h'.ro = h.ro ∧ h'.get h.size = some y ∧ ∀ c, c ≠ h.size → h'.get c = h.get c := by
  obtain ⟨rfl, hm, rfl⟩ := AHp.new_eq e
  exact ⟨rfl, rfl, rfl, Tr.get_set_same _ _ _ hm, fun c hc => Tr.get_set_ne _ _ _ _ _ (fun e => hc e.symm)⟩

/-- What a step of the text's order does to the environment, and, if it changes no memory, to memory. -/
theorem stepX_env {call : CallF} {e e' : AEnv} {h h' : AHp} {x : XOper} (hf : stepX call e h x = some (e', h')) :
    (∃ v eds, e' = (AEnv.mk e.tmps eds).put x.dst v) ∧ (x.op.eff = false → e'.defers = e.defers ∧ (h' = h ∨ ∃ y, h.new y = some (h.size, h'))) := by
  obtain ⟨op, d, g⟩ := x
  simp only [stepX] at hf
  cases hw : wantedA e g with
  | none => rw [hw] at hf; cases hf
  | some c =>
    rw [hw] at hf
    cases c with
    | false =>
      cases hf
      exact ⟨⟨undefA, e.defers, aput_eta _ _ _⟩, fun _ => ⟨aput_defers _ _ _, .inl rfl⟩⟩
    | true =>
      simp only [stepW] at hf
      have val : ∀ {o : Option AVal}, rv e d h o = some (e', h') → (∃ v eds, e' = (AEnv.mk e.tmps eds).put d v) ∧ (e'.defers = e.defers ∧ (h' = h ∨ ∃ y, h.new y = some (h.size, h'))) := by
        intro o ho
        obtain ⟨v, _, rfl, rfl⟩ := rv_some ho
        exact ⟨⟨v, e.defers, aput_eta _ _ _⟩, aput_defers _ _ _, .inl rfl⟩
      cases op with
      | p1 f x => exact ⟨(val hf).1, fun _ => (val hf).2⟩
      | p2 f x y => exact ⟨(val hf).1, fun _ => (val hf).2⟩
      | pn f xs => exact ⟨(val hf).1, fun _ => (val hf).2⟩
      | r1 f x => exact ⟨(val hf).1, fun _ => (val hf).2⟩
      | r2 f x y => exact ⟨(val hf).1, fun _ => (val hf).2⟩
      | rc => exact ⟨(val (o := some .nilIface) hf).1, fun _ => (val (o := some .nilIface) hf).2⟩
      | al f xs =>
        simp only [opX] at hf
        obtain ⟨v, h1, rfl⟩ := ru_some hf
        refine ⟨⟨v, e.defers, aput_eta _ _ _⟩, fun _ => ⟨aput_defers _ _ _, .inr ?_⟩⟩
        unfold alO at h1
        split at h1
        · cases h1
        · rename_i y kk _
          obtain ⟨b, hb, _⟩ := newO_some h1
          obtain ⟨rfl, _⟩ := AHp.new_facts hb
          exact ⟨y, hb⟩
      | ef f xs =>
        simp only [opX] at hf
        obtain ⟨v, h1, rfl⟩ := ru_some hf
        exact ⟨⟨v, e.defers, aput_eta _ _ _⟩, fun hh => by cases hh⟩
      | st f x y =>
        simp only [opX] at hf
        obtain ⟨h1, rfl⟩ := rs_some hf
        exact ⟨⟨undefA, e.defers, aput_eta _ _ _⟩, fun hh => by cases hh⟩
      | sk f xs =>
        simp only [opX] at hf
        obtain ⟨h1, rfl⟩ := rs_some hf
        exact ⟨⟨undefA, e.defers, aput_eta _ _ _⟩, fun hh => by cases hh⟩
      | cl f xs =>
        simp only [opX] at hf
        obtain ⟨v, h1, rfl⟩ := ru_some hf
        exact ⟨⟨v, e.defers, aput_eta _ _ _⟩, fun hh => by cases hh⟩
      | df f xs =>
        simp only [opX] at hf
        replace hf := cond_some hf; obtain ⟨_, hf⟩ := hf
        obtain ⟨h1, rfl⟩ := rs_some hf
        obtain ⟨tm, ds⟩ := e
        exact ⟨⟨undefA, _, rfl⟩, fun hh => by cases hh⟩

/- APART. -/
theorem apart_of {x y : DInfo} (h : apartD x y = true) : Nat.beq (Nat.land x.dst (Nat.lor y.sees y.dst)) 0 = true ∧ Nat.beq (Nat.land y.dst x.sees) 0 = true ∧ (!(x.eff && y.eff)) = true := by
  unfold apartD at h
  obtain ⟨h1, h⟩ := cond_and h
  obtain ⟨h2, h⟩ := cond_and h
  exact ⟨h1, h2, h⟩
theorem apart_ws {x y : DInfo} {t : Nat} (h : apartD x y = true) (h1 : hasBit x.dst t = true) (h2 : hasBit y.sees t = true) : False :=
  land_zero (apart_of h).1 t ⟨h1, by rw [hasBit_lor, h2]; rfl⟩
theorem apart_ww {x y : DInfo} {t : Nat} (h : apartD x y = true) (h1 : hasBit x.dst t = true) (h2 : hasBit y.dst t = true) : False :=
  land_zero (apart_of h).1 t ⟨h1, by rw [hasBit_lor, h2]; simp⟩
theorem apart_sw {x y : DInfo} {t : Nat} (h : apartD x y = true) (h1 : hasBit x.sees t = true) (h2 : hasBit y.dst t = true) : False :=
  land_zero (apart_of h).2.1 t ⟨h2, h1⟩
theorem apart_ee {x y : DInfo} (h : apartD x y = true) (h1 : x.eff = true) (h2 : y.eff = true) : False := by
  have := (apart_of h).2.2
  rw [h1, h2] at this; cases this

/-- A region's run in the text's order, with all that was looked at. -/
structure Reg (T : Tab) (n : Nat) (rok : Bool) (ops : Array Oper) (l : List XOper) (ds : List DInfo) (call : CallF) (E : Nat → AEnv) (H : Nat → AHp) (R : List RLog) : Prop where
  len : l.length = ops.size
  dlen : ds.length = ops.size
  xo : ∀ (i : Nat) (o : Oper), ops[i]? = some o → ∃ x : XOper, l[i]? = some x ∧ xoper T n rok ops.toList o = some x
  info : ∀ (i : Nat) (d : DInfo), ds[i]? = some d → InfoOk ops.toList l ds i d
  step : ∀ (j : Nat) (x : XOper), l[j]? = some x → stepX call (E j) (H j) x = some (E (j + 1), H (j + 1)) ∧ (H j).size ≤ (H (j + 1)).size
  chk : checkRs (viewsOf H l ds 0) (H ops.size) R = true
  reads : ∀ j r, ReadAt E H l ds j r → r ∈ R

def Eff (l : List XOper) (j : Nat) : Prop := ∃ x, l[j]? = some x ∧ x.op.eff = true
def Wr (ops : Array Oper) (j : Nat) (t : Nat) : Prop := ∃ o, ops[j]? = some o ∧ o.dst = some t
/-- Its edges are done. -/
def Pre (ops : Array Oper) (D : Nat → Prop) (i : Nat) : Prop := ∀ o, ops[i]? = some o → ∀ e ∈ o.after, Region.binds .any e = true → D e.on

section
variable {n : Nat} {rok : Bool} {ops : Array Oper} {l : List XOper} {ds : List DInfo} {call : CallF} {E : Nat → AEnv} {H : Nat → AHp} {R : List RLog} {D : Nat → Prop} {ψ : Phi}

theorem Reg.at (g : Reg T n rok ops l ds call E H R) {i : Nat} (hi : i < ops.size) : ∃ o x d, ops[i]? = some o ∧ l[i]? = some x ∧ ds[i]? = some d ∧ xoper T n rok ops.toList o = some x ∧ d.dst = dstBits o.dst ∧
    d.sees = Nat.lor (operandBits o.op.operands.toList) (guardBits ops.toList o.guard) ∧ d.eff = x.op.eff := by
  have ho : ops[i]? = some ops[i] := by simp [hi]
  obtain ⟨x, hx, hxo⟩ := g.xo i _ ho
  have hd : ds[i]? = some (ds[i]'(by rw [g.dlen]; exact hi)) := by simp [g.dlen, hi]
  obtain ⟨⟨o', x', h1, h2, h3, h4, h5, _⟩, _⟩ := g.info i _ hd
  rw [Array.getElem?_toList, ho] at h1; cases h1
  rw [hx] at h2; cases h2
  exact ⟨_, x, _, ho, hx, hd, hxo, h3, h4, h5⟩

theorem Reg.mono (g : Reg T n rok ops l ds call E H R) : ∀ {j i : Nat}, i ≤ j → j ≤ ops.size → (H i).size ≤ (H j).size
  | 0, i, h, _ => by have : i = 0 := by omega
                     subst this; exact Nat.le_refl _
  | j + 1, i, h, hj => by
    by_cases he : i = j + 1
    · subst he; exact Nat.le_refl _
    · obtain ⟨o, x, d, _, hx, _⟩ := g.at (i := j) (by omega)
      exact Nat.le_trans (Reg.mono g (j := j) (i := i) (by omega) (by omega)) (g.step j x hx).2

/-- What is not apart comes ahead, if it lies ahead in the text. -/
theorem Reg.ahead (g : Reg T n rok ops l ds call E H R) (hc : Closed ops D) {i j : Nat} (hpre : Pre ops D i) (hji : j < i) {di dj : DInfo} (hdi : ds[i]? = some di) (hdj : ds[j]? = some dj) (hx : apartD dj di = true → False) : D j := by
  rcases (g.info i di hdi).pair j dj hji hdj with h | h
  · exact anc_in g.info hc i di hdi hpre j h
  · exact (hx h).elim

theorem Closed.pre (hc : Closed ops D) {i : Nat} (hi : D i) : Pre ops D i := fun o ho e he hb => hc i o hi ho e he hb

theorem Reg.wrBit (g : Reg T n rok ops l ds call E H R) {j t : Nat} (hw : Wr ops j t) : ∃ d, ds[j]? = some d ∧ hasBit d.dst t = true := by
  obtain ⟨o, ho, hd⟩ := hw
  have hj : j < ops.size := (Array.getElem?_eq_some_iff.1 ho).1
  obtain ⟨o', x, d, h1, _, h3, _, h5, _⟩ := g.at hj
  rw [ho] at h1; cases h1
  exact ⟨d, h3, by rw [h5]; exact dstBits_some hd⟩

theorem Reg.stable (g : Reg T n rok ops l ds call E H R) {t : Nat} (ht : t < n) (hn : n ≤ maxT) : ∀ {j i : Nat}, i ≤ j → j ≤ ops.size → (∀ m, i ≤ m → m < j → ¬ Wr ops m t) → (E j).tmps.getP (path fuelT t) = (E i).tmps.getP (path fuelT t)
  | 0, i, h, _, _ => by have : i = 0 := by omega
                        subst this; rfl
  | j + 1, i, h, hj, hw => by
    by_cases he : i = j + 1
    · subst he; rfl
    · rw [← Reg.stable g ht hn (j := j) (i := i) (by omega) (by omega) (fun m h1 h2 => hw m h1 (by omega))]
      obtain ⟨o, x, d, ho, hx, _, hxo, _⟩ := g.at (i := j) (by omega)
      obtain ⟨⟨v, eds, he'⟩, _⟩ := stepX_env (g.step j x hx).1
      rw [he']
      obtain ⟨_, hxd, _⟩ := xoper_some hxo
      rcases xdst_some hxd with ⟨_, hp⟩ | ⟨t', h1, h2, hp⟩
      · rw [hp]; rfl
      · rw [hp]
        show (Tr.setP (path fuelT t') (E j).tmps v).getP (path fuelT t) = _
        have lim : ∀ i, i < n → i + 1 < 2 ^ fuelT := fun i hi => by unfold maxT at hn; unfold fuelT; omega
        refine Tr.getP_setP_ne _ _ _ _ (fun hpp => ?_)
        have := path_inj fuelT t' t (lim t' h2) (lim t ht) hpp
        subst this
        exact hw j (by omega) (by omega) ⟨o, ho, h1⟩

/-- The temporaries at any time: each as its last writer left it. -/
def TM (n : Nat) (ops : Array Oper) (E : Nat → AEnv) (H : Nat → AHp) (D : Nat → Prop) (ψ : Phi) (tmps : Array Value) : Prop :=
  n ≤ maxT ∧ tmps.size = n ∧ ∀ t, t < n → ∃ s, s ≤ ops.size ∧ (s = 0 ∨ (D (s - 1) ∧ Wr ops (s - 1) t)) ∧ (∀ j, D j → Wr ops j t → j < s) ∧ VRel (ψ.cut (H s).size) (orUndef ((E s).tmps.getP (path fuelT t))) (tmps.getD t undef)

theorem TM.at {tmps : Array Value} (tm : TM n ops E H D ψ tmps) (g : Reg T n rok ops l ds call E H R) (hc : Closed ops D) {i : Nat} (hi : i < ops.size) (hnd : ¬ D i) (hpre : Pre ops D i) {di : DInfo} (hdi : ds[i]? = some di) {t : Nat} (hs : hasBit di.sees t = true) (ht : t < n) :
    VRel (ψ.cut (H i).size) (orUndef ((E i).tmps.getP (path fuelT t))) (tmps.getD t undef) := by
  obtain ⟨hn, _, tm⟩ := tm
  obtain ⟨s, hsN, h1, h2, h3⟩ := tm t ht
  have hsi : s ≤ i := by
    refine Nat.le_of_not_lt (fun hlt => ?_)
    rcases h1 with h1 | ⟨h1, hw⟩
    · omega
    · by_cases he : s - 1 = i
      · rw [he] at h1; exact hnd h1
      · obtain ⟨d, hd, hb⟩ := g.wrBit hw
        exact hnd (g.ahead hc (hc.pre h1) (by omega) hd hdi (fun ha => apart_sw ha hs hb))
  rw [g.stable ht hn hsi (by omega) (fun m hm1 hm2 hw => ?_)]
  · exact h3.mono (Phi.cut_le ψ (g.mono hsi (by omega)))
  · obtain ⟨d, hd, hb⟩ := g.wrBit hw
    have := h2 m (g.ahead hc hpre hm2 hdi hd (fun ha => apart_ws ha hb hs)) hw
    omega

theorem TM.put {ψ' : Phi} {a : Act} (tm : TM n ops E H D ψ a.tmps) (g : Reg T n rok ops l ds call E H R) (hc : Closed ops D) {i : Nat} (hi : i < ops.size) (hnd : ¬ D i) (hpre : Pre ops D i) {o : Oper} (ho : ops[i]? = some o) {x : XOper}
    (hxd : xdst n o.dst = some x.dst) (hl : Phi.le ψ ψ') {v : AVal} {u : Value} {eds : List (AVal × List AVal)} (hE : E (i + 1) = (AEnv.mk (E i).tmps eds).put x.dst v) (hv : VRel (ψ'.cut (H (i + 1)).size) v u) {dfs : List Deferred} :
    TM n ops E H (fun j => D j ∨ j = i) ψ' ({ a with defers := dfs }.put o.dst u).tmps := by
  obtain ⟨hn, hsz, tm⟩ := tm
  have lim : ∀ i, i < n → i + 1 < 2 ^ fuelT := fun i hi => by unfold maxT at hn; unfold fuelT; omega
  have other : ∀ t, t < n → o.dst ≠ some t → ∃ s, s ≤ ops.size ∧ (s = 0 ∨ ((D (s - 1) ∨ s - 1 = i) ∧ Wr ops (s - 1) t)) ∧ (∀ j, D j ∨ j = i → Wr ops j t → j < s) ∧ VRel (ψ'.cut (H s).size) (orUndef ((E s).tmps.getP (path fuelT t))) (a.tmps.getD t undef) := by
    intro t ht hne
    obtain ⟨s, h0, h1, h2, h3⟩ := tm t ht
    refine ⟨s, h0, h1.imp id (fun h => ⟨.inl h.1, h.2⟩), fun j hj hw => ?_, h3.mono (Phi.cut_mono hl _)⟩
    rcases hj with hj | rfl
    · exact h2 j hj hw
    · obtain ⟨o', ho', hd'⟩ := hw
      rw [ho] at ho'; cases ho'
      exact absurd hd' hne
  rcases xdst_some hxd with ⟨hd, hp⟩ | ⟨t0, hd, ht0, hp⟩
  · refine ⟨hn, by rw [hd]; exact hsz, fun t ht => ?_⟩
    rw [hd]
    exact other t ht (by rw [hd]; simp)
  · refine ⟨hn, by rw [hd]; simp [Act.put, hsz], fun t ht => ?_⟩
    by_cases htt : t = t0
    · subst htt
      have hw : Wr ops i t := ⟨o, ho, hd⟩
      refine ⟨i + 1, by omega, .inr ⟨.inr (by omega), by simpa using hw⟩, fun j hj hwj => ?_, ?_⟩
      · rcases hj with hj | rfl
        · refine Nat.lt_of_not_le (fun hle => ?_)
          obtain ⟨d1, hd1, hb1⟩ := g.wrBit hw
          obtain ⟨d2, hd2, hb2⟩ := g.wrBit hwj
          exact hnd (g.ahead hc (hc.pre hj) (by omega) hd2 hd1 (fun ha => apart_ww ha hb1 hb2))
        · omega
      · rw [hE, hp, hd]
        show VRel _ (orUndef ((Tr.setP (path fuelT t) (E i).tmps v).getP (path fuelT t))) ((a.tmps.setIfInBounds t u).getD t undef)
        rw [Tr.getP_setP_same, Array.getD_eq_getD_getElem?, Array.getElem?_setIfInBounds_self_of_lt (by omega)]
        exact hv
    · rw [hd]
      obtain ⟨s, h0, h1, h2, h3⟩ := other t ht (by rw [hd]; simp; exact fun e => htt e.symm)
      refine ⟨s, h0, h1, h2, ?_⟩
      show VRel _ _ ((a.tmps.setIfInBounds t0 u).getD t undef)
      rw [Array.getD_eq_getD_getElem?, Array.getElem?_setIfInBounds_ne (fun e => htt e.symm), ← Array.getD_eq_getD_getElem?]
      exact h3

end
end Go.AE

/- A region that draws its order: the invariant, and the pointer that runs ahead over what changes no memory. -/
namespace Go.AE
set_option autoImplicit false
open Go.RowKit Go.Lib
variable {T : Tab}

theorem Phi.cut_succ_some {ψ : Phi} {s : Nat} {p : PInfo} (h : ψ s = some p) : ψ.cut (s + 1) = (ψ.cut s).at s p := by
  funext b
  by_cases hb : b = s
  · subst hb; rw [Phi.at_same, Phi.cut_of (Nat.lt_succ_self _), h]
  · rw [Phi.at_ne _ _ hb]
    unfold Phi.cut
    by_cases hlt : b < s
    · rw [if_pos hlt, if_pos (by omega)]
    · rw [if_neg hlt, if_neg (by omega)]

theorem Phi.cut_succ_none {ψ : Phi} {s : Nat} (h : ψ s = none) : ψ.cut (s + 1) = ψ.cut s := by
  funext b
  unfold Phi.cut
  by_cases hb : b = s
  · subst hb; rw [if_pos (Nat.lt_succ_self _), if_neg (Nat.lt_irrefl _), h]
  · by_cases hlt : b < s
    · rw [if_pos hlt, if_pos (by omega)]
    · rw [if_neg hlt, if_neg (by omega)]

theorem Phi.cut_at_ge {ψ : Phi} {s b : Nat} {p : PInfo} (h : s ≤ b) : (ψ.at b p).cut s = ψ.cut s := by
  funext c
  unfold Phi.cut
  by_cases hc : c < s
  · rw [if_pos hc, if_pos hc, Phi.at_ne _ _ (by omega)]
  · rw [if_neg hc, if_neg hc]

theorem Phi.cut_at_lt {ψ : Phi} {s b : Nat} {p : PInfo} (h : b < s) : (ψ.at b p).cut s = (ψ.cut s).at b p := by
  funext c
  by_cases hb : c = b
  · subst hb; rw [Phi.cut_of h, Phi.at_same, Phi.at_same]
  · rw [Phi.at_ne _ _ hb]
    unfold Phi.cut
    rw [Phi.at_ne _ _ hb]

theorem Post.more {φ0 φ : Phi} {h0 h h' : AHp} {w00 w : World} {y : ABlk} {b : Nat} (p : Post φ0 φ h0 h w00 w) (e : h.new y = some (b, h')) : Post φ0 φ h0 h' w00 w := by
  obtain ⟨rfl, h1, h2, _, h4⟩ := AHp.new_facts e
  refine ⟨p.le, by have := p.size; omega, by rw [h2, p.ro], p.wsize, p.frame, p.new, fun b hb hn => ?_⟩
  rw [h4 b (by have := p.size; omega)]
  exact p.keep b hb hn

theorem Post.map {φ0 φ : Phi} {h0 h : AHp} {w00 w : World} (p : Post φ0 φ h0 h w00 w) {b : Nat} {q : PInfo} (hn : φ b = none) (hb : h0.size ≤ b) (hq : w00.heap.size ≤ q.blk) : Post φ0 (φ.at b q) h0 h w00 w := by
  refine ⟨p.le.trans (Phi.le_at q hn), p.size, p.ro, p.wsize, p.frame, fun c r hc => ?_, p.keep⟩
  by_cases hcb : c = b
  · subst hcb; rw [Phi.at_same] at hc; cases hc; exact .inr ⟨hb, .inl hq⟩
  · rw [Phi.at_ne _ _ hcb] at hc; exact p.new c r hc

/-- The world turns, but no block that was there. -/
theorem Post.world {φ0 φ : Phi} {h0 h : AHp} {w00 w w' : World} (p : Post φ0 φ h0 h w00 w) (hs : w.heap.size ≤ w'.heap.size) (hk : ∀ B, B < w.heap.size → w'.heap[B]? = w.heap[B]?) : Post φ0 φ h0 h w00 w' :=
  ⟨p.le, p.size, p.ro, Nat.le_trans p.wsize hs, fun B hB hu => (hk B (Nat.lt_of_lt_of_le hB p.wsize)).trans (p.frame B hB hu), p.new, p.keep⟩

/-- THE INVARIANT. 'c': every change ahead of place c is done, none from c on. Memory is that of the text ahead of place c, less the blocks that are not laid yet ('late'); blocks laid early wait ('pend'). -/
structure Inv (T : Tab) (N0 : Nat) (w0 : World) (n : Nat) (ops : Array Oper) (l : List XOper) (E : Nat → AEnv) (H : Nat → AHp) (φ0 : Phi) (w00 : World) (D : Nat → Prop) (c : Nat) (ψ : Phi) (a : Act) (w : World) : Prop where
  cle : c ≤ ops.size
  done : ∀ j, j < c → Eff l j → D j
  todo : ∀ j, c ≤ j → Eff l j → ¬ D j
  rel : Rel N0 w0 (ψ.cut (H c).size) (H c) w
  pend : ∀ i y, c ≤ i → i < ops.size → D i → (H i).new y = some ((H i).size, H (i + 1)) → ∃ p, ψ (H i).size = some p ∧ BRel (ψ.cut (H (i + 1)).size) y p w ∧ p.blk < w.heap.size ∧ N0 ≤ p.blk ∧ w00.heap.size ≤ p.blk ∧
    ∀ b q, ψ b = some q → q.blk = p.blk → b = (H i).size
  dom : ∀ b p, ψ b = some p → (H c).size ≤ b → ∃ i y, c ≤ i ∧ i < ops.size ∧ D i ∧ (H i).new y = some ((H i).size, H (i + 1)) ∧ b = (H i).size
  late : ∀ i y, i < c → ¬ Eff l i → ¬ D i → (H i).new y = some ((H i).size, H (i + 1)) → ψ (H i).size = none ∧ (H c).get (H i).size = some y
  tm : TM n ops E H D ψ a.tmps
  defs : DRel (ψ.cut (H c).size) (E c).defers a.defers
  gl : Gl T (ψ.cut (H 0).size)
  post : Post φ0 (ψ.cut (H c).size) (H 0) (H c) w00 w

section
variable {N0 : Nat} {w0 : World} {n : Nat} {rok : Bool} {ops : Array Oper} {l : List XOper} {ds : List DInfo} {call : CallF} {E : Nat → AEnv} {H : Nat → AHp} {R : List RLog} {φ0 : Phi} {w00 : World} {D : Nat → Prop} {c : Nat} {ψ : Phi} {a : Act} {w : World}

theorem new_size {h h' : AHp} {y : ABlk} {b : Nat} (e : h.new y = some (b, h')) : h'.size = h.size + 1 := (AHp.new_facts e).2.1

/-- Two places that lay a block of the same number are the same. -/
theorem Reg.place (g : Reg T n rok ops l ds call E H R) {i j : Nat} (hi : i < ops.size) (hj : j < ops.size) {y z : ABlk} (h1 : (H i).new y = some ((H i).size, H (i + 1))) (h2 : (H j).new z = some ((H j).size, H (j + 1))) (e : (H i).size = (H j).size) : i = j := by
  rcases Nat.lt_trichotomy i j with h | h | h
  · have := g.mono (i := i + 1) (j := j) h (by omega)
    have := new_size h1
    omega
  · exact h
  · have := g.mono (i := j + 1) (j := i) h (by omega)
    have := new_size h2
    omega

theorem Inv.advance (g : Reg T n rok ops l ds call E H R) (v : Inv T N0 w0 n ops l E H φ0 w00 D c ψ a w) (hlt : c < ops.size) (hne : ¬ Eff l c) : Inv T N0 w0 n ops l E H φ0 w00 D (c + 1) ψ a w := by
  obtain ⟨o, x, d, ho, hx, hd, _⟩ := g.at hlt
  have hst := (g.step c x hx).1
  have heff : x.op.eff = false := by
    cases he : x.op.eff with
    | false => rfl
    | true => exact absurd ⟨x, hx, he⟩ hne
  obtain ⟨hdf, hmem⟩ := (stepX_env hst).2 heff
  have hdone : ∀ j, j < c + 1 → Eff l j → D j := fun j hj he => by
    by_cases hjc : j = c
    · subst hjc; exact absurd he hne
    · exact v.done j (by omega) he
  rcases hmem with hH | ⟨y, hy⟩
  · have hno : ∀ z, (H c).new z ≠ some ((H c).size, H (c + 1)) := fun z hz => by
      have := new_size hz
      rw [hH] at this; omega
    refine ⟨hlt, hdone, fun j hj => v.todo j (by omega), by rw [hH]; exact v.rel, fun i y hi => v.pend i y (by omega), fun b p hb hle => ?_, fun i y hi hne' hnd hy => ?_, v.tm, by rw [hH, hdf]; exact v.defs, v.gl, by rw [hH]; exact v.post⟩
    · rw [hH] at hle
      obtain ⟨i, y, h1, h2, h3, h4, h5⟩ := v.dom b p hb hle
      refine ⟨i, y, ?_, h2, h3, h4, h5⟩
      by_cases hic : i = c
      · subst hic; exact absurd h4 (hno y)
      · omega
    · by_cases hic : i = c
      · subst hic; exact absurd hy (hno y)
      · rw [hH]; exact v.late i y (by omega) hne' hnd hy
  · have hf := AHp.new_facts hy
    have hsz := hf.2.1
    have hdom' : ∀ b p, ψ b = some p → (H (c + 1)).size ≤ b → ∃ i y, c + 1 ≤ i ∧ i < ops.size ∧ D i ∧ (H i).new y = some ((H i).size, H (i + 1)) ∧ b = (H i).size := by
      intro b p hb hle
      obtain ⟨i, y', h1, h2, h3, h4, h5⟩ := v.dom b p hb (by omega)
      refine ⟨i, y', ?_, h2, h3, h4, h5⟩
      by_cases hic : i = c
      · subst hic; omega
      · omega
    have hlate : ∀ i z, i < c → ¬ Eff l i → ¬ D i → (H i).new z = some ((H i).size, H (i + 1)) → ψ (H i).size = none ∧ (H (c + 1)).get (H i).size = some z := by
      intro i z hi hne' hnd hz
      obtain ⟨k1, k2⟩ := v.late i z hi hne' hnd hz
      refine ⟨k1, ?_⟩
      rw [hf.2.2.2.2 _ ?_]
      · exact k2
      · intro e
        have := g.place (by omega) hlt hz hy e
        omega
    cases hp : ψ (H c).size with
    | none =>
      have hcut : ψ.cut (H (c + 1)).size = ψ.cut (H c).size := by rw [hsz]; exact Phi.cut_succ_none hp
      refine ⟨hlt, hdone, fun j hj => v.todo j (by omega), by rw [hcut]; exact v.rel.more hy, fun i y hi => v.pend i y (by omega), hdom', fun i z hi hne' hnd hz => ?_, v.tm, by rw [hcut, hdf]; exact v.defs, v.gl, by rw [hcut]; exact v.post.more hy⟩
      by_cases hic : i = c
      · subst hic
        refine ⟨hp, ?_⟩
        rw [(AHp.new_facts hz).2.2.2.1]
      · exact hlate i z (by omega) hne' hnd hz
    | some p =>
      obtain ⟨i, y', h1, h2, h3, h4, h5⟩ := v.dom _ p hp (Nat.le_refl _)
      have hic : c = i := g.place hlt h2 hy h4 h5
      subst hic
      obtain ⟨q, k1, k2, k3, k4, k5, k6⟩ := v.pend c y (Nat.le_refl _) hlt h3 hy
      rw [hp] at k1; cases k1
      have hcut : ψ.cut (H (c + 1)).size = (ψ.cut (H c).size).at (H c).size p := by rw [hsz]; exact Phi.cut_succ_some hp
      have hnone : ψ.cut (H c).size (H c).size = none := by unfold Phi.cut; rw [if_neg (Nat.lt_irrefl _)]
      have hle : Phi.le (ψ.cut (H c).size) (ψ.cut (H (c + 1)).size) := Phi.cut_le ψ (by omega)
      refine ⟨hlt, hdone, fun j hj => v.todo j (by omega), ?_, fun i y hi => v.pend i y (by omega), hdom', fun i z hi hne' hnd hz => ?_, v.tm, by rw [hdf]; exact v.defs.mono hle, v.gl, ?_⟩
      · rw [hcut]
        refine (v.rel.new hy p k3 k4 (fun b r z hb _ _ e => ?_) (by rw [← hcut]; exact k2)).1
        obtain ⟨hb1, hb2⟩ := Phi.cut_lt hb
        have := k6 b r hb2 e
        omega
      · by_cases hic : i = c
        · subst hic; exact absurd h3 hnd
        · exact hlate i z (by omega) hne' hnd hz
      · rw [hcut]
        exact (v.post.more hy).map hnone v.post.size k5

/-- The pointer runs on to the next change, or to the end. -/
theorem Inv.norm (g : Reg T n rok ops l ds call E H R) : ∀ (m : Nat) {c : Nat}, ops.size - c = m → Inv T N0 w0 n ops l E H φ0 w00 D c ψ a w → ∃ c', Inv T N0 w0 n ops l E H φ0 w00 D c' ψ a w ∧ (c' = ops.size ∨ Eff l c')
  | 0, c, hm, v => ⟨c, v, .inl (by have := v.cle; omega)⟩
  | m + 1, c, hm, v => by
    by_cases he : Eff l c
    · exact ⟨c, v, .inr he⟩
    · exact Inv.norm g m (by omega) (v.advance g (by omega) he)

/-- What an operation looks at, at the time it runs. -/
theorem Inv.opsRel (g : Reg T n rok ops l ds call E H R) (hc : Closed ops D) (v : Inv T N0 w0 n ops l E H φ0 w00 D c ψ a w) {i : Nat} (hi : i < ops.size) (hnd : ¬ D i) (hpre : Pre ops D i) {o : Oper} (ho : ops[i]? = some o) :
    OpsRel T (ψ.cut (H i).size) n (E i) a.eval o.op.operands.toList := by
  intro x hx xx hxx
  refine xa_rel1 (v.gl.mono (Phi.cut_le ψ (g.mono (Nat.zero_le i) (by omega)))) (fun t hxt ht => ?_) hxx
  obtain ⟨o', _, d, h1, _, h3, _, _, h6, _⟩ := g.at hi
  rw [ho] at h1; cases h1
  refine v.tm.at g hc hi hnd hpre h3 ?_ ht
  subst hxt
  rw [h6, hasBit_lor, operandBits_mem hx]; rfl

theorem Inv.wanted (g : Reg T n rok ops l ds call E H R) (hc : Closed ops D) (v : Inv T N0 w0 n ops l E H φ0 w00 D c ψ a w) {i : Nat} (hi : i < ops.size) (hnd : ¬ D i) (hpre : Pre ops D i) {o : Oper} (ho : ops[i]? = some o) {gd : Option (List Bool × Bool)}
    (hg : xguard n ops.toList o.guard = some gd) {t : Bool} (hw : wantedA (E i) gd = some t) : Region.wanted o (yielded ops a.tmps) = t := by
  refine wanted_ok (φ := ψ.cut (H i).size) hg hw v.tm.2.1 (fun j want d h1 h2 => ?_)
  obtain ⟨o', _, di, k1, _, k3, _, _, k6, _⟩ := g.at hi
  rw [ho] at k1; cases k1
  cases hj : ops[j]? with
  | none => rw [hj] at h2; cases h2
  | some oj =>
    rw [hj] at h2
    simp only [Option.bind_some] at h2
    have hj' : nth ops.toList j = some oj := by rw [nth_eq, Array.getElem?_toList]; exact hj
    have hd : d < n := by
      rw [h1] at hg
      simp only [xguard, hj', xguardO, h2] at hg
      exact blt_true (cond_some hg).1
    have := v.tm.at g hc hi hnd hpre k3 (t := d) (by
      rw [k6, hasBit_lor, h1]
      simp only [guardBits, hj', guardDst]
      rw [dstBits_some h2]; simp) hd
    generalize E i = e at this
    obtain ⟨tm, dfs⟩ := e
    exact this

end
end Go.AE

/- A region that draws its order: one operation more is done. -/
namespace Go.AE
set_option autoImplicit false
open Go.RowKit Go.Lib
variable {T : Tab}

section
variable {N0 : Nat} {w0 : World} {n : Nat} {rok : Bool} {ops : Array Oper} {l : List XOper} {ds : List DInfo} {call : CallF} {E : Nat → AEnv} {H : Nat → AHp} {R : List RLog} {φ0 : Phi} {w00 : World} {D : Nat → Prop} {c : Nat} {ψ : Phi} {a : Act} {w : World}

/-- An operation that lays nothing. -/
theorem Inv.stay (g : Reg T n rok ops l ds call E H R) (hc : Closed ops D) (v : Inv T N0 w0 n ops l E H φ0 w00 D c ψ a w) {i : Nat} (hi : i < ops.size) (hnd : ¬ D i) (hpre : Pre ops D i) {o : Oper} (ho : ops[i]? = some o) {x : XOper}
    (hxd : xdst n o.dst = some x.dst) (hne : ¬ Eff l i) {vv : AVal} {u : Value} (hE : E (i + 1) = (E i).put x.dst vv) (hH : H (i + 1) = H i) (hv : VRel (ψ.cut (H i).size) vv u) :
    Inv T N0 w0 n ops l E H φ0 w00 (fun j => D j ∨ j = i) c ψ (a.put o.dst u) w := by
  have hno : ∀ z, (H i).new z ≠ some ((H i).size, H (i + 1)) := fun z hz => by
    have := new_size hz
    rw [hH] at this; omega
  refine ⟨v.cle, fun j hj he => .inl (v.done j hj he), fun j hj he hd => ?_, v.rel, fun j y hj hjN hd hy => ?_, fun b p hb hle => ?_, fun j y hj he hd hy => v.late j y hj he (fun h => hd (.inl h)) hy, ?_, by rw [put_defers]; exact v.defs, v.gl, v.post⟩
  · rcases hd with hd | rfl
    · exact v.todo j hj he hd
    · exact hne he
  · rcases hd with hd | rfl
    · exact v.pend j y hj hjN hd hy
    · exact absurd hy (hno y)
  · obtain ⟨j, y, h1, h2, h3, h4⟩ := v.dom b p hb hle
    exact ⟨j, y, h1, h2, .inl h3, h4⟩
  · exact v.tm.put (dfs := a.defers) (eds := (E i).defers) g hc hi hnd hpre ho hxd (Phi.le.refl ψ) (by rw [hE, ← aput_eta]) (by rw [hH]; exact hv)

theorem Inv.lt (v : Inv T N0 w0 n ops l E H φ0 w00 D c ψ a w) {b : Nat} {q : PInfo} (hb : ψ b = some q) : q.blk < w.heap.size := by
  by_cases hlt : b < (H c).size
  · exact v.rel.lt b q (by rw [Phi.cut_of hlt]; exact hb)
  · obtain ⟨i, y, h1, h2, h3, h4, h5⟩ := v.dom b q hb (by omega)
    obtain ⟨p, k1, _, k3, _⟩ := v.pend i y h1 h2 h3 h4
    rw [← h5, hb] at k1; cases k1
    exact k3

/-- An operation that lays a block. -/
theorem Inv.laid (g : Reg T n rok ops l ds call E H R) (hc : Closed ops D) (v : Inv T N0 w0 n ops l E H φ0 w00 D c ψ a w) (hcN : c = ops.size ∨ Eff l c) {i : Nat} (hi : i < ops.size) (hnd : ¬ D i) (hpre : Pre ops D i) {o : Oper} (ho : ops[i]? = some o) {x : XOper}
    (hxd : xdst n o.dst = some x.dst) (hne : ¬ Eff l i) {k : AKind} {u : Value} (hE : E (i + 1) = (E i).put x.dst (k.val (H i).size)) {y : ABlk} (hy : (H i).new y = some ((H i).size, H (i + 1))) {obj : Obj} {d room : Nat}
    (hB : ∀ (φ' : Phi) (id : Nat), Phi.le (ψ.cut (H i).size) φ' → φ' id = some ⟨w.heap.size, 0, room⟩ → ∀ w' : World, w'.heap[w.heap.size]? = some obj → BRel φ' y ⟨w.heap.size, 0, room⟩ w' ∧ VRel φ' (k.val id) u) :
    Inv T N0 w0 n ops l E H φ0 w00 (fun j => D j ∨ j = i) c (ψ.at (H i).size ⟨w.heap.size, 0, room⟩) (a.put o.dst u) { w with heap := w.heap.push obj, drawn := w.drawn + d } := by
  have hsz := new_size hy
  have hic : i ≠ c := by
    rintro rfl
    rcases hcN with h | h
    · omega
    · exact hne h
  have hnone : ψ (H i).size = none := by
    by_cases hlt : i < c
    · exact (v.late i y hlt hne hnd hy).1
    · cases hp : ψ (H i).size with
      | none => rfl
      | some p =>
        obtain ⟨j, z, h1, h2, h3, h4, h5⟩ := v.dom _ p hp (g.mono (by omega) (by omega))
        have := g.place hi h2 hy h4 h5
        subst this
        exact absurd h3 hnd
  have hle := Phi.le_at (φ := ψ) ⟨w.heap.size, 0, room⟩ hnone
  have hcl : Phi.le (ψ.cut (H i).size) ((ψ.at (H i).size ⟨w.heap.size, 0, room⟩).cut (H (i + 1)).size) := (Phi.cut_mono hle _).trans (Phi.cut_le _ (by omega))
  have hca : ((ψ.at (H i).size ⟨w.heap.size, 0, room⟩).cut (H (i + 1)).size) (H i).size = some ⟨w.heap.size, 0, room⟩ := by rw [Phi.cut_of (by omega)]; exact Phi.at_same _ _ _
  obtain ⟨hB1, hV1⟩ := hB _ _ hcl hca { w with heap := w.heap.push obj, drawn := w.drawn + d } (by simp)
  have hw : ∀ B, B < w.heap.size → ({ w with heap := w.heap.push obj, drawn := w.drawn + d } : World).heap[B]? = w.heap[B]? := fun B hB => by
    simp only []; rw [Array.getElem?_push, if_neg (by omega)]
  have hws : w.heap.size ≤ ({ w with heap := w.heap.push obj, drawn := w.drawn + d } : World).heap.size := by simp
  have hbot := v.rel.bottom
  have rel1 : Rel N0 w0 (ψ.cut (H c).size) (H c) { w with heap := w.heap.push obj, drawn := w.drawn + d } :=
    v.rel.world hws ⟨rfl, rfl, rfl, by simp, fun k hk => hw k (by omega)⟩ (fun b x p _ hp _ => hw _ (v.rel.lt b p hp))
  have post1 := v.post.world hws hw
  have lo : i < c → (H i).size < (H c).size := fun h => by
    have := g.mono (i := i + 1) (j := c) h v.cle
    omega
  have hi' : ¬ i < c → (H c).size ≤ (H i).size := fun h => g.mono (by omega) (by omega)
  refine ⟨v.cle, fun j hj he => .inl (v.done j hj he), fun j hj he hd => ?_, ?_, fun j z hj hjN hd hz => ?_, fun b p hb hle' => ?_, fun j z hj he hd hz => ?_, ?_, ?_, ?_, ?_⟩
  · rcases hd with hd | rfl
    · exact v.todo j hj he hd
    · exact hne he
  · by_cases hlt : i < c
    · have hcut := Phi.cut_at_lt (ψ := ψ) (p := ⟨w.heap.size, 0, room⟩) (lo hlt)
      rw [hcut]
      refine rel1.map ?_ (lo hlt) (v.late i y hlt hne hnd hy).2 (by simp) hbot (fun b q hq he => ?_) ?_
      · rw [Phi.cut_of (lo hlt)]; exact hnone
      · have := v.lt (Phi.cut_lt hq).2
        simp only [] at he
        omega
      · rw [← hcut]
        exact hB1.mono (Phi.cut_le _ (g.mono hlt v.cle))
    · rw [Phi.cut_at_ge (hi' hlt)]
      exact rel1
  · rcases hd with hd | rfl
    · obtain ⟨p, h1, h2, h3, h4, h5, h6⟩ := v.pend j z hj hjN hd hz
      refine ⟨p, hle _ _ h1, BRel.congr (hw _ h3) (h2.mono (Phi.cut_mono hle _)), Nat.lt_of_lt_of_le h3 hws, h4, h5, fun b q hb he => ?_⟩
      by_cases hbs : b = (H i).size
      · subst hbs
        rw [Phi.at_same] at hb; cases hb
        simp only [] at he
        omega
      · rw [Phi.at_ne _ _ hbs] at hb
        exact h6 b q hb he
    · have hzy : z = y := by
        have h1 := (AHp.new_facts hz).2.2.2.1
        have h2 := (AHp.new_facts hy).2.2.2.1
        rw [h1] at h2; cases h2; rfl
      subst hzy
      refine ⟨⟨w.heap.size, 0, room⟩, Phi.at_same _ _ _, hB1, by simp, hbot, v.post.wsize, fun b q hb he => ?_⟩
      by_cases hbs : b = (H j).size
      · exact hbs
      · rw [Phi.at_ne _ _ hbs] at hb
        have := v.lt hb
        simp only [] at he
        omega
  · by_cases hbs : b = (H i).size
    · subst hbs
      refine ⟨i, y, ?_, hi, .inr rfl, hy, rfl⟩
      refine Nat.le_of_not_lt (fun hlt => ?_)
      have := lo hlt
      omega
    · rw [Phi.at_ne _ _ hbs] at hb
      obtain ⟨j, z, h1, h2, h3, h4⟩ := v.dom b p hb hle'
      exact ⟨j, z, h1, h2, .inl h3, h4⟩
  · obtain ⟨h1, h2⟩ := v.late j z hj he (fun h => hd (.inl h)) hz
    refine ⟨?_, h2⟩
    rw [Phi.at_ne _ _ (fun e => ?_)]
    · exact h1
    · have hjN := v.cle
      exact hd (.inr (g.place (by omega) hi hz hy e))
  · exact v.tm.put (dfs := a.defers) (eds := (E i).defers) g hc hi hnd hpre ho hxd hle (by rw [hE, ← aput_eta]) hV1
  · rw [put_defers]; exact v.defs.mono (Phi.cut_mono hle _)
  · exact v.gl.mono (Phi.cut_mono hle _)
  · by_cases hlt : i < c
    · rw [Phi.cut_at_lt (lo hlt)]
      refine post1.map ?_ (g.mono (Nat.zero_le i) (by omega)) v.post.wsize
      rw [Phi.cut_of (lo hlt)]; exact hnone
    · rw [Phi.cut_at_ge (hi' hlt)]
      exact post1

/-- A change. -/
theorem Inv.change (g : Reg T n rok ops l ds call E H R) (hc : Closed ops D) (v : Inv T N0 w0 n ops l E H φ0 w00 D c ψ a w) (hi : c < ops.size) (hpre : Pre ops D c) (he : Eff l c) {o : Oper} (ho : ops[c]? = some o) {x : XOper}
    (hxd : xdst n o.dst = some x.dst) {φ' : Phi} {w' : World} {u : Value} {vv : AVal} {eds : List (AVal × List AVal)} {dfs : List Deferred} (hE : E (c + 1) = (AEnv.mk (E c).tmps eds).put x.dst vv) (hr : Rel N0 w0 φ' (H (c + 1)) w')
    (hp : Post (ψ.cut (H c).size) φ' (H c) (H (c + 1)) w w') (hv : VRel φ' vv u) (hds : DRel φ' eds dfs) :
    ∃ ψ', Inv T N0 w0 n ops l E H φ0 w00 (fun j => D j ∨ j = c) (c + 1) ψ' ({ a with defers := dfs }.put o.dst u) w' := by
  have hnd : ¬ D c := v.todo c (Nat.le_refl _) he
  have hs := hp.size
  let ψ' : Phi := fun b => if b < (H (c + 1)).size then φ' b else ψ b
  have hlo : ∀ b, b < (H (c + 1)).size → ψ' b = φ' b := fun b hb => if_pos hb
  have hhi : ∀ b, (H (c + 1)).size ≤ b → ψ' b = ψ b := fun b hb => if_neg (by omega)
  have hcut : ψ'.cut (H (c + 1)).size = φ' := by
    funext b
    by_cases hb : b < (H (c + 1)).size
    · rw [Phi.cut_of hb, hlo b hb]
    · have : φ' b = none := by
        cases hq : φ' b with
        | none => rfl
        | some q => exact absurd (hr.dom b q hq) hb
      unfold Phi.cut
      rw [if_neg hb, this]
  have hfar : ∀ b p, ψ b = some p → (H c).size ≤ b → ∃ i y, c + 1 ≤ i ∧ i < ops.size ∧ D i ∧ (H i).new y = some ((H i).size, H (i + 1)) ∧ b = (H i).size := by
    intro b p hb hle
    obtain ⟨i, y, h1, h2, h3, h4, h5⟩ := v.dom b p hb hle
    refine ⟨i, y, ?_, h2, h3, h4, h5⟩
    by_cases hic : i = c
    · subst hic; exact absurd h3 hnd
    · omega
  have hle : Phi.le ψ ψ' := by
    intro b p hb
    by_cases hlt : b < (H c).size
    · rw [hlo b (by omega)]
      exact hp.le b p (by rw [Phi.cut_of hlt]; exact hb)
    · obtain ⟨i, y, h1, h2, _, _, h5⟩ := hfar b p hb (by omega)
      rw [hhi b (by rw [h5]; exact g.mono h1 (by omega))]; exact hb
  refine ⟨ψ', hi, fun j hj hej => ?_, fun j hj hej hd => ?_, by rw [hcut]; exact hr, fun i y hj hjN hd hy => ?_, fun b p hb hle' => ?_, fun i y hj hei hd hy => ?_, ?_, ?_, ?_, by rw [hcut]; exact v.post.trans hp⟩
  · by_cases hjc : j = c
    · exact .inr hjc
    · exact .inl (v.done j (by omega) hej)
  · rcases hd with hd | rfl
    · exact v.todo j (by omega) hej hd
    · omega
  · rcases hd with hd | rfl
    · obtain ⟨p, h1, h2, h3, h4, h5, h6⟩ := v.pend i y (by omega) hjN hd hy
      have hge : (H c).size ≤ (H i).size := g.mono (by omega) (by omega)
      have hun : ∀ b q, ψ.cut (H c).size b = some q → q.blk ≠ p.blk := fun b q hb e => by
        obtain ⟨k1, k2⟩ := Phi.cut_lt hb
        have := h6 b q k2 e
        omega
      refine ⟨p, hle _ _ h1, BRel.congr (hp.frame _ h3 hun) (h2.mono (Phi.cut_mono hle _)), Nat.lt_of_lt_of_le h3 hp.wsize, h4, h5, fun b q hb e => ?_⟩
      by_cases hlt : b < (H (c + 1)).size
      · rw [hlo b hlt] at hb
        rcases hp.new b q hb with k | ⟨_, k | ⟨b0, p0, k1, k2⟩⟩
        · exact absurd e (hun b q k)
        · omega
        · exact absurd (k2.trans e) (hun b0 p0 k1)
      · rw [hhi b (by omega)] at hb
        exact h6 b q hb e
    · omega
  · rw [hhi b hle'] at hb
    obtain ⟨i, y, h1, h2, h3, h4⟩ := hfar b p hb (by omega)
    exact ⟨i, y, h1, h2, .inl h3, h4⟩
  · have hic : i ≠ c := fun e => hei (by rw [e]; exact he)
    have hlt : i < c := by omega
    obtain ⟨h1, h2⟩ := v.late i y hlt hei (fun h => hd (.inl h)) hy
    have hsi : (H i).size < (H c).size := by
      have := g.mono (i := i + 1) (j := c) hlt v.cle
      have := new_size hy
      omega
    have hcn : ψ.cut (H c).size (H i).size = none := by rw [Phi.cut_of hsi]; exact h1
    refine ⟨?_, by rw [hp.keep _ hsi hcn]; exact h2⟩
    rw [hlo _ (by omega)]
    cases hq : φ' (H i).size with
    | none => rfl
    | some q =>
      rcases hp.new _ q hq with k | ⟨k, _⟩
      · rw [hcn] at k; cases k
      · omega
  · exact v.tm.put g hc hi hnd hpre ho hxd hle hE (by rw [hcut]; exact hv)
  · rw [hcut, hE, aput_defers, put_defers]; exact hds
  · exact v.gl.mono (Phi.cut_mono hle _)

end
end Go.AE

/- A region that draws its order: reads, the steps, the whole. -/
namespace Go.AE
set_option autoImplicit false
open Go.RowKit Go.Lib
variable {T : Tab}

theorem viewsOf_mem {H : Nat → AHp} : ∀ {l : List XOper} {ds : List DInfo} {i : Nat} {p : AHp × Nat × Nat}, p ∈ viewsOf H l ds i → ∃ j x d, l[j]? = some x ∧ ds[j]? = some d ∧ x.op.eff = true ∧ p = (H (i + j), i + j, d.anc)
  | [], ds, i, p, hp => by cases ds <;> simp [viewsOf] at hp
  | _ :: _, [], i, p, hp => by simp [viewsOf] at hp
  | x :: l, d :: ds, i, p, hp => by
    simp only [viewsOf, List.mem_append] at hp
    rcases hp with hp | hp
    · by_cases he : x.op.eff = true
      · rw [if_pos he] at hp
        simp at hp
        exact ⟨0, x, d, rfl, rfl, he, hp⟩
      · rw [if_neg he] at hp; cases hp
    · obtain ⟨j, y, d', h1, h2, h3, h4⟩ := viewsOf_mem hp
      exact ⟨j + 1, y, d', by simpa using h1, by simpa using h2, h3, by rw [h4, Nat.add_assoc, Nat.add_comm 1 j]⟩

theorem viewsOf_at {H : Nat → AHp} : ∀ {l : List XOper} {ds : List DInfo} {i j : Nat} {x : XOper} {d : DInfo}, l[j]? = some x → ds[j]? = some d → x.op.eff = true →
    ∃ V1 V2, viewsOf H l ds i = V1 ++ (H (i + j), i + j, d.anc) :: V2 ∧ ∀ p ∈ V1, ∃ j' x' d', j' < j ∧ l[j']? = some x' ∧ ds[j']? = some d' ∧ x'.op.eff = true ∧ p = (H (i + j'), i + j', d'.anc)
  | [], ds, i, j, x, d, hx, hd, he => by simp at hx
  | _ :: _, [], i, j, x, d, hx, hd, he => by simp at hd
  | x0 :: l, d0 :: ds, i, 0, x, d, hx, hd, he => by
    simp at hx hd; subst hx; subst hd
    refine ⟨[], viewsOf H l ds (i + 1), ?_, by simp⟩
    simp only [viewsOf, if_pos he]; rfl
  | x0 :: l, d0 :: ds, i, j + 1, x, d, hx, hd, he => by
    obtain ⟨V1, V2, h1, h2⟩ := viewsOf_at (H := H) (l := l) (ds := ds) (i := i + 1) (j := j) (x := x) (d := d) (by simpa using hx) (by simpa using hd) he
    refine ⟨(if x0.op.eff = true then [(H i, i, d0.anc)] else []) ++ V1, V2, ?_, fun p hp => ?_⟩
    · simp only [viewsOf, h1, List.append_assoc]
      rw [show i + 1 + j = i + (j + 1) by omega]
    · simp only [List.mem_append] at hp
      rcases hp with hp | hp
      · by_cases he0 : x0.op.eff = true
        · rw [if_pos he0] at hp
          simp at hp
          exact ⟨0, x0, d0, by omega, rfl, rfl, he0, hp⟩
        · rw [if_neg he0] at hp; cases hp
      · obtain ⟨j', x', d', k1, k2, k3, k4, k5⟩ := h2 p hp
        exact ⟨j' + 1, x', d', by omega, by simpa using k2, by simpa using k3, k4, by rw [k5, Nat.add_assoc, Nat.add_comm 1 j']⟩

theorem sameAt_some {r : RLog} {h : AHp} (hs : sameAt r h = true) : lowVs h.size r.args = true ∧ r.read h = some r.val := by
  unfold sameAt at hs
  obtain ⟨h1, h2⟩ := cond_and hs
  rw [sizeH_eq] at h1
  refine ⟨h1, ?_⟩
  unfold sameO at h2
  split at h2
  · cases h2
  · rename_i u hu
    rw [hu, eqV_eq _ _ h2]

/-- What a read looks at are its operands. -/
theorem xop_r1 {n : Nat} {rok : Bool} {op : Op} {f : AHp → AVal → Option AVal} {x : XA} (h : xop T n rok op = some (.r1 f x)) : ∀ y ∈ op.operands.toList, ∀ yy, xa T n y = some yy → yy = x := by
  have one : ∀ {F : AHp → AVal → Option AVal} {a : Operand}, (xa T n a).map (XOp.r1 F) = some (XOp.r1 f x) → ∀ y ∈ [a], ∀ yy, xa T n y = some yy → yy = x := by
    intro F a hh y hy yy hyy
    obtain ⟨xx, e1, e2⟩ := map_some hh
    cases e2
    simp at hy; subst hy
    rw [e1] at hyy; cases hyy; rfl
  have noX1 : ∀ {F y}, x1 T n F y ≠ some (.r1 f x) := fun hh => by obtain ⟨_, _, _, _, e⟩ := x1_some hh; cases e
  have noX2 : ∀ {F y z}, x2 T n F y z ≠ some (.r1 f x) := fun hh => by obtain ⟨_, _, _, _, _, _, e⟩ := x2_some hh; cases e
  have noMap : ∀ {k : XA → XOp} {o}, (∀ y, k y ≠ .r1 f x) → Option.map k o ≠ some (.r1 f x) := fun hf hh => by obtain ⟨y, _, e⟩ := map_some hh; exact hf y e.symm
  have noXs : ∀ {k l}, (∀ y, k y ≠ .r1 f x) → xs T n k l ≠ some (.r1 f x) := fun hf hh => by obtain ⟨y, _, e⟩ := xs_some hh; exact hf y e.symm
  have noMk : ∀ {k : XA → XA → XOp} {a b}, (∀ y z, k y z ≠ .r1 f x) → mk2 k a b ≠ some (.r1 f x) := fun hf hh => by obtain ⟨y, z, _, _, e⟩ := mk2_some hh; exact hf y z e.symm
  unfold xop at h
  split at h
  all_goals first
    | (exact absurd h (noMap (by intros; simp)))
    | (exact absurd h noX1)
    | (exact absurd h noX2)
    | (exact absurd h (noXs (by intros; simp)))
    | (cases h; done)
    | skip
  all_goals (simp only [xalloc, xbuild, xbuildSlice, xload, xstore, xconvert, xiface, xmakeFunc, xmakeSlice, xslice, xlookup, xupdate, xassert, xcall, xdefer, xconvInt, xcl, xbuiltin, xlen, xcap, xappend, xcopy, xdata, xunsafeStr] at h)
  all_goals (repeat' (first
    | (exact one h)
    | (refine fun y hy => one h y ?_; simpa [Op.operands, Call.operands, *] using hy)
    | (exact absurd h (noMap (by intros; simp)))
    | (exact absurd h noX1)
    | (exact absurd h noX2)
    | (exact absurd h (noXs (by intros; simp)))
    | (exact absurd h (noMk (by intros; simp)))
    | (cases h; done)
    | (replace h := (cond_some h).2)
    | (replace h := (cond_none h).2)
    | (split at h)
    | (rw [Bool.cond_eq_ite] at h)))

theorem xop_r2 {n : Nat} {rok : Bool} {op : Op} {f : AHp → AVal → AVal → Option AVal} {x x' : XA} (h : xop T n rok op = some (.r2 f x x')) : ∀ y ∈ op.operands.toList, ∀ yy, xa T n y = some yy → yy = x ∨ yy = x' := by
  have noX1 : ∀ {F y}, x1 T n F y ≠ some (.r2 f x x') := fun hh => by obtain ⟨_, _, _, _, e⟩ := x1_some hh; cases e
  have noX2 : ∀ {F y z}, x2 T n F y z ≠ some (.r2 f x x') := fun hh => by obtain ⟨_, _, _, _, _, _, e⟩ := x2_some hh; cases e
  have noMap : ∀ {k : XA → XOp} {o}, (∀ y, k y ≠ .r2 f x x') → Option.map k o ≠ some (.r2 f x x') := fun hf hh => by obtain ⟨y, _, e⟩ := map_some hh; exact hf y e.symm
  have noXs : ∀ {k l}, (∀ y, k y ≠ .r2 f x x') → xs T n k l ≠ some (.r2 f x x') := fun hf hh => by obtain ⟨y, _, e⟩ := xs_some hh; exact hf y e.symm
  have noMk : ∀ {k : XA → XA → XOp} {a b}, (∀ y z, k y z ≠ .r2 f x x') → mk2 k a b ≠ some (.r2 f x x') := fun hf hh => by obtain ⟨y, z, _, _, e⟩ := mk2_some hh; exact hf y z e.symm
  have two : ∀ {F : AHp → AVal → AVal → Option AVal} {a b : Operand}, mk2 (XOp.r2 F) (xa T n a) (xa T n b) = some (.r2 f x x') → ∀ y ∈ [a, b], ∀ yy, xa T n y = some yy → yy = x ∨ yy = x' := by
    intro F a b hh y hy yy hyy
    obtain ⟨p, q, e1, e2, e3⟩ := mk2_some hh
    cases e3
    simp at hy
    rcases hy with rfl | rfl
    · rw [e1] at hyy; cases hyy; exact .inl rfl
    · rw [e2] at hyy; cases hyy; exact .inr rfl
  unfold xop at h
  split at h
  all_goals first
    | (exact absurd h (noMap (by intros; simp)))
    | (exact absurd h noX1)
    | (exact absurd h noX2)
    | (exact absurd h (noXs (by intros; simp)))
    | (cases h; done)
    | skip
  all_goals (simp only [xalloc, xbuild, xbuildSlice, xload, xstore, xconvert, xiface, xmakeFunc, xmakeSlice, xslice, xlookup, xupdate, xassert, xcall, xdefer, xconvInt, xcl, xbuiltin, xlen, xcap, xappend, xcopy, xdata, xunsafeStr] at h)
  all_goals (repeat' (first
    | (exact two h)
    | (exact absurd h (noMap (by intros; simp)))
    | (exact absurd h noX1)
    | (exact absurd h noX2)
    | (exact absurd h (noXs (by intros; simp)))
    | (exact absurd h (noMk (by intros; simp)))
    | (cases h; done)
    | (replace h := (cond_some h).2)
    | (replace h := (cond_none h).2)
    | (split at h)
    | (rw [Bool.cond_eq_ite] at h)))

end Go.AE

/- A region that draws its order: the steps, the whole. -/
namespace Go.AE
set_option autoImplicit false
open Go.RowKit Go.Lib
variable {T : Tab}

theorem Phi.cut_cut (ψ : Phi) (s t : Nat) : Phi.le ((ψ.cut s).cut t) (ψ.cut t) := fun b p h => by
  obtain ⟨h1, h2⟩ := Phi.cut_lt h
  rw [Phi.cut_of h1]
  exact (Phi.cut_lt h2).2

section
variable {N0 : Nat} {w0 : World} {n : Nat} {rok : Bool} {ops : Array Oper} {l : List XOper} {ds : List DInfo} {call : CallF} {E : Nat → AEnv} {H : Nat → AHp} {R : List RLog} {φ0 : Phi} {w00 : World} {D : Nat → Prop} {c : Nat} {ψ : Phi} {a : Act} {w : World}

/-- A read gives at the memory of its time what it gave in the text's order. -/
theorem Inv.read (g : Reg T n rok ops l ds call E H R) (hc : Closed ops D) (v : Inv T N0 w0 n ops l E H φ0 w00 D c ψ a w) (hcN : c = ops.size ∨ Eff l c) {i : Nat} (hnd : ¬ D i) (hpre : Pre ops D i) {x : XOper} {d : DInfo} (hx : l[i]? = some x)
    (hd : ds[i]? = some d) (hw : wantedA (E i) x.guard = some true) {f : AHp → Option AVal} {args : List AVal} (hr : readOf (E i) x.op = some (f, args)) {vv : AVal} (hf : f (H i) = some vv) :
    lowVs (H c).size args = true ∧ f (H c) = some vv ∧ lowV (H i).size vv = true := by
  have hmem := g.reads i ⟨f, vv, args, (H i).size, d.anc, i⟩ ⟨x, d, f, args, vv, hx, hd, hw, hr, hf, rfl⟩
  obtain ⟨h1, h2⟩ := checkRs_mem g.chk _ hmem
  have hlate : ∀ j x' d', l[j]? = some x' → ds[j]? = some d' → x'.op.eff = true → j < c → hasBit d'.anc i = false := by
    intro j x' d' hx' hd' he' hj
    cases hb : hasBit d'.anc i with
    | false => rfl
    | true => exact absurd (anc_in g.info hc j d' hd' (hc.pre (v.done j hj ⟨x', hx', he'⟩)) i hb) hnd
  have hs : sameAt ⟨f, vv, args, (H i).size, d.anc, i⟩ (H c) = true := by
    rcases hcN with rfl | ⟨xc, hxc, hec⟩
    · refine checkR_end h2 (fun p hp => ?_)
      obtain ⟨j, x', d', k1, k2, k3, k4⟩ := viewsOf_mem hp
      rw [k4]
      refine hlate j x' d' k1 k2 k3 ?_
      have := (List.getElem?_eq_some_iff.1 k1).1
      rw [g.len] at this; exact this
    · have hcl := (List.getElem?_eq_some_iff.1 hxc).1
      rw [g.len] at hcl
      obtain ⟨_, _, dc, _, _, hdc, _⟩ := g.at hcl
      obtain ⟨V1, V2, e1, e2⟩ := viewsOf_at (H := H) (i := 0) hxc hdc hec
      simp only [Nat.zero_add] at e1 e2
      rw [e1] at h2
      refine checkR_at h2 (fun p hp => ?_) ?_
      · obtain ⟨j', x', d', k0, k1, k2, k3, k4⟩ := e2 p hp
        rw [k4]
        exact hlate j' x' d' k1 k2 k3 k0
      · cases hb : hasBit d.anc c with
        | false => rfl
        | true => exact absurd (anc_in g.info hc i d hd hpre c hb) (v.todo c (Nat.le_refl _) ⟨xc, hxc, hec⟩)
  obtain ⟨k1, k2⟩ := sameAt_some hs
  exact ⟨k1, k2, h1⟩

theorem Inv.stepAny (HT : T.Ok) (hcall : CallOk T call) {b : Frame} {cs : List Frame} {k : List Item} {rest : List Nat} (hctx : Ctx b cs rok) (g : Reg T n rok ops l ds call E H R) (hc : Closed ops D) (v : Inv T N0 w0 n ops l E H φ0 w00 D c ψ a w)
    (hcN : c = ops.size ∨ Eff l c) {i : Nat} (hi : i < ops.size) (hnd : ¬ D i) (hpre : Pre ops D i) :
    ∃ c' ψ' a' w', Steps T.P (lone (on b a (.inRegion ops (i :: rest) :: k)) cs w) (lone (on b a' (.inRegion ops rest :: k)) cs w') ∧ Inv T N0 w0 n ops l E H φ0 w00 (fun j => D j ∨ j = i) c' ψ' a' w' := by
  obtain ⟨o, x, d, ho, hx, hd, hxo, _, _, hef⟩ := g.at hi
  obtain ⟨h1, h2, h3⟩ := xoper_some hxo
  have hst := (g.step i x hx).1
  have hops := v.opsRel g hc hi hnd hpre ho
  have hrok : b.roundOf = none ∨ ∀ c, o.op ≠ .defer c := by
    cases hr : rok with
    | true => exact .inl (hctx hr).1
    | false => exact .inr (rok_defer h1 hr).1
  have hrec : x.op = .rc → b.roundOf = none ∧ ∀ fr : Frame, fr.kind = b.kind → tryRecover fr cs = none := fun hrc => by
    cases hr : rok with
    | true => exact hctx hr
    | false => exact absurd hrc (rok_defer h1 hr).2
  have skip : ∀ {u}, u = undef → Region.wanted o (yielded ops a.tmps) = false → Steps T.P (lone (on b a (.inRegion ops (i :: rest) :: k)) cs w) (lone (on b (a.put o.dst u) (.inRegion ops rest :: k)) cs w) := fun hu hwo => by
    subst hu
    have := st_op_skip (P := T.P) (b := b) (a := a) (k := k) (cs := cs) (w := w) (ops := ops) (i := i) (rest := rest) (by simp [ho, hwo])
    rw [ho] at this; exact .one this
  cases hw : wantedA (E i) x.guard with
  | none =>
    obtain ⟨op, dd, gd⟩ := x
    simp only [stepX, hw] at hst; cases hst
  | some t =>
  have hwo := v.wanted g hc hi hnd hpre ho h3 hw
  have hst' : stepW call (E i) (H i) x.op x.dst (some t) = some (E (i + 1), H (i + 1)) := by
    obtain ⟨op, dd, gd⟩ := x
    rw [← hw]; exact hst
  by_cases he : Eff l i
  · have hic : i = c := by
      have hci : c ≤ i := Nat.le_of_not_lt (fun hlt => hnd (v.done i hlt he))
      by_cases hne : i = c
      · exact hne
      · exfalso
        rcases hcN with hN | hce
        · omega
        · obtain ⟨xc, hxc, hec⟩ := hce
          obtain ⟨_, xc', dc, _, hxc', hdc, _, _, _, hefc⟩ := g.at (i := c) (by omega)
          rw [hxc] at hxc'; cases hxc'
          obtain ⟨x', hx', he'⟩ := he
          rw [hx] at hx'; cases hx'
          exact v.todo c (Nat.le_refl _) ⟨xc, hxc, hec⟩ (g.ahead hc hpre (by omega) hd hdc (fun ha => apart_ee ha (by rw [hefc]; exact hec) (by rw [hef]; exact he')))
    subst hic
    cases t with
    | true =>
      have spec := xop_ok (φ := ψ.cut (H i).size) (w := w) (e := E i) (ρ := a.eval) HT h1 hops
      obtain ⟨φ', w', u, vv, eds, dfs, q1, q2, q3, q4, q5, q6⟩ := opX_step (k := k) (rest := rest) hcall hst' ho hwo spec hrok hrec (v.gl.mono (Phi.cut_le ψ (g.mono (Nat.zero_le i) (by omega)))) v.rel v.defs
      obtain ⟨ψ', hv'⟩ := v.change g hc hi hpre he ho h2 q5 q2 q3 q4 q6
      exact ⟨i + 1, ψ', _, w', q1, hv'⟩
    | false =>
      simp only [stepW, Option.some.injEq, Prod.mk.injEq] at hst'
      obtain ⟨e1, e2⟩ := hst'
      obtain ⟨ψ', hv'⟩ := v.change (φ' := ψ.cut (H i).size) (w' := w) (u := undef) (vv := undefA) (eds := (E i).defers) (dfs := a.defers) g hc hi hpre he ho h2 (by rw [← e1, ← aput_eta]) (by rw [← e2]; exact v.rel) (by rw [← e2]; exact Post.refl _ _ _) (undef_rel _) v.defs
      exact ⟨i + 1, ψ', _, w, skip rfl hwo, hv'⟩
  · cases t with
    | false =>
      simp only [stepW, Option.some.injEq, Prod.mk.injEq] at hst'
      obtain ⟨e1, e2⟩ := hst'
      exact ⟨c, ψ, _, w, skip rfl hwo, v.stay g hc hi hnd hpre ho h2 he e1.symm e2.symm (undef_rel _)⟩
    | true =>
      have hstep : Runs T.P (on b a (.inRegion ops (i :: rest) :: k)) cs w (on b a (.inRegion ops (i :: rest) :: k)) cs (execOp a.eval o) w := by
        unfold Runs; rw [stepG_op' ho hwo hrok]
      have hfin : ∀ u, (on b a (.inRegion ops (i :: rest) :: k)).finish u = on b (a.put o.dst u) (.inRegion ops rest :: k) := fun u => by rw [on_finish, ho]; rfl
      have quiet : ∀ {vv : AVal}, E (i + 1) = (E i).put x.dst vv → H (i + 1) = H i → ValOk T.P (ψ.cut (H i).size) w (execOp a.eval o) vv →
          ∃ c' ψ' a' w', Steps T.P (lone (on b a (.inRegion ops (i :: rest) :: k)) cs w) (lone (on b a' (.inRegion ops rest :: k)) cs w') ∧ Inv T N0 w0 n ops l E H φ0 w00 (fun j => D j ∨ j = i) c' ψ' a' w' := by
        rintro vv e1 e2 ⟨u, r1, r2⟩
        refine ⟨c, ψ, a.put o.dst u, w, .one ?_, v.stay g hc hi hnd hpre ho h2 he e1 e2 r2⟩
        have := hstep.value r1
        rw [hfin] at this; exact this
      have spec := xop_ok (φ := ψ.cut (H i).size) (w := w) (e := E i) (ρ := a.eval) HT h1 hops
      obtain ⟨op, dd, gd⟩ := x
      cases op with
      | p1 f y =>
        simp only [stepW, opX] at hst'
        obtain ⟨vv, k1, k2, k3⟩ := rv_some hst'
        exact quiet k2 k3 (spec vv k1)
      | p2 f y z =>
        simp only [stepW, opX] at hst'
        obtain ⟨vv, k1, k2, k3⟩ := rv_some hst'
        exact quiet k2 k3 (spec vv k1)
      | pn f ys =>
        simp only [stepW, opX] at hst'
        obtain ⟨vv, k1, k2, k3⟩ := rv_some hst'
        exact quiet k2 k3 (spec vv k1)
      | r1 f y =>
        simp only [stepW, opX] at hst'
        obtain ⟨vv, k1, k2, k3⟩ := rv_some hst'
        obtain ⟨m1, m2, m3⟩ := v.read g hc hcN hnd hpre hx hd hw (f := fun h => f h (y.eval (E i))) (args := [y.eval (E i)]) rfl k1
        have hops' : OpsRel T (ψ.cut (H c).size) n (E i) a.eval o.op.operands.toList := fun z hz zz hzz => by
          have e := xop_r1 h1 z hz zz hzz
          subst e
          exact ((hops z hz zz hzz).low (cond_and (by simpa only [lowVs] using m1)).1).mono (Phi.cut_cut _ _ _)
        have spec' := xop_ok (φ := ψ.cut (H c).size) (w := w) (e := E i) (ρ := a.eval) HT h1 hops'
        obtain ⟨u, q1, q2⟩ := spec' N0 w0 (H c) vv v.rel m2
        exact quiet k2 k3 ⟨u, q1, (q2.low m3).mono (Phi.cut_cut _ _ _)⟩
      | r2 f y y' =>
        simp only [stepW, opX] at hst'
        obtain ⟨vv, k1, k2, k3⟩ := rv_some hst'
        obtain ⟨m1, m2, m3⟩ := v.read g hc hcN hnd hpre hx hd hw (f := fun h => f h (y.eval (E i)) (y'.eval (E i))) (args := [y.eval (E i), y'.eval (E i)]) rfl k1
        obtain ⟨m11, m12⟩ := cond_and (by simpa only [lowVs] using m1)
        have hops' : OpsRel T (ψ.cut (H c).size) n (E i) a.eval o.op.operands.toList := fun z hz zz hzz => by
          rcases xop_r2 h1 z hz zz hzz with e | e
          · subst e
            exact ((hops z hz zz hzz).low m11).mono (Phi.cut_cut _ _ _)
          · subst e
            exact ((hops z hz zz hzz).low (cond_and m12).1).mono (Phi.cut_cut _ _ _)
        have spec' := xop_ok (φ := ψ.cut (H c).size) (w := w) (e := E i) (ρ := a.eval) HT h1 hops'
        obtain ⟨u, q1, q2⟩ := spec' N0 w0 (H c) vv v.rel m2
        exact quiet k2 k3 ⟨u, q1, (q2.low m3).mono (Phi.cut_cut _ _ _)⟩
      | al f ys =>
        simp only [stepW, opX] at hst'
        obtain ⟨vv, k1, k2⟩ := ru_some hst'
        unfold alO at k1
        split at k1
        · cases k1
        · rename_i y kk hy
          obtain ⟨s', hs, obj, dr, u, room, r1, r2⟩ := spec y kk hy
          obtain ⟨bb, hb, rfl⟩ := newO_some k1
          obtain ⟨rfl, _⟩ := AHp.new_facts hb
          refine ⟨c, _, a.put o.dst u, _, .one ?_, v.laid (d := dr) g hc hcN hi hnd hpre ho h2 he k2 hb r2⟩
          have := hstep.value (v := u) (w' := { w with heap := w.heap.push obj, drawn := w.drawn + dr }) (by rw [hs]; simp [r1])
          rw [hfin] at this; exact this
      | rc =>
        simp only [stepW, opX] at hst'
        obtain ⟨vv, k1, k2, k3⟩ := rv_some hst'
        cases k1
        obtain ⟨q1, q2⟩ := hrec rfl
        refine ⟨c, ψ, a.put o.dst .nilIface, w, .one ?_, v.stay g hc hi hnd hpre ho h2 he k2 k3 .nilIface⟩
        have := hstep.recover spec q1 (q2 _ rfl)
        rw [hfin] at this; exact this
      | ef f ys => exact absurd ⟨_, hx, rfl⟩ he
      | st f y z => exact absurd ⟨_, hx, rfl⟩ he
      | sk f ys => exact absurd ⟨_, hx, rfl⟩ he
      | cl f ys => exact absurd ⟨_, hx, rfl⟩ he
      | df f ys => exact absurd ⟨_, hx, rfl⟩ he

def DP (D : Array Bool) (j : Nat) : Prop := D.getD j false = true

theorem DP.set {D : Array Bool} {i : Nat} (hi : i < D.size) : (fun j => DP D j ∨ j = i) = DP (D.setIfInBounds i true) := by
  funext j
  unfold DP
  by_cases hj : j = i
  · subst hj
    simp only [Array.getD_eq_getD_getElem?]
    rw [Array.getElem?_setIfInBounds_self_of_lt hi]
    simp
  · simp only [Array.getD_eq_getD_getElem?]
    rw [Array.getElem?_setIfInBounds_ne (fun e => hj e.symm)]
    simp [hj]

theorem draw_loop (HT : T.Ok) (hcall : CallOk T call) {b : Frame} {cs : List Frame} {k : List Item} (hctx : Ctx b cs rok) (g : Reg T n rok ops l ds call E H R) {Dd : Array Bool} {L : List Nat} (ord : Ord ops Dd L) : Dd.size = ops.size → Closed ops (DP Dd) →
    ∀ {c : Nat} {ψ : Phi} {a : Act} {w : World}, Inv T N0 w0 n ops l E H φ0 w00 (DP Dd) c ψ a w →
      ∃ (D' : Nat → Prop) (ψ' : Phi) (a' : Act) (w' : World), Steps T.P (lone (on b a (.inRegion ops L :: k)) cs w) (lone (on b a' k) cs w') ∧ (∀ i, i < ops.size → D' i) ∧ Inv T N0 w0 n ops l E H φ0 w00 D' ops.size ψ' a' w' := by
  induction ord with
  | nil Dd hall =>
    intro hs hc c ψ a w v
    obtain ⟨c', v', hcN⟩ := v.norm g _ rfl
    have hD : ∀ i, i < ops.size → DP Dd i := fun i hi => by
      have := hall i hi
      unfold DP
      rw [Array.getD_eq_getD_getElem?, Array.getElem?_eq_getElem (by omega)] at this ⊢
      simpa using this
    rcases hcN with rfl | he
    · exact ⟨_, ψ, a, w, .one st_region_end, hD, v'⟩
    · have hlt : c' < ops.size := by
        obtain ⟨x, hx, _⟩ := he
        have := (List.getElem?_eq_some_iff.1 hx).1
        rw [g.len] at this; exact this
      exact absurd (hD c' hlt) (v'.todo c' (Nat.le_refl _) he)
  | cons Dd i L hm _ ih =>
    intro hs hc c ψ a w v
    obtain ⟨c', v', hcN⟩ := v.norm g _ rfl
    obtain ⟨hi, hni, o, ho, hed⟩ := ready_iff.1 hm
    have hpre : Pre ops (DP Dd) i := fun o' ho' e he hb => by
      rw [ho] at ho'; cases ho'
      exact hed e he hb
    have hnd : ¬ DP Dd i := fun h => by
      unfold DP at h
      rw [Array.getD_eq_getD_getElem?, Array.getElem?_eq_getElem (by omega)] at h hni
      simp at h hni
      rw [h] at hni; cases hni
    obtain ⟨c2, ψ2, a2, w2, st, v2⟩ := v'.stepAny (k := k) (rest := L) HT hcall hctx g hc hcN hi hnd hpre
    have hset := DP.set (D := Dd) (i := i) (by omega)
    have hc2 : Closed ops (DP (Dd.setIfInBounds i true)) := by
      rw [← hset]
      intro j oj hj hoj e he hb
      rcases hj with hj | rfl
      · exact .inl (hc j oj hj hoj e he hb)
      · exact .inl (hpre oj hoj e he hb)
    rw [hset] at v2
    obtain ⟨D', ψ3, a3, w3, st3, hD3, v3⟩ := ih (by simp [hs]) hc2 v2
    exact ⟨D', ψ3, a3, w3, st.trans st3, hD3, v3⟩

end

theorem Phi.cut_self {N0 : Nat} {w0 : World} {φ : Phi} {h : AHp} {w : World} (r : Rel N0 w0 φ h w) : φ.cut h.size = φ := by
  funext b
  by_cases hb : b < h.size
  · exact Phi.cut_of hb
  · unfold Phi.cut
    rw [if_neg hb]
    cases hq : φ b with
    | none => rfl
    | some q => exact absurd (r.dom b q hq) hb

/-- A region that draws its order is sound. -/
theorem drawOk (HT : T.Ok) : DrawOk T := by
  intro call hcall n rok ops l e h e' h' hl hf N0 w0 φ a w s b cs k id hctx
  unfold drawX drawO at hf
  split at hf
  · cases hf
  · rename_i ds hds
    obtain ⟨hinfo, hdlen⟩ := drawInfos_ok hds
    obtain ⟨E, H, R, k1, k2, k3, k4, k5, k6, k7, k8⟩ := drawGo_ok (l := l) (ds := ds) (i := 0) rfl rfl hf
    obtain ⟨hll, hlg⟩ := mapA_some hl
    have hlen : l.length = ops.size := by rw [hll]; simp
    simp only [Nat.zero_add, List.drop_zero] at k3 k4 k6
    rw [hlen] at k3 k4
    have g : Reg T n rok ops l ds call E H R := by
      refine ⟨hlen, by rw [hdlen]; simp, fun i o ho => ?_, hinfo, fun j x hx => k5 j x (Nat.zero_le _) hx, ?_, fun j r hr => k8 j r (Nat.zero_le _) hr⟩
      · exact hlg i o (by rw [Array.getElem?_toList]; exact ho)
      · rw [k4]; simpa using k6
    have hedge : EdgesOk ops := fun i o ho e he hb => by
      have hi := (Array.getElem?_eq_some_iff.1 ho).1
      obtain ⟨o', x, d, ho', hx, hd, _⟩ := g.at hi
      obtain ⟨⟨o2, x2, q1, q2, _, _, _, q3, _⟩, _⟩ := hinfo i d hd
      rw [Array.getElem?_toList, ho] at q1; cases q1
      exact q3 e he hb
    have hcut : φ.cut h.size = φ := Phi.cut_self s.rel
    have v0 : Inv T N0 w0 n ops l E H φ w (DP (Array.replicate ops.size false)) 0 φ a { w with drawn := w.drawn + 1 } := by
      have hno : ∀ j, ¬ DP (Array.replicate ops.size false) j := fun j hj => by
        unfold DP at hj
        rw [Array.getD_eq_getD_getElem?, Array.getElem?_replicate] at hj
        split at hj <;> simp at hj
      refine ⟨Nat.zero_le _, fun j hj => by omega, fun j _ _ => hno j, by rw [k2, hcut]; exact s.rel.drawn _, fun i y _ _ hd => absurd hd (hno i), fun b p hb hle => ?_, fun i y hi => by omega, ⟨s.tmps.1, s.tmps.2.1, fun t ht => ⟨0, Nat.zero_le _, .inl rfl, fun j hj => absurd hj (hno j), ?_⟩⟩, ?_, ?_, ?_⟩
      · rw [k2] at hle
        have := s.rel.dom b p hb
        omega
      · rw [k1, k2, hcut]; exact s.tmps.2.2 t ht
      · rw [k1, k2, hcut]; exact s.ds
      · rw [k2, hcut]; exact s.gl
      · rw [k2, hcut]; exact Post.drew _ _ _ _
    have hclosed : Closed ops (DP (Array.replicate ops.size false)) := fun i o hi => by
      unfold DP at hi
      rw [Array.getD_eq_getD_getElem?, Array.getElem?_replicate] at hi
      split at hi <;> simp at hi
    have hst := st_region_draw (P := T.P) (b := b) (a := a) (k := k) (cs := cs) (w := w) (id := id) (ops := ops)
    rw [HT.mixed] at hst
    obtain ⟨D', ψ', a', w', st, hall, v⟩ := draw_loop (k := k) HT hcall hctx g (ord_schedule hedge (w.tape w.drawn (.order b.fn id))) (by simp) hclosed v0
    refine ⟨ψ'.cut (H ops.size).size, a', w', .head hst st, ⟨?_, ⟨v.tm.1, v.tm.2.1, fun t ht => ?_⟩, ?_, ?_⟩, ?_⟩
    · rw [← k4]; exact v.rel
    · obtain ⟨sx, hsN, _, h2, h3⟩ := v.tm.2.2 t ht
      rw [← k3, g.stable ht v.tm.1 hsN (Nat.le_refl _) (fun m hm1 hm2 hw => ?_)]
      · exact h3.mono (Phi.cut_le _ (g.mono hsN (Nat.le_refl _)))
      · have := h2 m (hall m hm2) hw
        omega
    · rw [← k3]; exact v.defs
    · exact v.gl.mono (Phi.cut_le _ (g.mono (Nat.zero_le _) (Nat.le_refl _)))
    · have := v.post
      rw [k2, k4] at this
      rw [k4]; exact this

end Go.AE

/- From the evaluator to the call. -/
namespace Go.AE
set_option autoImplicit false
open Go.RowKit Go.Lib
variable {T : Tab}

theorem runOk (HT : T.Ok) (m : Nat) : RunOk T (runA T m) := (runA_ok HT (drawOk HT) m).1

/-- A call that the evaluator answers. -/
theorem calls_of (HT : T.Ok) {N0 : Nat} {w0 : World} {φ : Phi} {h h' : AHp} {w : World} {m d : Nat} {f : FuncId} {as : List AVal} {args : Array Value} {v : AVal} (hb : bodyIs (T.fn.get f) = true)
    (hcall : callV T (runA T m) d h (.func (.func f) [] []) as = some (v, h')) (hg : Gl T φ) (r : Rel N0 w0 φ h w) (ha : VRels φ as args.toList) :
    Calls T.P f args w fun e w' => ∃ u φ', e = .returned u ∧ VRel φ' v u ∧ Rel N0 w0 φ' h' w' ∧ Post φ φ' h h' w w' := by
  intro cs
  obtain ⟨φ', u, w', fr, fn, k1, k2, k3, k4, k5, k6, k7, k8, k9, k10⟩ := bodyCall_ok HT (runOk HT m) d N0 w0 φ h w f [] [] as v h' [] [] args.toList hg r .nil .nil ha hb hcall .normal cs (quiet_normal cs)
  have e1 : (⟨([] : List Value) ++ (args.toList ++ [])⟩ : Array Value) = args := by apply Array.ext'; simp
  rw [e1] at k2
  exact ⟨.returned u, w', fr, ⟨u, φ', rfl, k10, k8, k9⟩, k2, k6, k4, k5, k3, fn, by rw [k6]; exact k1, k7⟩

/-- The package-level variables alone. -/
def phi0 (n : Nat) : Phi := fun b => if b < n then some ⟨b, 0, 0⟩ else none

theorem rel0 {n : Nat} (hn : n ≤ maxT + 1) {W : World} (hW : n ≤ W.heap.size) : Rel W.heap.size W (phi0 n) ⟨.leaf, n, n⟩ W := by
  have hget : ∀ b, (⟨.leaf, n, n⟩ : AHp).get b = none := fun b => by unfold AHp.get; cases b <;> rfl
  refine ⟨fun b x p hb => ?_, fun b b' x x' p p' _ _ hb => ?_, fun b p hp => ?_, fun b p hp => ?_, fun b p hp hro => ?_, hn, Below.refl _ _, Nat.le_refl _⟩
  · rw [hget] at hb; cases hb
  · rw [hget] at hb; cases hb
  · unfold phi0 at hp
    split at hp
    · assumption
    · cases hp
  · unfold phi0 at hp
    split at hp
    · cases hp; simp only []; omega
    · cases hp
  · unfold phi0 at hp
    split at hp
    · simp only [] at hro; omega
    · cases hp

theorem gl0 (T : Tab) : Gl T (phi0 T.ng) := fun g hg => ⟨⟨g, 0, 0⟩, if_pos hg, rfl, rfl⟩

/-- A closed call that looks at no package-level variable. -/
theorem calls_closed (HT : T.Ok) (hn : T.ng ≤ maxT + 1) {W : World} (hW : T.ng ≤ W.heap.size) {m d : Nat} {f : FuncId} {as : List AVal} {args : Array Value} {v : AVal} {h' : AHp} (hb : bodyIs (T.fn.get f) = true)
    (hcall : callV T (runA T m) d ⟨.leaf, T.ng, T.ng⟩ (.func (.func f) [] []) as = some (v, h')) (ha : VRels (phi0 T.ng) as args.toList) :
    Calls T.P f args W fun e w' => ∃ u φ', e = .returned u ∧ VRel φ' v u ∧ Below W.heap.size W w' := by
  refine (calls_of HT hb hcall (gl0 T) (rel0 hn hW) ha).mono fun e w' => ?_
  rintro ⟨u, φ', h1, h2, h3, _⟩
  exact ⟨u, φ', h1, h2, h3.below⟩

end Go.AE

/- The evaluator with known calls: what is proved of a function once is used at each of its calls. -/
namespace Go.AE
set_option autoImplicit false
open Go.RowKit Go.Lib
variable {T : Tab} {φ : Phi} {N0 : Nat} {w0 : World} {h : AHp} {w : World}

/-- What is known of calls: of a memory, a function, its arguments: its result, and memory behind it. -/
abbrev KnownF := AHp → FuncId → List AVal → HV

def callK (K : KnownF) (call : CallF) : CallF := fun h f args =>
  match f with
  | .func (.func g) [] [] =>
    match K h g args with
    | some r => some r
    | none => call h (.func (.func g) [] []) args
  | f => call h f args

/-- What is known is so. -/
def Known (T : Tab) (K : KnownF) : Prop :=
  ∀ (h : AHp) (f : FuncId) (as : List AVal) (v : AVal) (h' : AHp), K h f as = some (v, h') → bodyIs (T.fn.get f) = true ∧
    ∀ (N0 : Nat) (w0 : World) (φ : Phi) (w : World) (args : Array Value), Gl T φ → Rel N0 w0 φ h w → VRels φ as args.toList →
      Calls T.P f args w fun e w' => ∃ u φ', e = .returned u ∧ VRel φ' v u ∧ Rel N0 w0 φ' h' w' ∧ Post φ φ' h h' w w'

theorem callK_ok (H : T.Ok) {K : KnownF} (hK : Known T K) {call : CallF} (hcall : CallOk T call) : CallOk T (callK K call) := by
  intro N0 w0 φ h w f args v h' fv args' hg r hf has hc c0 cs0 w00 c cs hruns htodo hmode
  unfold callK at hc
  split at hc
  · rename_i g
    split at hc
    · rename_i r0 hk
      cases hc
      obtain ⟨hbo, hk2⟩ := hK h g args v h' hk
      cases hf with
      | func _ _ _ fi' ca' q1 q2 =>
        cases q1; cases q2
        have hs : (do let d ← Deferred.ofValue (.func (.func g) ⟨[]⟩ ⟨[]⟩) args'; invoke d.target d.args : Sem Next) = callFunc g args' := by
          have e1 : ((Array.mk [] ++ args') ++ Array.mk [] : Array Value) = args' := by apply Array.ext'; simp
          show callFunc g ((Array.mk [] ++ args') ++ Array.mk []) = _
          rw [e1]
        rw [hs] at hruns
        have hst := hruns.enter (callFunc_enter H hbo _ w) htodo
        obtain ⟨e, w', fr, ⟨u, φ', rfl, k2, k3, k4⟩, k5, k6, k7⟩ := hk2 N0 w0 φ w args' hg r has (c :: cs)
        exact ⟨φ', u, w', .head hst (Steps.trans k5 (.one (step_leave_returned k7))), k3, k4, k2⟩
    · exact hcall N0 w0 φ h w _ args v h' fv args' hg r hf has hc c0 cs0 w00 c cs hruns htodo hmode
  · exact hcall N0 w0 φ h w _ args v h' fv args' hg r hf has hc c0 cs0 w00 c cs hruns htodo hmode

variable {K : KnownF}

def runK (P : Tab) (K : KnownF) : Nat → RunF
  | 0 => fun _ _ _ _ _ => none
  | m + 1 => fun n rok c e h =>
    match c with
    | .skip => some (.normal, e, h)
    | .label _ => some (.normal, e, h)
    | .ret => some (.ret, e, h)
    | .exit id => some (.exit id, e, h)
    | .region _ ops draw => norm (regionX (callK K (callV P (runK P K m) 3)) ops.toList draw e h (xopers P n rok ops.toList))
    | .seq a b => thenA (runK P K m n rok b) (runK P K m n rok a e h)
    | .cond c a b => condR (runK P K m n rok) a b e h (xa P n c)
    | .block id b => blockA id (runK P K m n rok b e h)
    | .loop b => thenA (runK P K m n rok (.loop b)) (runK P K m n rok b e h)
    | .rangeFunc f ps assign body => rangeFuncA (callK K (callV P (runK P K m) 3)) n rok e h ps.toList assign body (xa P n f)
    | _ => none

theorem loopKOk_succ {m : Nat} (h1 : RunOk T (runK T K m)) (h2 : LoopOk T (runK T K m)) : LoopOk T (runK T K (m + 1)) := by
  intro n rok c e h ex e' h' hf N0 w0 φ a w s b cs k hc
  simp only [runK] at hf
  rcases thenA_some hf with ⟨e1, h1', k1, k2⟩ | ⟨k1, k2⟩
  · obtain ⟨φ1, a1, w1, s1, p1, st1⟩ := h1 _ _ _ _ _ _ _ _ k1 N0 w0 φ a w s b cs (.inLoop c :: k) hc
    obtain ⟨φ2, a2, w2, s2, p2, st2⟩ := h2 _ _ _ _ _ _ _ _ k2 N0 w0 φ1 a1 w1 s1 b cs k hc
    exact ⟨φ2, a2, w2, s2, p1.trans p2, st2.of_steps (Steps.trans st1 (.one st_inLoop))⟩
  · obtain ⟨φ1, a1, w1, s1, p1, st1⟩ := h1 _ _ _ _ _ _ _ _ k1 N0 w0 φ a w s b cs (.inLoop c :: k) hc
    exact ⟨φ1, a1, w1, s1, p1, st1.pop (fun _ => rfl) k2⟩

theorem runKOk_succ (H : T.Ok) (hd : DrawOk T) (hK : Known T K) {m : Nat} (h1 : RunOk T (runK T K m)) (h2 : LoopOk T (runK T K (m + 1))) : RunOk T (runK T K (m + 1)) := by
  have hcall := callK_ok H hK (callOk H h1 3)
  intro n rok c e h ex e' h' hf N0 w0 φ a w s b cs k hc
  cases c with
  | skip => simp only [runK, Option.some.injEq, Prod.mk.injEq] at hf; obtain ⟨rfl, rfl, rfl⟩ := hf; exact ⟨φ, a, w, s, Post.refl _ _ _, .one st_skip⟩
  | label l => simp only [runK, Option.some.injEq, Prod.mk.injEq] at hf; obtain ⟨rfl, rfl, rfl⟩ := hf; exact ⟨φ, a, w, s, Post.refl _ _ _, .one st_label⟩
  | ret => simp only [runK, Option.some.injEq, Prod.mk.injEq] at hf; obtain ⟨rfl, rfl, rfl⟩ := hf; exact ⟨φ, a, w, s, Post.refl _ _ _, fun hr => ⟨_, .one (st_ret hr)⟩⟩
  | exit id => simp only [runK, Option.some.injEq, Prod.mk.injEq] at hf; obtain ⟨rfl, rfl, rfl⟩ := hf; exact ⟨φ, a, w, s, Post.refl _ _ _, fun k' hk => .one (st_exit hk)⟩
  | region id ops draw =>
    simp only [runK] at hf
    have hf' := norm_some hf
    clear hf
    obtain ⟨rfl, hf⟩ := hf'
    unfold regionX at hf
    split at hf
    · cases hf
    · rename_i l hl
      cases draw with
      | true =>
        obtain ⟨φ', a', w', k1, k2, k3⟩ := hd _ hcall n rok ops l e h e' h' hl hf N0 w0 φ a w s b cs k id hc
        exact ⟨φ', a', w', k2, k3, k1⟩
      | false =>
        obtain ⟨φ', a', w', k1, k2, k3⟩ := ops_ok (k := k) H hcall hc hl ops.size 0 (by omega) (by simpa using hf) s
        refine ⟨φ', a', w', k2, k3, .head st_region ?_⟩
        rw [List.range_eq_range']; exact k1
  | seq x y =>
    simp only [runK] at hf
    rcases thenA_some hf with ⟨e1, h1', k1, k2⟩ | ⟨k1, k2⟩
    · obtain ⟨φ1, a1, w1, s1, p1, st1⟩ := h1 _ _ _ _ _ _ _ _ k1 N0 w0 φ a w s b cs (.code y :: k) hc
      obtain ⟨φ2, a2, w2, s2, p2, st2⟩ := h1 _ _ _ _ _ _ _ _ k2 N0 w0 φ1 a1 w1 s1 b cs k hc
      exact ⟨φ2, a2, w2, s2, p1.trans p2, st2.of_steps (.head st_seq st1)⟩
    · obtain ⟨φ1, a1, w1, s1, p1, st1⟩ := h1 _ _ _ _ _ _ _ _ k1 N0 w0 φ a w s b cs (.code y :: k) hc
      exact ⟨φ1, a1, w1, s1, p1, (st1.pop (fun _ => rfl) k2).of_steps (.one st_seq)⟩
  | cond c x y =>
    simp only [runK] at hf
    unfold condR at hf
    split at hf
    · rename_i xx hx
      have hr := xa_rel s.gl s.tmps hx
      split at hf
      · rename_i hb
        rw [hb] at hr
        generalize hv : a.eval c = v at hr
        cases hr
        obtain ⟨φ1, a1, w1, s1, p1, st1⟩ := h1 _ _ _ _ _ _ _ _ hf N0 w0 φ a w s b cs k hc
        have st0 := st_cond (P := T.P) (b := b) (k := k) (cs := cs) (w := w) (x := x) (y := y) hv
        exact ⟨φ1, a1, w1, s1, p1, st1.of_steps (.one st0)⟩
      · rename_i hb
        rw [hb] at hr
        generalize hv : a.eval c = v at hr
        cases hr
        obtain ⟨φ1, a1, w1, s1, p1, st1⟩ := h1 _ _ _ _ _ _ _ _ hf N0 w0 φ a w s b cs k hc
        have st0 := st_cond (P := T.P) (b := b) (k := k) (cs := cs) (w := w) (x := x) (y := y) hv
        exact ⟨φ1, a1, w1, s1, p1, st1.of_steps (.one st0)⟩
      · cases hf
    · cases hf
  | block id c =>
    simp only [runK] at hf
    rcases blockA_some hf with ⟨e1, h1', k1, k2⟩ | ⟨k1, k2⟩
    · cases k2
      obtain ⟨φ1, a1, w1, s1, p1, st1⟩ := h1 _ _ _ _ _ _ _ _ k1 N0 w0 φ a w s b cs (.inBlock id :: k) hc
      exact ⟨φ1, a1, w1, s1, p1, .head st_block (st1 k (by simp [exitTo]))⟩
    · obtain ⟨φ1, a1, w1, s1, p1, st1⟩ := h1 _ _ _ _ _ _ _ _ k1 N0 w0 φ a w s b cs (.inBlock id :: k) hc
      refine ⟨φ1, a1, w1, s1, p1, Arr.of_steps (.one st_block) ?_⟩
      cases ex with
      | normal => exact Steps.trans st1 (.one st_inBlock)
      | exit id' =>
        have hne : ¬ (id = id') := fun e => k2 (by rw [e])
        exact fun k' hk => st1 k' (by simp [exitTo, hne, hk])
      | ret => exact st1
  | loop c =>
    obtain ⟨φ1, a1, w1, s1, p1, st1⟩ := h2 _ _ _ _ _ _ _ _ hf N0 w0 φ a w s b cs k hc
    exact ⟨φ1, a1, w1, s1, p1, st1.of_steps (.one st_loop)⟩
  | rangeFunc f ps assign body =>
    simp only [runK] at hf
    exact rangeFunc_ok hcall s hc hf k
  | _ => simp only [runK] at hf; cases hf

theorem runK_ok (H : T.Ok) (hd : DrawOk T) (hK : Known T K) : ∀ m, RunOk T (runK T K m) ∧ LoopOk T (runK T K m)
  | 0 => ⟨(fun n rok c e h ex e' h' hf => by cases hf), (fun n rok c e h ex e' h' hf => by cases hf)⟩
  | m + 1 => by
    obtain ⟨h1, h2⟩ := runK_ok H hd hK m
    have h3 := loopKOk_succ h1 h2
    exact ⟨runKOk_succ H hd hK h1 h3, h3⟩


theorem runKOk (HT : T.Ok) (hK : Known T K) (m : Nat) : RunOk T (runK T K m) := (runK_ok HT (drawOk HT) hK m).1

theorem calls_known (HT : T.Ok) (hK : Known T K) {h' : AHp} {m d : Nat} {f : FuncId} {as : List AVal} {args : Array Value} {v : AVal} (hb : bodyIs (T.fn.get f) = true)
    (hcall : callV T (runK T K m) d h (.func (.func f) [] []) as = some (v, h')) (hg : Gl T φ) (r : Rel N0 w0 φ h w) (ha : VRels φ as args.toList) :
    Calls T.P f args w fun e w' => ∃ u φ', e = .returned u ∧ VRel φ' v u ∧ Rel N0 w0 φ' h' w' ∧ Post φ φ' h h' w w' := by
  intro cs
  obtain ⟨φ', u, w', fr, fn, k1, k2, k3, k4, k5, k6, k7, k8, k9, k10⟩ := bodyCall_ok HT (runKOk HT hK m) d N0 w0 φ h w f [] [] as v h' [] [] args.toList hg r .nil .nil ha hb hcall .normal cs (quiet_normal cs)
  have e1 : (⟨([] : List Value) ++ (args.toList ++ [])⟩ : Array Value) = args := by apply Array.ext'; simp
  rw [e1] at k2
  exact ⟨.returned u, w', fr, ⟨u, φ', rfl, k10, k8, k9⟩, k2, k6, k4, k5, k3, fn, by rw [k6]; exact k1, k7⟩

/-- A world that has but grown. -/
theorem Rel.grown (r : Rel N0 w0 φ h w) {w' : World} (hb : Below w.heap.size w w') : Rel N0 w0 φ h w' ∧ Post φ φ h h w w' := by
  have hbot := r.bottom
  refine ⟨r.world hb.size ⟨hb.os, hb.tape, hb.output, hb.size, fun k hk => hb.block k (by omega)⟩ (fun b x p _ hp _ => hb.block _ (r.lt b p hp)), ?_⟩
  exact ⟨Phi.le.refl φ, Nat.le_refl _, rfl, hb.size, fun B hB _ => hb.block B hB, fun _ _ e => .inl e, fun _ _ _ => rfl⟩

/-- Values without addresses, that stand for one value alone. -/
theorem Gl.bound (hg : Gl T φ) (r : Rel N0 w0 φ h w) : T.ng ≤ w.heap.size := by
  refine Nat.le_of_not_lt (fun hlt => ?_)
  obtain ⟨p, h1, h2, _⟩ := hg _ hlt
  have := r.lt _ _ h1
  omega

end Go.AE

/- Tables tied to the program, item by item. -/
namespace Go.AE
set_option autoImplicit false
open Go.RowKit Go.Lib

def Tr.items {α : Type} : Tr α → (Nat → Nat) → List (Nat × α)
  | .leaf, _ => []
  | .node (some x) l r, g => (g 0, x) :: (l.items (fun i => g (2 * i + 1)) ++ r.items (fun i => g (2 * i + 2)))
  | .node none l r, g => l.items (fun i => g (2 * i + 1)) ++ r.items (fun i => g (2 * i + 2))

theorem Tr.items_mem {α : Type} : ∀ (t : Tr α) (g : Nat → Nat) (i : Nat) (x : α), t.get i = some x → (g i, x) ∈ t.items g
  | .leaf, g, i, x, h => by cases h
  | .node v l r, g, i, x, h => by
    simp only [Tr.get] at h
    cases h0 : Nat.beq i 0 with
    | true =>
      rw [h0] at h
      have := Nat.eq_of_beq_eq_true h0; subst this
      simp only [cond_true] at h; subst h
      simp [Tr.items]
    | false =>
      rw [h0] at h
      have hi : i ≠ 0 := fun e => by subst e; cases h0
      have e2 : Nat.div i 2 = i / 2 := rfl
      have em : Nat.mod i 2 = i % 2 := rfl
      cases h1 : Nat.beq (Nat.mod i 2) 1 with
      | true =>
        rw [h1] at h
        simp only [cond_true, cond_false] at h
        have hm : i % 2 = 1 := Nat.eq_of_beq_eq_true h1
        have := Tr.items_mem l (fun j => g (2 * j + 1)) (Nat.div i 2) x h
        simp only [e2] at this
        rw [show 2 * (i / 2) + 1 = i by omega] at this
        cases v <;> simp [Tr.items, this]
      | false =>
        rw [h1] at h
        simp only [cond_false] at h
        have hm : i % 2 ≠ 1 := fun e => by rw [em, e] at h1; cases h1
        have := Tr.items_mem r (fun j => g (2 * j + 2)) (Nat.sub (Nat.div i 2) 1) x h
        have e3 : Nat.sub (Nat.div i 2) 1 = i / 2 - 1 := rfl
        simp only [e3] at this
        rw [show 2 * (i / 2 - 1) + 2 = i by omega] at this
        cases v <;> simp [Tr.items, this]

theorem items_eq {α β : Type} {t : Tr α} {f : Nat → Option β} {g : α → β} (h : (t.items id).map (fun p => f p.1) = (t.items id).map (fun p => some (g p.2))) {i : Nat} {x : α} (hx : t.get i = some x) : f i = some (g x) := by
  have hm := Tr.items_mem t id i x hx
  have := List.map_inj_left.1 h (i, x) hm
  exact this

theorem items_all {α : Type} {t : Tr α} {p : Nat → α → Bool} (h : (t.items id).all (fun q => p q.1 q.2) = true) {i : Nat} {x : α} (hx : t.get i = some x) : p i x = true := by
  have hm := Tr.items_mem t id i x hx
  exact List.all_eq_true.1 h (i, x) hm

/-- Numbers that a mask names. -/
theorem mask_all {m k : Nat} {p : Nat → Bool} (hm0 : Nat.blt m (Nat.shiftLeft 1 k) = true) (h : ((List.range k).all fun t => cond (hasBit m t) (p t) true) = true) {t : Nat} (ht : hasBit m t = true) : p t = true := by
  have hm : m < 2 ^ k := by
    have h1 : m < 1 <<< k := Nat.le_of_ble_eq_true hm0
    rwa [Nat.one_shiftLeft] at h1
  have hlt : t < k := by
    refine Nat.lt_of_not_le (fun hle => ?_)
    rw [hasBit_eq] at ht
    have := Nat.testBit_lt_two_pow (Nat.lt_of_lt_of_le hm (Nat.pow_le_pow_right (by omega) hle))
    rw [this] at ht; cases ht
  have := List.all_eq_true.1 h t (List.mem_range.2 hlt)
  rw [ht] at this
  exact this

theorem beqBytes_of : ∀ (a b : List UInt8), beqBytes a b = true → a = b
  | [], [], _ => rfl
  | [], _ :: _, h => by simp [beqBytes] at h
  | _ :: _, [], h => by simp [beqBytes] at h
  | a :: x, b :: y, h => by
    simp only [beqBytes] at h
    obtain ⟨h1, h2⟩ := cond_and h
    rw [beqBytes_of x y h2, UInt8.toNat_inj.1 (Nat.eq_of_beq_eq_true h1)]

/-- The result is this string. -/
def isStr (s : List UInt8) : HV → Bool
  | some (.str r, _) => beqBytes r s
  | _ => false
theorem isStr_of {s : List UInt8} {o : HV} (h : isStr s o = true) : ∃ h', o = some (.str s, h') := by
  unfold isStr at h
  split at h
  · rename_i r h'
    rw [beqBytes_of _ _ h]; exact ⟨h', rfl⟩
  · cases h
/-- The result is this truth. -/
def isBool (b : Bool) : HV → Bool
  | some (.bool r, _) => eqBool r b
  | _ => false
theorem isBool_of {b : Bool} {o : HV} (h : isBool b o = true) : ∃ h', o = some (.bool b, h') := by
  unfold isBool at h
  split at h
  · rename_i r h'
    rw [eqBool_eq h]; exact ⟨h', rfl⟩
  · cases h

end Go.AE
