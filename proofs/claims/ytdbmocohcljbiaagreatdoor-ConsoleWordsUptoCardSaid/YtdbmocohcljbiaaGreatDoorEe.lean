/- The evaluator's regions in the text's order, calls, deferred calls, rounds and code lead where the model's steps lead, given the regions that draw their order. -/
import Derived.Test.YtdbmocohcljbiaaGreatDoorEd
import Derived.Laws.Externs
import Derived.KernelRfl
import Derived.Defers
import Derived.Lib.Bytealg
import Derived.Lib.MakeNoZero
/- Steps of a frame, whatever call it is of. -/
namespace Go.AE
set_option autoImplicit false
open Go.RowKit Go.Lib

/-- A running frame: 'b' says which function, which kind of call, which round. -/
def on (b : Frame) (a : Act) (todo : List Item) : Frame := { b with tmps := a.tmps, todo, defers := a.defers, mode := .run }

theorem on_eval (b : Frame) (a : Act) (todo : List Item) : (on b a todo).eval = a.eval := funext fun x => by cases x <;> rfl

section
variable {P : Program} {b : Frame} {a : Act} {k : List Item} {cs : List Frame} {w : World}

theorem st_skip : step P (lone (on b a (.code .skip :: k)) cs w) = .next (lone (on b a k) cs w) := step_lone_go (by simp [stepG, stepG.exec, on])
theorem st_label {l : Nat} : step P (lone (on b a (.code (.label l) :: k)) cs w) = .next (lone (on b a k) cs w) := step_lone_go (by simp [stepG, stepG.exec, on])
theorem st_inBlock {id : Nat} : step P (lone (on b a (.inBlock id :: k)) cs w) = .next (lone (on b a k) cs w) := step_lone_go (by simp [stepG, stepG.exec, on])
theorem st_seq {x y : Code} : step P (lone (on b a (.code (.seq x y) :: k)) cs w) = .next (lone (on b a (.code x :: .code y :: k)) cs w) := step_lone_go (by simp [stepG, stepG.exec, on])
theorem st_cond {c : Operand} {x y : Code} {t : Bool} (h : a.eval c = .bool t) : step P (lone (on b a (.code (.cond c x y) :: k)) cs w) = .next (lone (on b a (.code (if t then x else y) :: k)) cs w) :=
  step_lone_go (by
    have := congrFun (on_eval b a (.code (.cond c x y) :: k)) c
    simp only [on] at this
    simp [stepG, stepG.exec, on, this, h])
theorem st_block {id : Nat} {c : Code} : step P (lone (on b a (.code (.block id c) :: k)) cs w) = .next (lone (on b a (.code c :: .inBlock id :: k)) cs w) := step_lone_go (by simp [stepG, stepG.exec, on])
theorem st_loop {c : Code} : step P (lone (on b a (.code (.loop c) :: k)) cs w) = .next (lone (on b a (.code c :: .inLoop c :: k)) cs w) := step_lone_go (by simp [stepG, stepG.exec, on])
theorem st_inLoop {c : Code} : step P (lone (on b a (.inLoop c :: k)) cs w) = .next (lone (on b a (.code c :: .inLoop c :: k)) cs w) := step_lone_go (by simp [stepG, stepG.exec, on])
theorem st_exit {id : Nat} {k' : List Item} (h : exitTo id k = some k') : step P (lone (on b a (.code (.exit id) :: k)) cs w) = .next (lone (on b a k') cs w) := step_lone_go (by simp [stepG, stepG.exec, on, h])
theorem st_ret (h : b.roundOf = none) : step P (lone (on b a (.code .ret :: k)) cs w) = .next (lone { on b a (.code .ret :: k) with mode := .returning } cs w) := step_lone_go (by simp [stepG, stepG.exec, on, h])
theorem st_end (h : b.roundOf = none) : step P (lone (on b a []) cs w) = .next (lone { on b a [] with mode := .returning } cs w) := step_lone_go (by simp [stepG, stepG.exec, on, h])
theorem st_region {id : Nat} {ops : Array Oper} : step P (lone (on b a (.code (.region id ops false) :: k)) cs w) = .next (lone (on b a (.inRegion ops (List.range ops.size) :: k)) cs w) :=
  step_lone_go (by simp [stepG, stepG.exec, on])
theorem st_region_draw {id : Nat} {ops : Array Oper} : step P (lone (on b a (.code (.region id ops true) :: k)) cs w) =
      .next (lone (on b a (.inRegion ops (Region.schedule (P.follows .mixedOrders) ops (w.tape w.drawn (.order b.fn id))) :: k)) cs { w with drawn := w.drawn + 1 }) :=
  step_lone_go (by simp [stepG, stepG.exec, on, choose, Sem.run, Question.forced, Question.cut])
theorem st_region_end {ops : Array Oper} : step P (lone (on b a (.inRegion ops [] :: k)) cs w) = .next (lone (on b a k) cs w) := step_lone_go (by simp [stepG, stepG.exec, on])

theorem on_finish (ops : Array Oper) (i : Nat) (rest : List Nat) (v : Value) : (on b a (.inRegion ops (i :: rest) :: k)).finish v = on b (a.put ((ops[i]?).bind (·.dst)) v) (.inRegion ops rest :: k) := by
  cases h : (ops[i]?).bind (·.dst) <;> simp [Frame.finish, on, Act.put, h]

theorem st_op_skip {ops : Array Oper} {i : Nat} {rest : List Nat} (h : ((ops[i]?).map (Region.wanted · (yielded ops a.tmps))).getD false = false) :
    step P (lone (on b a (.inRegion ops (i :: rest) :: k)) cs w) = .next (lone (on b (a.put ((ops[i]?).bind (·.dst)) undef) (.inRegion ops rest :: k)) cs w) := by
  rw [← on_finish]
  exact step_lone_go (by
    have h' := h
    simp only [on] at *
    simp [stepG, stepG.exec, h'])

theorem stepG_op' {ops : Array Oper} {i : Nat} {rest : List Nat} {o : Oper} (ho : ops[i]? = some o) (hw : Region.wanted o (yielded ops a.tmps) = true) (hd : b.roundOf = none ∨ ∀ c, o.op ≠ .defer c) :
    stepG P true { frame := on b a (.inRegion ops (i :: rest) :: k), callers := cs, status := .running, dying := none } w =
      stepG.apply P true (on b a (.inRegion ops (i :: rest) :: k)) cs none (execOp a.eval o) w := by
  have he := on_eval b a (.inRegion ops (i :: rest) :: k)
  simp only [on] at he
  simp only [stepG, stepG.exec, stepG.oper, Frame.oper?, on, ho, hw, he, Option.map_some, Option.getD_some, if_true]
  split
  · rename_i l c h1 h2
    rcases hd with hd | hd
    · rw [hd] at h1; cases h1
    · exact absurd h2 (hd c)
  · rfl

/-- The frame's step is the run of 's'. -/
def Runs (P : Program) (c0 : Frame) (cs0 : List Frame) (w0 : World) (c : Frame) (cs : List Frame) (s : Sem Next) (w : World) : Prop :=
  (stepG P true { frame := c0, callers := cs0, status := .running, dying := none } w0).bare = (stepG.apply P true c cs none s w).bare

theorem Runs.value {c0 c : Frame} {cs0 cs : List Frame} {w0 : World} {s : Sem Next} (h : Runs P c0 cs0 w0 c cs s w) {v : Value} {w' : World} (hr : s.run P w = .ok (.value v) w') : step P (lone c0 cs0 w0) = .next (lone (c.finish v) cs w') :=
  step_lone_go (by rw [h]; simp [stepG.apply, hr])
theorem Runs.skip {c0 c : Frame} {cs0 cs : List Frame} {w0 : World} {s : Sem Next} (h : Runs P c0 cs0 w0 c cs s w) {w' : World} (hr : s.run P w = .ok .skip w') : step P (lone c0 cs0 w0) = .next (lone (c.finish undef) cs w') :=
  step_lone_go (by rw [h]; simp [stepG.apply, hr])
theorem Runs.defer {c0 c : Frame} {cs0 cs : List Frame} {w0 : World} {s : Sem Next} (h : Runs P c0 cs0 w0 c cs s w) {d : Deferred} {w' : World} (hr : s.run P w = .ok (.defer d) w') : step P (lone c0 cs0 w0) = .next (lone ({ c with defers := d :: c.defers }.finish undef) cs w') :=
  step_lone_go (by rw [h]; simp [stepG.apply, hr])
theorem Runs.enter {c0 c : Frame} {cs0 cs : List Frame} {w0 : World} {s : Sem Next} (h : Runs P c0 cs0 w0 c cs s w) {f : FuncId} {args : Array Value} {w' : World} (hr : s.run P w = .ok (.enter f args) w')
    (hk : ∀ d r v t, c.todo ≠ .call d true r v :: t) : step P (lone c0 cs0 w0) = .next (lone (Frame.enter P f args .normal) (c :: cs) w') :=
  step_lone_go (by
    rw [h]
    simp only [stepG.apply, Sem.runT_eq, hr, if_true]
    simp
    try (split
         · rename_i d r v t hh; exact absurd hh (hk d r v t)
         · rfl))
theorem Runs.round {c0 c : Frame} {cs0 cs : List Frame} {w0 : World} {s : Sem Next} (h : Runs P c0 cs0 w0 c cs s w) {l : Nat} {f : FuncId} {tmps : Array Value} {x y : Code} {w' : World} (hr : s.run P w = .ok (.round l f tmps x y) w') :
    step P (lone c0 cs0 w0) = .next (lone (Frame.round l f tmps x y .normal) (c :: cs) w') :=
  step_lone_go (by rw [h]; simp [stepG.apply, hr])
theorem Runs.recover {c0 c : Frame} {cs0 cs : List Frame} {w0 : World} {s : Sem Next} (h : Runs P c0 cs0 w0 c cs s w) {w' : World} (hr : s.run P w = .ok .recover w') (h1 : c.roundOf = none) (h2 : tryRecover c cs = none) :
    step P (lone c0 cs0 w0) = .next (lone (c.finish .nilIface) cs w') :=
  step_lone_go (by rw [h]; simp [stepG.apply, hr, h1, h2])
end

end Go.AE

/- One operation's step. -/
namespace Go.AE
set_option autoImplicit false
open Go.RowKit Go.Lib
variable {T : Tab} {φ : Phi} {N0 : Nat} {w0 : World} {h : AHp} {w : World}

/-- The deferred calls. -/
inductive DRel (φ : Phi) : List (AVal × List AVal) → List Deferred → Prop
  | nil : DRel φ [] []
  | call (f : FuncId) (fi ca args : List AVal) (fi' ca' args' : List Value) (ds : List (AVal × List AVal)) (ds' : List Deferred) : VRels φ fi fi' → VRels φ ca ca' → VRels φ args args' → DRel φ ds ds' →
      DRel φ ((.func (.func f) fi ca, args) :: ds) ({ target := .fn (.func f) ⟨ca'⟩, args := ⟨fi' ++ args'⟩ } :: ds')
  | mark (r : Nat) (p : PInfo) (ds : List (AVal × List AVal)) (ds' : List Deferred) : φ r = some p → DRel φ ds ds' → DRel φ ((.ptr (some (r, 0)), []) :: ds) ({ target := .collected p.blk, args := #[] } :: ds')

theorem DRel.mono {φ ψ : Phi} (hl : Phi.le φ ψ) {ds : List (AVal × List AVal)} {ds' : List Deferred} (h : DRel φ ds ds') : DRel ψ ds ds' := by
  induction h with
  | nil => exact .nil
  | call f fi ca args fi' ca' args' ds ds' h1 h2 h3 _ ih => exact .call _ _ _ _ _ _ _ _ _ (h1.mono hl) (h2.mono hl) (h3.mono hl) ih
  | mark r p ds ds' h1 _ ih => exact .mark _ _ _ _ (hl _ _ h1) ih

structure SRel (T : Tab) (N0 : Nat) (w0 : World) (φ : Phi) (n : Nat) (e : AEnv) (h : AHp) (a : Act) (w : World) : Prop where
  rel : Rel N0 w0 φ h w
  tmps : TRel φ e.tmps n a.tmps
  ds : DRel φ e.defers a.defers
  gl : Gl T φ

theorem TRel.set {n : Nat} {t : Tr AVal} {tmps : Array Value} (ht : TRel φ t n tmps) {d : Nat} (hd : d < n) {v : AVal} {u : Value} (hv : VRel φ v u) : TRel φ (Tr.setP (path fuelT d) t v) n (tmps.setIfInBounds d u) := by
  obtain ⟨h1, h2, h3⟩ := ht
  have lim : ∀ i, i < n → i + 1 < 2 ^ fuelT := fun i hi => by unfold maxT at h1; unfold fuelT; omega
  refine ⟨h1, by simp [h2], fun i hi => ?_⟩
  by_cases hid : i = d
  · subst hid
    rw [Tr.getP_setP_same]
    simp only [orUndef, Array.getD_eq_getD_getElem?]
    rw [Array.getElem?_setIfInBounds_self_of_lt (by omega)]
    exact hv
  · rw [Tr.getP_setP_ne _ _ _ _ (fun hp => hid (path_inj fuelT d i (lim d hd) (lim i hi) hp).symm)]
    have := h3 i hi
    simp only [Array.getD_eq_getD_getElem?] at this ⊢
    rw [Array.getElem?_setIfInBounds_ne (fun e => hid e.symm)]
    exact this

theorem xdst_some {n : Nat} {d : Option Tmp} {p : Option (List Bool)} (h : xdst n d = some p) : (d = none ∧ p = none) ∨ ∃ t, d = some t ∧ t < n ∧ p = some (path fuelT t) := by
  unfold xdst at h
  split at h
  · cases h; exact .inl ⟨rfl, rfl⟩
  · rename_i t
    replace h := cond_some h; obtain ⟨h1, h⟩ := h
    cases h
    exact .inr ⟨t, rfl, blt_true h1, rfl⟩

theorem TRel.put {n : Nat} {e : AEnv} {a : Act} (ht : TRel φ e.tmps n a.tmps) {d : Option Tmp} {p : Option (List Bool)} (hd : xdst n d = some p) {v : AVal} {u : Value} (hv : VRel φ v u) : TRel φ (e.put p v).tmps n (a.put d u).tmps := by
  rcases xdst_some hd with ⟨rfl, rfl⟩ | ⟨t, rfl, h1, rfl⟩
  · exact ht
  · obtain ⟨tm, ds⟩ := e
    exact ht.set h1 hv

theorem put_defers (a : Act) (d : Option Tmp) (u : Value) : (a.put d u).defers = a.defers := by cases d <;> rfl
theorem aput_defers (e : AEnv) (p : Option (List Bool)) (v : AVal) : (e.put p v).defers = e.defers := by cases p <;> cases e <;> rfl

/-- Where the frame stands: recover and defer may stand there. -/
def Ctx (b : Frame) (cs : List Frame) (rok : Bool) : Prop := rok = true → b.roundOf = none ∧ ∀ fr : Frame, fr.kind = b.kind → tryRecover fr cs = none

/-- What a call must show, of a frame whose step makes it. -/
def CallOk (T : Tab) (call : CallF) : Prop :=
  ∀ (N0 : Nat) (w0 : World) (φ : Phi) (h : AHp) (w : World) (f : AVal) (args : List AVal) (v : AVal) (h' : AHp) (fv : Value) (args' : Array Value), Gl T φ → Rel N0 w0 φ h w → VRel φ f fv → VRels φ args args'.toList → call h f args = some (v, h') →
    ∀ (c0 : Frame) (cs0 : List Frame) (w00 : World) (c : Frame) (cs : List Frame), Runs T.P c0 cs0 w00 c cs (do let d ← Deferred.ofValue fv args'; invoke d.target d.args) w → (∀ d r v t, c.todo ≠ .call d true r v :: t) → c.mode = .run →
      ∃ φ' u w', Steps T.P (lone c0 cs0 w00) (lone (c.finish u) cs w') ∧ Rel N0 w0 φ' h' w' ∧ Post φ φ' h h' w w' ∧ VRel φ' v u

theorem rv_some {e : AEnv} {d : Option (List Bool)} {h : AHp} {o : Option AVal} {e' : AEnv} {h' : AHp} (hh : rv e d h o = some (e', h')) : ∃ v, o = some v ∧ e' = e.put d v ∧ h' = h := by
  cases o with
  | none => cases hh
  | some v => cases hh; exact ⟨v, rfl, rfl, rfl⟩
theorem ru_some {e : AEnv} {d : Option (List Bool)} {o : HV} {e' : AEnv} {h' : AHp} (hh : ru e d o = some (e', h')) : ∃ v, o = some (v, h') ∧ e' = e.put d v := by
  cases o with
  | none => cases hh
  | some p => obtain ⟨v, h2⟩ := p; cases hh; exact ⟨v, rfl, rfl⟩
theorem rs_some {e : AEnv} {d : Option (List Bool)} {o : Option AHp} {e' : AEnv} {h' : AHp} (hh : rs e d o = some (e', h')) : o = some h' ∧ e' = e.put d undefA := by
  cases o with
  | none => cases hh
  | some h2 => cases hh; exact ⟨rfl, rfl⟩

theorem undef_rel (φ : Phi) : VRel φ undefA undef := .tuple _ _ .nil

section
variable {e : AEnv} {n : Nat} {b : Frame} {a : Act} {k : List Item} {cs : List Frame} {ops : Array Oper} {i : Nat} {rest : List Nat} {o : Oper}

/-- What an operation's step must show. -/
def StepOk (T : Tab) (N0 : Nat) (w0 : World) (φ : Phi) (e : AEnv) (h : AHp) (e' : AEnv) (h' : AHp) (d : Option (List Bool)) (dst : Option Tmp) (a : Act) (w : World) (m : Machine) (m' : Act → World → Machine) : Prop :=
  ∃ φ' w' u v eds ds, Steps T.P m (m' ({ a with defers := ds }.put dst u) w') ∧ Rel N0 w0 φ' h' w' ∧ Post φ φ' h h' w w' ∧ VRel φ' v u ∧ e' = (AEnv.mk e.tmps eds).put d v ∧ DRel φ' eds ds

theorem opX_step {call : CallF} (hcall : CallOk T call) {xo : XOp} {d : Option (List Bool)} {e' : AEnv} {h' : AHp} (hf : opX call e h d xo = some (e', h')) (ho : ops[i]? = some o) (hw : Region.wanted o (yielded ops a.tmps) = true)
    (spec : XSpec T φ w e (execOp a.eval o) xo) (hrok : b.roundOf = none ∨ ∀ c, o.op ≠ .defer c) (hrec : xo = .rc → b.roundOf = none ∧ ∀ fr : Frame, fr.kind = b.kind → tryRecover fr cs = none)
    (hg : Gl T φ) (r : Rel N0 w0 φ h w) (hds : DRel φ e.defers a.defers) :
    StepOk T N0 w0 φ e h e' h' d o.dst a w (lone (on b a (.inRegion ops (i :: rest) :: k)) cs w) (fun a' w' => lone (on b a' (.inRegion ops rest :: k)) cs w') := by
  have hstep : Runs T.P (on b a (.inRegion ops (i :: rest) :: k)) cs w (on b a (.inRegion ops (i :: rest) :: k)) cs (execOp a.eval o) w := by
    unfold Runs; rw [stepG_op' ho hw hrok]
  have hfin : ∀ u, (on b a (.inRegion ops (i :: rest) :: k)).finish u = on b (a.put o.dst u) (.inRegion ops rest :: k) := fun u => by rw [on_finish, ho]; rfl
  have val : ∀ {x : AVal}, ValOk T.P φ w (execOp a.eval o) x → e' = e.put d x → h' = h → StepOk T N0 w0 φ e h e' h' d o.dst a w (lone (on b a (.inRegion ops (i :: rest) :: k)) cs w) (fun a' w' => lone (on b a' (.inRegion ops rest :: k)) cs w') := by
    rintro x ⟨u, h1, h2⟩ rfl rfl
    refine ⟨φ, w, u, x, e.defers, a.defers, .one ?_, r, Post.refl _ _ _, h2, rfl, hds⟩
    have := hstep.value h1
    rw [hfin] at this; exact this
  cases xo with
  | p1 f x => obtain ⟨v, h1, h2, h3⟩ := rv_some hf; exact val (spec v h1) h2 h3
  | p2 f x y => obtain ⟨v, h1, h2, h3⟩ := rv_some hf; exact val (spec v h1) h2 h3
  | pn f xs => obtain ⟨v, h1, h2, h3⟩ := rv_some hf; exact val (spec v h1) h2 h3
  | r1 f x => obtain ⟨v, h1, h2, h3⟩ := rv_some hf; exact val (spec N0 w0 h v r h1) h2 h3
  | r2 f x y => obtain ⟨v, h1, h2, h3⟩ := rv_some hf; exact val (spec N0 w0 h v r h1) h2 h3
  | al f xs =>
    obtain ⟨v, h1, rfl⟩ := ru_some hf
    unfold alO at h1
    split at h1
    · cases h1
    · rename_i x kk hx
      obtain ⟨s', hs, ha⟩ := spec x kk hx
      obtain ⟨φ', u, w', g1, g2, g3, g4⟩ := alloc_rel r ha h1
      refine ⟨φ', w', u, v, e.defers, a.defers, .one ?_, g2, g3, g4, rfl, hds.mono g3.le⟩
      have := hstep.value (v := u) (w' := w') (by rw [hs]; simp [g1])
      rw [hfin] at this; exact this
  | ef f xs =>
    obtain ⟨v, h1, rfl⟩ := ru_some hf
    obtain ⟨φ', u, w', g1, g2, g3, g4⟩ := spec N0 w0 h h' v r h1
    refine ⟨φ', w', u, v, e.defers, a.defers, .one ?_, g2, g3, g4, rfl, hds.mono g3.le⟩
    have := hstep.value g1
    rw [hfin] at this; exact this
  | st f x y =>
    obtain ⟨h1, rfl⟩ := rs_some hf
    obtain ⟨w', g1, g2, g3⟩ := spec N0 w0 h h' r h1
    refine ⟨φ, w', undef, undefA, e.defers, a.defers, .one ?_, g2, g3, undef_rel φ, rfl, hds⟩
    have := hstep.skip g1
    rw [hfin] at this; exact this
  | sk f xs =>
    obtain ⟨h1, rfl⟩ := rs_some hf
    obtain ⟨w', g1, g2, g3⟩ := spec N0 w0 h h' r h1
    refine ⟨φ, w', undef, undefA, e.defers, a.defers, .one ?_, g2, g3, undef_rel φ, rfl, hds⟩
    have := hstep.skip g1
    rw [hfin] at this; exact this
  | cl f xs =>
    obtain ⟨v, h1, rfl⟩ := ru_some hf
    obtain ⟨fv, args, g1, g2, g3⟩ := spec
    rw [g1] at hstep
    obtain ⟨φ', u, w', k1, k2, k3, k4⟩ := hcall N0 w0 φ h w _ _ v h' fv args hg r g2 g3 h1 _ _ _ _ _ hstep (by simp [on]) rfl
    refine ⟨φ', w', u, v, e.defers, a.defers, ?_, k2, k3, k4, rfl, hds.mono k3.le⟩
    rw [hfin] at k1; exact k1
  | df f xs =>
    simp only [opX] at hf
    replace hf := cond_some hf; obtain ⟨hfn, hf⟩ := hf
    obtain ⟨h1, rfl⟩ := rs_some hf
    cases h1
    obtain ⟨fv, args, g1, g2, g3⟩ := spec
    generalize f.eval e = fe at hfn g2 hf
    unfold isFn at hfn
    split at hfn
    · rename_i f fi ca
      cases g2 with
      | func _ _ _ fi' ca' q1 q2 =>
        refine ⟨φ, w, undef, undefA, _, { target := .fn (.func f) ⟨ca'⟩, args := ⟨fi' ++ args.toList⟩ } :: a.defers, .one ?_, r, Post.refl _ _ _, undef_rel φ, rfl, .call f fi ca (evalAs e xs) fi' ca' args.toList e.defers a.defers q1 q2 g3 hds⟩
        have e1 : (Array.mk fi' ++ args : Array Value) = ⟨fi' ++ args.toList⟩ := by apply Array.ext'; simp
        have := hstep.defer (d := { target := .fn (.func f) ⟨ca'⟩, args := ⟨fi' ++ args.toList⟩ }) (w' := w) (by rw [g1]; simp [Deferred.ofValue, e1])
        rw [this]
        congr 2
        have h2 := on_finish (b := b) (a := { a with defers := { target := .fn (.func f) ⟨ca'⟩, args := ⟨fi' ++ args.toList⟩ } :: a.defers }) (k := k) ops i rest undef
        rw [ho] at h2
        exact h2
    · cases hfn
  | rc =>
    have hf' : rv e d h (some .nilIface) = some (e', h') := hf
    obtain ⟨v, h1, rfl, rfl⟩ := rv_some hf'
    cases h1
    obtain ⟨q1, q2⟩ := hrec rfl
    refine ⟨φ, w, .nilIface, .nilIface, e.defers, a.defers, .one ?_, r, Post.refl _ _ _, .nilIface, rfl, hds⟩
    have := hstep.recover spec q1 (q2 _ rfl)
    rw [hfin] at this; exact this
end

end Go.AE

/- A region in the order of the text. -/
namespace Go.AE
set_option autoImplicit false
open Go.RowKit Go.Lib
variable {T : Tab} {φ : Phi} {N0 : Nat} {w0 : World} {h : AHp} {w : World}

theorem wantedT_ok {a : AVal} {v : Value} (ha : VRel φ a v) {want c : Bool} (hw : wantedT want a = some c) : ((match some v with | some (.bool b) => some b | _ => none) == some want) = c := by
  unfold wantedT at hw
  split at hw
  · cases ha
    cases hw
    rename_i b
    cases b <;> cases want <;> rfl
  · cases ha; cases hw; cases want <;> rfl
  · cases hw

theorem wanted_ok {e : AEnv} {n : Nat} {a : Act} {ops : Array Oper} {o : Oper} {g : Option (List Bool × Bool)} (hg : xguard n ops.toList o.guard = some g) {c : Bool} (hw : wantedA e g = some c) (hs : a.tmps.size = n)
    (ht : ∀ j want d, o.guard = some (j, want) → (ops[j]?).bind (·.dst) = some d → VRel φ (e.get (path fuelT d)) (a.tmps.getD d undef)) : Region.wanted o (yielded ops a.tmps) = c := by
  unfold Region.wanted
  cases hgu : o.guard with
  | none =>
    rw [hgu] at hg
    cases hg; cases hw; rfl
  | some p =>
    obtain ⟨j, want⟩ := p
    rw [hgu] at hg
    simp only [xguard, nth_eq] at hg
    cases hj : ops.toList[j]? with
    | none => rw [hj] at hg; cases hg
    | some oj =>
      rw [hj] at hg
      simp only [xguardO] at hg
      cases hd : oj.dst with
      | none => rw [hd] at hg; cases hg
      | some d =>
        rw [hd] at hg
        replace hg := cond_some hg; obtain ⟨h1, hg⟩ := hg
        cases hg
        have h1 := blt_true h1
        have hj' : ops[j]? = some oj := by rw [← Array.getElem?_toList]; exact hj
        have hr := ht j want d hgu (by simp [hj', hd])
        have hget : a.tmps[d]? = some (a.tmps.getD d undef) := by
          simp [Array.getD_eq_getD_getElem?]
          rw [Array.getElem?_eq_getElem (by omega)]; simp
        simp only [yielded, hj', Option.bind_some, hd, hget]
        exact wantedT_ok hr hw

theorem xoper_some {n : Nat} {rok : Bool} {ops : List Oper} {o : Oper} {x : XOper} (h : xoper T n rok ops o = some x) : xop T n rok o.op = some x.op ∧ xdst n o.dst = some x.dst ∧ xguard n ops o.guard = some x.guard := by
  unfold xoper at h
  split at h
  · cases h
  · rename_i op h1
    split at h
    · cases h
    · rename_i d h2
      split at h
      · cases h
      · rename_i g h3
        cases h
        exact ⟨h1, h2, h3⟩

/-- A round has neither defer nor recover. -/
theorem rok_defer {n : Nat} {rok : Bool} {op : Op} {xo : XOp} (h : xop T n rok op = some xo) (hr : rok = false) : (∀ c, op ≠ .defer c) ∧ xo ≠ .rc := by
  subst hr
  constructor
  · intro c hc
    subst hc
    simp only [xop, xdefer] at h
    split at h <;> cases h
  · rintro rfl
    have noX1 : ∀ {F x}, x1 T n F x ≠ some .rc := fun hh => by obtain ⟨f, xx, _, _, e⟩ := x1_some hh; cases e
    have noX2 : ∀ {F x y}, x2 T n F x y ≠ some .rc := fun hh => by obtain ⟨f, xx, yy, _, _, _, e⟩ := x2_some hh; cases e
    have noMap : ∀ {f : XA → XOp} {o}, (∀ x, f x ≠ .rc) → Option.map f o ≠ some .rc := fun hf hh => by obtain ⟨x, _, e⟩ := map_some hh; exact hf x e.symm
    have noXs : ∀ {k l}, (∀ x, k x ≠ .rc) → xs T n k l ≠ some .rc := fun hf hh => by obtain ⟨x, _, e⟩ := xs_some hh; exact hf x e.symm
    have noMk : ∀ {k : XA → XA → XOp} {a b}, (∀ x y, k x y ≠ .rc) → mk2 k a b ≠ some .rc := fun hf hh => by obtain ⟨x, y, _, _, e⟩ := mk2_some hh; exact hf x y e.symm
    unfold xop at h
    split at h
    all_goals first
      | (exact absurd h (noMap (by intros; simp)))
      | (exact absurd h noX1)
      | (exact absurd h noX2)
      | (exact absurd h (noXs (by intros; simp)))
      | (cases h; done)
      | skip
    all_goals (simp only [xalloc, xbuild, xbuildSlice, xload, xstore, xconvert, xiface, xmakeFunc, xmakeSlice, xslice, xlookup, xupdate, xassert, xcall, xdefer, xconvInt, xcl, xbuiltin, xlen, xcap, xappend, xcopy, xdata, xunsafeStr] at h)
    all_goals (repeat' (first
      | (exact absurd h (noMap (by intros; simp)))
      | (exact absurd h noX1)
      | (exact absurd h noX2)
      | (exact absurd h (noXs (by intros; simp)))
      | (exact absurd h (noMk (by intros; simp)))
      | (cases h; done)
      | (replace h := (cond_some h).2)
      | (replace h := (cond_none h).2)
      | (split at h)
      | (rw [Bool.cond_eq_ite] at h)))

section
variable {e : AEnv} {n : Nat} {b : Frame} {a : Act} {k : List Item} {cs : List Frame} {ops : Array Oper} {i : Nat} {rest : List Nat} {o : Oper} {rok : Bool}

theorem SRel.opsRel (s : SRel T N0 w0 φ n e h a w) (l : List Operand) : OpsRel T φ n e a.eval l := fun _ _ _ hx => xa_rel s.gl s.tmps hx

theorem SRel.guard (s : SRel T N0 w0 φ n e h a w) {g : Option (List Bool × Bool)} (hg : xguard n ops.toList o.guard = some g) {c : Bool} (hw : wantedA e g = some c) : Region.wanted o (yielded ops a.tmps) = c := by
  refine wanted_ok (φ := φ) hg hw s.tmps.2.1 (fun j want d h1 h2 => ?_)
  have hd : d < n := by
    rw [h1] at hg
    simp only [xguard, nth_eq] at hg
    cases hj : ops.toList[j]? with
    | none => rw [hj] at hg; cases hg
    | some oj =>
      rw [hj] at hg
      have hj' : ops[j]? = some oj := by rw [← Array.getElem?_toList]; exact hj
      rw [hj'] at h2
      simp only [Option.bind_some] at h2
      simp only [xguardO, h2] at hg
      exact blt_true (cond_some hg).1
  have := s.tmps.2.2 d hd
  obtain ⟨tm, ds⟩ := e
  exact this

theorem stepX_ok (H : T.Ok) {call : CallF} (hcall : CallOk T call) (hc : Ctx b cs rok) {x : XOper} (hx : xoper T n rok ops.toList o = some x) (ho : ops[i]? = some o) {e' : AEnv} {h' : AHp} (hf : stepX call e h x = some (e', h')) (s : SRel T N0 w0 φ n e h a w) :
    ∃ φ' a' w', Steps T.P (lone (on b a (.inRegion ops (i :: rest) :: k)) cs w) (lone (on b a' (.inRegion ops rest :: k)) cs w') ∧ SRel T N0 w0 φ' n e' h' a' w' ∧ Post φ φ' h h' w w' := by
  obtain ⟨h1, h2, h3⟩ := xoper_some hx
  obtain ⟨op, d, g⟩ := x
  simp only [stepX] at hf
  cases hw : wantedA e g with
  | none => rw [hw] at hf; cases hf
  | some c =>
    rw [hw] at hf
    have hwo := s.guard h3 hw
    cases c with
    | true =>
      have spec := xop_ok (φ := φ) (w := w) (e := e) (ρ := a.eval) H h1 (s.opsRel _)
      have hrok : b.roundOf = none ∨ ∀ c, o.op ≠ .defer c := by
        cases hr : rok with
        | true => exact .inl (hc hr).1
        | false => exact .inr (rok_defer h1 hr).1
      obtain ⟨φ', w', u, v, eds, ds, q1, q2, q3, q4, q5, q6⟩ := opX_step (k := k) (rest := rest) hcall hf ho hwo spec hrok (fun hrc => by
        cases hr : rok with
        | true => exact hc hr
        | false => exact absurd hrc (rok_defer h1 hr).2) s.gl s.rel s.ds
      refine ⟨φ', _, w', q1, ⟨q2, ?_, ?_, s.gl.mono q3.le⟩, q3⟩
      · rw [q5]
        exact TRel.put (e := ⟨e.tmps, eds⟩) (a := { a with defers := ds }) (s.tmps.mono q3.le) h2 q4
      · rw [q5, aput_defers, put_defers]; exact q6
    | false =>
      cases hf
      refine ⟨φ, a.put o.dst undef, w, .one ?_, ⟨s.rel, s.tmps.put h2 (undef_rel φ), by rw [aput_defers, put_defers]; exact s.ds, s.gl⟩, Post.refl _ _ _⟩
      have := st_op_skip (P := T.P) (b := b) (a := a) (k := k) (cs := cs) (w := w) (ops := ops) (i := i) (rest := rest) (by simp [ho, hwo])
      rw [ho] at this; exact this

theorem ops_ok (H : T.Ok) {call : CallF} (hcall : CallOk T call) (hc : Ctx b cs rok) {l : List XOper} (hl : xopers T n rok ops.toList = some l) : ∀ (m i : Nat) {φ : Phi} {e : AEnv} {h : AHp} {a : Act} {w : World} {e' : AEnv} {h' : AHp}, i + m = ops.size → opsX call (l.drop i) e h = some (e', h') → SRel T N0 w0 φ n e h a w →
    ∃ φ' a' w', Steps T.P (lone (on b a (.inRegion ops (List.range' i m) :: k)) cs w) (lone (on b a' k) cs w') ∧ SRel T N0 w0 φ' n e' h' a' w' ∧ Post φ φ' h h' w w'
  | 0, i, φ, e, h, a, w, e', h', hi, hf, s => by
    have hll : l.length = ops.size := by rw [(mapA_some hl).1]; simp
    rw [List.drop_of_length_le (by omega)] at hf
    cases hf
    exact ⟨φ, a, w, .one st_region_end, s, Post.refl _ _ _⟩
  | m + 1, i, φ, e, h, a, w, e', h', hi, hf, s => by
    obtain ⟨hll, hlg⟩ := mapA_some hl
    simp at hll
    have hil : i < ops.size := by omega
    obtain ⟨x, hx1, hx2⟩ := hlg i ops[i] (by simp [hil])
    have hdrop : l.drop i = x :: l.drop (i + 1) := by
      rw [List.drop_eq_getElem_cons (by omega)]
      have : l[i]'(by omega) = x := by
        rw [List.getElem?_eq_getElem (by omega)] at hx1
        simpa using hx1
      rw [this]
    rw [hdrop] at hf
    simp only [opsX] at hf
    cases hst : stepX call e h x with
    | none => rw [hst] at hf; cases hf
    | some p =>
      obtain ⟨e1, h1⟩ := p
      rw [hst] at hf
      obtain ⟨φ1, a1, w1, s1, s2, s3⟩ := stepX_ok (rest := List.range' (i + 1) m) (k := k) H hcall hc hx2 (i := i) (by simp [hil]) hst s
      obtain ⟨φ2, a2, w2, t1, t2, t3⟩ := ops_ok H hcall hc hl m (i + 1) (by omega) hf s2
      exact ⟨φ2, a2, w2, by rw [List.range'_succ]; exact s1.trans t1, t2, s3.trans t3⟩

end

end Go.AE

/- A call's results; its temporaries at the start; functions without a body. -/
namespace Go.AE
set_option autoImplicit false
open Go.RowKit Go.Lib
variable {T : Tab} {φ : Phi} {N0 : Nat} {w0 : World} {h : AHp} {w : World}

theorem argsTr_get : ∀ (as : List AVal) (t : Tr AVal) (i j : Nat), i + as.length ≤ maxT → j < maxT → (argsTr t i as).getP (path fuelT j) = if i ≤ j ∧ j < i + as.length then as[j - i]? else t.getP (path fuelT j)
  | [], t, i, j, _, _ => by simp [argsTr]; omega
  | a :: as, t, i, j, hi, hj => by
    simp only [List.length_cons] at hi
    simp only [argsTr]
    rw [argsTr_get as _ (Nat.succ i) j (by omega) hj]
    have hf : ∀ m, m ≤ maxT → m + 1 < 2 ^ fuelT := fun m hm => by unfold maxT at hm; unfold fuelT; omega
    by_cases h1 : Nat.succ i ≤ j ∧ j < Nat.succ i + as.length
    · rw [if_pos h1, if_pos (by simp; omega)]
      rw [show j - i = (j - Nat.succ i) + 1 from by omega]; simp
    · rw [if_neg h1, Tr.set_eq fuelT _ i a (hf i (by omega))]
      by_cases h2 : j = i
      · subst h2
        rw [Tr.getP_setP_same, if_pos (by simp)]; simp
      · rw [Tr.getP_setP_ne _ _ _ _ (fun e => h2 (path_inj fuelT i j (hf i (by omega)) (hf j (by omega)) e).symm), if_neg (by simp; omega)]

theorem env_rel {as : List AVal} {vs : List Value} (hv : VRels φ as vs) {n : Nat} (h1 : as.length ≤ n) (h2 : n ≤ maxT) : TRel φ (envOf as).tmps n ((⟨vs⟩ : Array Value) ++ Array.replicate (n - vs.length) undef) := by
  have hl := hv.length
  refine ⟨h2, by simp; omega, fun i hi => ?_⟩
  have hg := argsTr_get as .leaf 0 i (by omega) (by omega)
  show VRel φ (orUndef ((argsTr .leaf 0 as).getP (path fuelT i))) _
  rw [hg]
  by_cases hlt : i < as.length
  · rw [if_pos (by omega)]
    obtain ⟨v, k1, k2⟩ := hv.get i as[i] (by simp)
    have e1 : ((⟨vs⟩ : Array Value) ++ Array.replicate (n - vs.length) undef).getD i undef = v := by
      rw [Array.getD_eq_getD_getElem?, Array.getElem?_append_left (by simp; omega)]
      rw [← Array.getElem?_toList]; simp [k1]
    rw [e1]
    simpa [orUndef, hlt] using k2
  · rw [if_neg (by omega), Tr.getP_leaf]
    have e1 : ((⟨vs⟩ : Array Value) ++ Array.replicate (n - vs.length) undef).getD i undef = undef := by
      rw [Array.getD_eq_getD_getElem?, Array.getElem?_append_right (by simp; omega)]
      simp
      rw [Array.getElem?_replicate]
      split <;> simp
    rw [e1]
    exact undef_rel φ

theorem tmpA_ok {n : Nat} {e : AEnv} {tmps : Array Value} (ht : TRel φ e.tmps n tmps) {t : Tmp} {x : AVal} (hx : tmpA n e t = some x) : VRel φ x (tmps.getD t undef) := by
  unfold tmpA at hx
  replace hx := cond_some hx; obtain ⟨h1, hx⟩ := hx
  cases hx
  obtain ⟨tm, ds⟩ := e
  exact ht.2.2 t (blt_true h1)

theorem resultCell_ok (H : T.Ok) (r : Rel N0 w0 φ h w) {n : Nat} {e : AEnv} {tmps : Array Value} (ht : TRel φ e.tmps n tmps) {a : Tmp} {t : TypeId} {x : AVal} (hx : resultA T n h e (.cell a t) = some x) :
    ∃ u, (do loadVar t (← asAddr (tmps.getD a undef)) : Sem Value).run T.P w = .ok u w ∧ VRel φ x u := by
  simp only [resultA] at hx
  unfold ldR at hx
  split at hx
  · cases hx
  · rename_i v hv
    have hr := tmpA_ok ht hv
    generalize tmps.getD a undef = cv at hr
    split at hx
    · cases hx
    · rename_i hag
      obtain ⟨u, h1, h2⟩ := ld_ok H r hag hr hx
      refine ⟨u, ?_, h2⟩
      unfold ldOne at hx
      split at hx
      · cases hr
        simp [Instr.loadAt, Instr.sureAddr] at h1
        simp [asAddr, h1]
      · cases hx
    · rename_i m hag
      obtain ⟨u, h1, h2⟩ := ld_ok H r hag hr hx
      refine ⟨u, ?_, h2⟩
      unfold ldAgg at hx
      split at hx
      · cases hr
        simp [Instr.loadAt, Instr.sureAddr] at h1
        simp [asAddr, h1]
      · cases hx

theorem mapM_ok {P : Program} {f : ResultVar → Sem Value} {g : ResultVar → Option AVal} (hfg : ∀ x a, g x = some a → ∃ u, (f x).run P w = .ok u w ∧ VRel φ a u) : ∀ {l : List ResultVar} {as : List AVal}, mapA g l = some as →
    ∃ us, (l.mapM f).run P w = .ok us w ∧ VRels φ as us
  | [], as, h => by simp [mapA] at h; subst h; exact ⟨[], by simp, .nil⟩
  | x :: l, as, h => by
    obtain ⟨y, ys, h1, h2, rfl⟩ := mapA_cons h
    obtain ⟨u, k1, k2⟩ := hfg x y h1
    obtain ⟨us, j1, j2⟩ := mapM_ok hfg h2
    exact ⟨u :: us, by simp [List.mapM_cons, k1, j1], .cons _ _ _ _ k2 j2⟩

theorem results_ok (H : T.Ok) (r : Rel N0 w0 φ h w) {n : Nat} {e : AEnv} {tmps : Array Value} (ht : TRel φ e.tmps n tmps) {fn : Func} {vs : List AVal} (hx : resultsA T n h e fn.results.toList = some vs) :
    ∃ u, (results fn tmps).run T.P w = .ok u w ∧ VRel φ (oneA vs) u := by
  have key : ∀ f : ResultVar → Sem Value, (∀ x a, resultA T n h e x = some a → ∃ u, (f x).run T.P w = .ok u w ∧ VRel φ a u) →
      ∃ u, (do let vs ← fn.results.mapM f; pure (if h : vs.size = 1 then vs[0] else .tuple vs) : Sem Value).run T.P w = .ok u w ∧ VRel φ (oneA vs) u := by
    intro f hf
    obtain ⟨us, h1, h2⟩ := mapM_ok (P := T.P) (w := w) (φ := φ) hf hx
    simp only [Sem.run_bind, Array.mapM_eq_mapM_toList, Sem.run_map, h1, Result.andThen_ok, Sem.run_pure]
    cases h2 with
    | nil => exact ⟨_, rfl, .tuple _ _ .nil⟩
    | cons a v as vs h3 h4 =>
      cases h4 with
      | nil => exact ⟨v, rfl, h3⟩
      | cons a' v' as' vs' h5 h6 => exact ⟨_, rfl, .tuple _ _ (.cons _ _ _ _ h3 (.cons _ _ _ _ h5 h6))⟩
  unfold results
  refine key _ (fun x a hxa => ?_)
  cases x with
  | tmp t => exact ⟨_, rfl, tmpA_ok ht hxa⟩
  | cell c t => exact resultCell_ok H r ht hxa

end Go.AE

/- Calls: bodies, deferred calls. -/
namespace Go.AE
set_option autoImplicit false
open Go.RowKit Go.Lib
variable {T : Tab} {φ : Phi} {N0 : Nat} {w0 : World} {h : AHp} {w : World}

def Quiet (kind : CallKind) (cs : List Frame) : Prop := ∀ fr : Frame, fr.kind = kind → tryRecover fr cs = none

theorem quiet_normal (cs : List Frame) : Quiet .normal cs := fun fr h => by unfold tryRecover; rw [h]
theorem quiet_deferred {c : Frame} (cs : List Frame) (h : c.mode = .returning) : Quiet .deferred (c :: cs) := fun fr hk => by unfold tryRecover; rw [hk]; simp [h]

/-- Where code that has run leads. -/
def Arr (P : Program) (b : Frame) (k : List Item) (cs : List Frame) (m : Machine) : AExit → Act → World → Prop
  | .normal, a, w => Steps P m (lone (on b a k) cs w)
  | .exit id, a, w => ∀ k', exitTo id k = some k' → Steps P m (lone (on b a k') cs w)
  | .ret, a, w => b.roundOf = none → ∃ todo, Steps P m (lone { on b a todo with mode := .returning } cs w)

/-- What the run of code must show. -/
def RunOk (T : Tab) (run : RunF) : Prop :=
  ∀ (n : Nat) (rok : Bool) (c : Code) (e : AEnv) (h : AHp) (ex : AExit) (e' : AEnv) (h' : AHp), run n rok c e h = some (ex, e', h') → ∀ (N0 : Nat) (w0 : World) (φ : Phi) (a : Act) (w : World), SRel T N0 w0 φ n e h a w →
    ∀ (b : Frame) (cs : List Frame) (k : List Item), Ctx b cs rok → ∃ φ' a' w', SRel T N0 w0 φ' n e' h' a' w' ∧ Post φ φ' h h' w w' ∧ Arr T.P b k cs (lone (on b a (.code c :: k)) cs w) ex a' w'

/-- A call has come to its end: the frame gives its results. -/
def Back (T : Tab) (N0 : Nat) (w0 : World) (φ : Phi) (h h' : AHp) (w : World) (v : AVal) (m : Machine) (f : FuncId) (kind : CallKind) (cs : List Frame) : Prop :=
  ∃ φ' u w' fr fn, T.P.funcs[f]? = some fn ∧ Steps T.P m (lone fr cs w') ∧ fr.kind = kind ∧ fr.mode = .returning ∧ fr.defers = [] ∧ fr.fn = f ∧ (results fn fr.tmps).run T.P w' = .ok u w' ∧ Rel N0 w0 φ' h' w' ∧ Post φ φ' h h' w w' ∧ VRel φ' v u

def BodyCall (T : Tab) (call : CallF) : Prop :=
  ∀ (N0 : Nat) (w0 : World) (φ : Phi) (h : AHp) (w : World) (f : FuncId) (fi ca args : List AVal) (v : AVal) (h' : AHp) (fi' ca' args' : List Value), Gl T φ → Rel N0 w0 φ h w → VRels φ fi fi' → VRels φ ca ca' → VRels φ args args' → bodyIs (T.fn.get f) = true →
    call h (.func (.func f) fi ca) args = some (v, h') → ∀ (kind : CallKind) (cs : List Frame), Quiet kind cs → Back T N0 w0 φ h h' w v (lone (Frame.enter T.P f ⟨fi' ++ (args' ++ ca')⟩ kind) cs w) f kind cs

theorem callFunc_enter (H : T.Ok) {f : FuncId} (hb : bodyIs (T.fn.get f) = true) (args : Array Value) (w : World) : (callFunc f args).run T.P w = .ok (.enter f args) w := by
  unfold bodyIs at hb
  split at hb
  · rename_i fn hf
    have h1 : fn.name ≠ "runtime.NumGoroutine" := by simpa using H.named f fn hf
    have h2 : fn.body ≠ none := fun e => by rw [e] at hb; cases hb
    simp [callFunc, H.fn f fn hf, h1, h2]
  · cases hb

theorem step_mark {fr : Frame} {cs : List Frame} {B : Nat} {ds : List Deferred} (hm : fr.mode = .returning) (hd : fr.defers = { target := .collected B, args := #[] } :: ds) (hB : w.heap[B]? = some (.deferred (some []))) :
    step T.P (lone fr cs w) = .next (lone { fr with defers := ds } cs { w with heap := w.heap.setIfInBounds B (.deferred none) }) := by
  refine step_lone_go ?_
  simp [stepG, unwind, hm, hd, Instr.takeDeferred, getObj, setObj, Sem.run, hB]

theorem defers_ok (H : T.Ok) {call : CallF} (hb : BodyCall T call) : ∀ (ds : List (AVal × List AVal)) (ds' : List Deferred) {φ : Phi} {h h2 : AHp} {w : World}, defersA T call ds h = some h2 → DRel φ ds ds' → Gl T φ → Rel N0 w0 φ h w →
    ∀ (fr : Frame) (cs : List Frame), fr.mode = .returning → fr.defers = ds' → ∃ φ2 w2, Steps T.P (lone fr cs w) (lone { fr with defers := [] } cs w2) ∧ Rel N0 w0 φ2 h2 w2 ∧ Post φ φ2 h h2 w w2
  | [], _, φ, h, h2, w, hf, hd, hg, r, fr, cs, hm, hfd => by
    cases hd
    cases hf
    refine ⟨φ, w, ?_, r, Post.refl _ _ _⟩
    have : ({ fr with defers := [] } : Frame) = fr := by rw [← hfd]
    rw [this]; exact Steps.refl _ _
  | _ :: ds, _, φ, h, h2, w, hf, hd, hg, r, fr, cs, hm, hfd => by
    cases hd with
    | call f fi ca args fi' ca' args' _ ds' q1 q2 q3 q4 =>
      simp only [defersA, defer1] at hf
      split at hf
      · cases hf
      · rename_i h1 hd1
        replace hd1 := cond_some hd1; obtain ⟨hbo, hd1⟩ := hd1
        unfold heapO at hd1
        split at hd1
        · cases hd1
        · rename_i v h1' hcall
          cases hd1
          have hs := step_defer (P := T.P) (fr := fr) (cs := cs) (w := w) (by rw [hm]; intro e; cases e) hfd (fv := .func f) (cap := ⟨ca'⟩) rfl (f := f) (args := ⟨fi' ++ (args' ++ ca')⟩) (by
            simp only [invoke]
            have e1 : (Array.mk (fi' ++ args') ++ Array.mk ca' : Array Value) = ⟨fi' ++ (args' ++ ca')⟩ := by apply Array.ext'; simp
            rw [e1]
            exact callFunc_enter H hbo _ w)
          obtain ⟨φ1, u, w1, fr1, fn, k1, k2, k3, k4, k5, k6, k7, k8, k9, k10⟩ := hb N0 w0 φ h w f fi ca args v h1 fi' ca' args' hg r q1 q2 q3 hbo hcall .deferred ({ fr with defers := ds' } :: cs) (quiet_deferred _ hm)
          have hs2 := step_going_returned (P := T.P) (c := { fr with defers := ds' }) (cs := cs) (w := w1) k3 ⟨k4, k5, fn, by rw [k6]; exact k1, k7⟩
          have e2 : ({ ({ fr with defers := ds' } : Frame) with mode := settle ({ fr with defers := ds' } : Frame).mode } : Frame) = { fr with defers := ds' } := by
            simp only [hm, settle]
          rw [e2] at hs2
          obtain ⟨φ2, w2, j1, j2, j3⟩ := defers_ok H hb ds ds' hf (q4.mono k9.le) (hg.mono k9.le) k8 { fr with defers := ds' } cs hm rfl
          exact ⟨φ2, w2, .head hs (k2.trans (.head hs2 j1)), j2, k9.trans j3⟩
    | mark l p _ ds' q1 q2 =>
      simp only [defersA, defer1] at hf
      split at hf
      · cases hf
      · rename_i h1 hd1
        unfold takenB at hd1
        split at hd1
        · rename_i hbk
          replace hd1 := cond_some hd1; obtain ⟨hro, hd1⟩ := hd1
          cases hd1
          have hB : w.heap[p.blk]? = some (.deferred (some [])) := r.blk _ _ p hbk q1
          have hs := step_mark (T := T) (cs := cs) hm hfd hB
          have ho : ∀ B, B < w.heap.size → B ≠ p.blk → ({ w with heap := w.heap.setIfInBounds p.blk (.deferred none) } : World).heap[B]? = w.heap[B]? := fun B _ hB => by
            simp only []; rw [Array.getElem?_setIfInBounds_ne (fun e => hB e.symm)]
          have r1 : Rel N0 w0 φ (h.put l .dead) { w with heap := w.heap.setIfInBounds p.blk (.deferred none) } :=
            r.upd hbk q1 rfl (by simp) ⟨rfl, rfl, rfl, by simp, fun k hk => by
              have := r.old _ p q1 (roOk_le hro)
              simp only []; rw [Array.getElem?_setIfInBounds_ne (by omega)]⟩ ho trivial
          have p1 : Post φ φ h (h.put l .dead) w { w with heap := w.heap.setIfInBounds p.blk (.deferred none) } := Post.upd q1 (by simp) ho
          obtain ⟨φ2, w2, j1, j2, j3⟩ := defers_ok H hb ds ds' hf q2 hg r1 { fr with defers := ds' } cs hm rfl
          exact ⟨φ2, w2, .head hs j1, j2, p1.trans j3⟩
        · cases hd1

theorem resO_some {h : AHp} {o : Option (List AVal)} {v : AVal} {h' : AHp} (hh : resO h o = some (v, h')) : ∃ vs, o = some vs ∧ v = oneA vs ∧ h' = h := by
  cases o with
  | none => cases hh
  | some vs => cases hh; exact ⟨vs, rfl, rfl, rfl⟩

/-- A frame that returns gives its deferred calls, then its results. -/
theorem fin_ok (H : T.Ok) {call : CallF} (hb : BodyCall T call) {n : Nat} {e : AEnv} {a : Act} {fn : Func} {f : FuncId} (hf : T.P.funcs[f]? = some fn) (s : SRel T N0 w0 φ n e h a w) {v : AVal} {h' : AHp} (hfin : finD T n call fn.results.toList h e = some (v, h'))
    {fr : Frame} {cs : List Frame} (h1 : fr.mode = .returning) (h2 : fr.defers = a.defers) (h3 : fr.tmps = a.tmps) (h4 : fr.fn = f) : Back T N0 w0 φ h h' w v (lone fr cs w) f fr.kind cs := by
  obtain ⟨tm, ds⟩ := e
  simp only [finD] at hfin
  unfold finA at hfin
  split at hfin
  · cases hfin
  · rename_i h2' hd
    obtain ⟨vs, k1, rfl, rfl⟩ := resO_some hfin
    obtain ⟨φ2, w2, j1, j2, j3⟩ := defers_ok H hb ds a.defers hd s.ds s.gl s.rel fr cs h1 h2
    have ht : TRel φ2 tm n fr.tmps := by rw [h3]; exact s.tmps.mono j3.le
    obtain ⟨u, g1, g2⟩ := results_ok (e := ⟨tm, []⟩) H j2 ht k1
    exact ⟨φ2, u, w2, { fr with defers := [] }, fn, hf, j1, rfl, h1, rfl, h4, g1, j2, j3, g2⟩

theorem bodyCall_succ (H : T.Ok) {run : RunF} (hrun : RunOk T run) {d : Nat} (hb : BodyCall T (callV T run d)) : BodyCall T (callV T run (d + 1)) := by
  intro N0 w0 φ h w f fi ca args v h' fi' ca' args' hg r q1 q2 q3 hbo hcall kind cs hq
  simp only [callV] at hcall
  unfold callA at hcall
  cases hfn : T.fn.get f with
  | none => rw [hfn] at hcall; cases hcall
  | some fn =>
    rw [hfn] at hcall hbo
    have hf := H.fn f fn hfn
    cases hbody : fn.body with
    | none => simp [bodyIs, hbody] at hbo
    | some body =>
      simp only [hbody] at hcall
      replace hcall := cond_some hcall; obtain ⟨hlen, hcall⟩ := hcall
      simp only [Bool.and_eq_true] at hlen
      have hl1 := ble_true hlen.1
      have hl2 := ble_true hlen.2
      have hargs := q1.append (q3.append q2)
      have ht := env_rel hargs hl1 hl2
      let b : Frame := { (default : Frame) with fn := f, kind := kind, roundOf := none }
      let a : Act := { tmps := (⟨fi' ++ (args' ++ ca')⟩ : Array Value) ++ Array.replicate (fn.ntmps - (fi' ++ (args' ++ ca')).length) undef, defers := [] }
      have henter : Frame.enter T.P f ⟨fi' ++ (args' ++ ca')⟩ kind = on b a [.code body] := by
        simp [Frame.enter, on, hf, hbody, b, a]
      rw [henter]
      unfold retA at hcall
      split at hcall
      · rename_i e' h1 hr
        have s0 : SRel T N0 w0 φ fn.ntmps (envOf (fi ++ (args ++ ca))) h a w := ⟨r, ht, .nil, hg⟩
        obtain ⟨φ1, a1, w1, s1, p1, st⟩ := hrun _ _ _ _ _ _ _ _ hr N0 w0 φ a w s0 b cs [] (fun _ => ⟨rfl, hq⟩)
        have hst : Steps T.P (lone (on b a [.code body]) cs w) (lone { on b a1 [] with mode := .returning } cs w1) := Steps.trans st (.one (st_end rfl))
        obtain ⟨φ2, u, w2, fr, fn', k1, k2, k3, k4, k5, k6, k7, k8, k9, k10⟩ := fin_ok H hb hf s1 hcall (fr := { on b a1 [] with mode := .returning }) (cs := cs) rfl rfl rfl rfl
        exact ⟨φ2, u, w2, fr, fn', k1, hst.trans k2, k3, k4, k5, k6, k7, k8, p1.trans k9, k10⟩
      · rename_i e' h1 hr
        have s0 : SRel T N0 w0 φ fn.ntmps (envOf (fi ++ (args ++ ca))) h a w := ⟨r, ht, .nil, hg⟩
        obtain ⟨φ1, a1, w1, s1, p1, st⟩ := hrun _ _ _ _ _ _ _ _ hr N0 w0 φ a w s0 b cs [] (fun _ => ⟨rfl, hq⟩)
        obtain ⟨todo, hst⟩ := st rfl
        obtain ⟨φ2, u, w2, fr, fn', k1, k2, k3, k4, k5, k6, k7, k8, k9, k10⟩ := fin_ok H hb hf s1 hcall (fr := { on b a1 todo with mode := .returning }) (cs := cs) rfl rfl rfl rfl
        exact ⟨φ2, u, w2, fr, fn', k1, hst.trans k2, k3, k4, k5, k6, k7, k8, p1.trans k9, k10⟩
      · cases hcall

theorem bodyCall_ok (H : T.Ok) {run : RunF} (hrun : RunOk T run) : ∀ d, BodyCall T (callV T run d)
  | 0 => by intro N0 w0 φ h w f fi ca args v h' fi' ca' args' hg r q1 q2 q3 hbo hcall; cases hcall
  | d + 1 => bodyCall_succ H hrun (bodyCall_ok H hrun d)

end Go.AE

/- Functions without a body. -/
namespace Go.AE
set_option autoImplicit false
open Go.RowKit Go.Lib
variable {T : Tab} {φ : Phi} {N0 : Nat} {w0 : World} {h : AHp} {w : World}

theorem ext_next0 : Extern.allNextRows.lookup "" = none := by kernel_rfl
theorem ext_noEscape : Extern.allNextRows.lookup "internal/abi.NoEscape" = none ∧ Extern.allGenericRows.lookup "internal/abi.NoEscape" = none ∧ Extern.allTypedRows.lookup "internal/abi.NoEscape" = none ∧ Extern.allRows.lookup "internal/abi.NoEscape" = some Extern.AbiNoEscape.same :=
  ⟨by kernel_rfl, by kernel_rfl, by kernel_rfl, by kernel_rfl⟩
theorem ext_index : Extern.allNextRows.lookup "internal/bytealg.IndexByteString" = none ∧ Extern.allGenericRows.lookup "internal/bytealg.IndexByteString" = none ∧ Extern.allTypedRows.lookup "internal/bytealg.IndexByteString" = none ∧ Extern.allRows.lookup "internal/bytealg.IndexByteString" = some Extern.BytealgIndexByte.indexByte :=
  ⟨by kernel_rfl, by kernel_rfl, by kernel_rfl, by kernel_rfl⟩
theorem ext_count : Extern.allNextRows.lookup "internal/bytealg.CountString" = none ∧ Extern.allGenericRows.lookup "internal/bytealg.CountString" = none ∧ Extern.allTypedRows.lookup "internal/bytealg.CountString" = none ∧ Extern.allRows.lookup "internal/bytealg.CountString" = some Extern.BytealgCount.count :=
  ⟨by kernel_rfl, by kernel_rfl, by kernel_rfl, by kernel_rfl⟩
theorem ext_make : Extern.allNextRows.lookup "internal/bytealg.MakeNoZero" = none ∧ Extern.allGenericRows.lookup "internal/bytealg.MakeNoZero" = none ∧ Extern.allTypedRows.lookup "internal/bytealg.MakeNoZero" = some Extern.BytealgMakeNoZero.makeNoZero :=
  ⟨by kernel_rfl, by kernel_rfl, by kernel_rfl⟩

theorem nameIs_some {fn : Func} {s : String} (h : nameIs fn s = true) : fn.name = s ∧ fn.origin = "" := by
  unfold nameIs at h
  simpa using h

/-- What a function without a body must show. -/
def ExtOk (P : Program) (N0 : Nat) (w0 : World) (φ : Phi) (h h' : AHp) (w : World) (v : AVal) (s : Sem Next) : Prop :=
  ∃ φ' u w', s.run P w = .ok (.value u) w' ∧ Rel N0 w0 φ' h' w' ∧ Post φ φ' h h' w w' ∧ VRel φ' v u

theorem ext_run (H : T.Ok) {f : FuncId} {fn : Func} (hf : T.fn.get f = some fn) (hb : fn.body = none) {s : String} (hs : nameIs fn s = true) (hn : Extern.allNextRows.lookup s = none) (hg : Extern.allGenericRows.lookup s = none)
    {e : Array Value → Sem Value} (he : ((Extern.allTypedRows.lookup s).map (· fn.params fn.resultTypes) <|> Extern.allRows.lookup s) = some e) (args : Array Value) (w : World) :
    (callFunc f args).run T.P w = ((e args).run T.P w).andThen fun v w' => .ok (.value v) w' := by
  obtain ⟨h1, h2⟩ := nameIs_some hs
  refine run_callFunc_extern (H.fn f fn hf) (H.named f fn hf) (by rw [hb]; rfl) ?_ ?_ args w
  · unfold Extern.findNext
    simp only [h1, h2, hn, ext_next0]
    rfl
  · unfold Extern.find
    simp only [h1, hg, Option.map_none]
    have e1 : ((none : Option (Array Value → Sem Value)) <|> ((Extern.allTypedRows.lookup s).map (· fn.params fn.resultTypes) <|> Extern.allRows.lookup s)) = some e := by rw [he]; rfl
    have e2 : (((none : Option (Array Value → Sem Value)) <|> (Extern.allTypedRows.lookup s).map (· fn.params fn.resultTypes)) <|> Extern.allRows.lookup s) = some e := by
      rw [← e1]
      cases (Extern.allTypedRows.lookup s).map (· fn.params fn.resultTypes) <;> rfl
    first
      | (rw [e1]; rfl)
      | (rw [e2]; rfl)

theorem byte_eq {b : UInt8} {c : Nat} (hc : c < 256) : Nat.beq b.toNat c = (b == UInt8.ofNat c) := by
  cases h : Nat.beq b.toNat c with
  | true =>
    have := beq_true h
    subst this
    simp
  | false =>
    have := beq_false h
    symm
    rw [beq_eq_false_iff_ne]
    intro e
    apply this
    rw [e]
    simp [Nat.mod_eq_of_lt hc]

theorem indexByteA_eq {c : Nat} (hc : c < 256) : ∀ (s : List UInt8) (i : Nat), indexByteA s c i = if indexByte s (UInt8.ofNat c) == -1 then -1 else indexByte s (UInt8.ofNat c) + i
  | [], i => by simp [indexByteA, indexByte]
  | b :: s, i => by
    simp only [indexByteA, byte_eq hc, indexByte]
    rw [indexByteA_eq hc s (Nat.succ i)]
    have hge := indexByte_ge s (UInt8.ofNat c)
    rcases Bool.eq_false_or_eq_true (b == UInt8.ofNat c) with h | h
    · simp [h]
    · simp only [h, cond_false, Bool.false_eq_true, if_false]
      by_cases h2 : indexByte s (UInt8.ofNat c) = -1
      · simp [h2]
      · have h3 : ¬ (indexByte s (UInt8.ofNat c) + 1 = -1) := by omega
        simp [h2, h3]
        omega

theorem countByteA_eq {c : Nat} (hc : c < 256) : ∀ (s : List UInt8) (i : Nat), countByteA s c i = i + countByte s (UInt8.ofNat c)
  | [], i => by simp [countByteA, countByte]
  | b :: s, i => by
    simp only [countByteA, byte_eq hc]
    rw [countByteA_eq hc s]
    unfold countByte
    rw [List.count_cons]
    cases h : (b == UInt8.ofNat c) <;> simp <;> omega

theorem digits_one : ∀ (n t : Nat) (acc : Array Value), (∀ v ∈ acc.toList, v.oneCell = true) → ∀ v ∈ (Extern.BytealgMakeNoZero.digits n t acc).toList, v.oneCell = true
  | 0, _, acc, h => h
  | n + 1, t, acc, h => digits_one n _ _ (by
      intro v hv
      simp at hv
      rcases hv with hv | hv
      · exact h v (by simpa using hv)
      · subst hv; rfl)

theorem run_make {P : Program} (ps : Array TypeId) (t e : TypeId) (us : List TypeId) (ht : P.underlying t = some (.slice e)) (n : Nat) (hn : n ≤ 281474976710656) :
    ∃ cs : Array Value, (Extern.BytealgMakeNoZero.makeNoZero ps (t :: us).toArray #[.int .i64 (Int.ofNat n)]).run P w = .ok (.slice (some ⟨w.heap.size, 0, none⟩) n cs.size) { w with heap := w.heap.push (.cells cs e), drawn := w.drawn + 2 } ∧ n ≤ cs.size ∧ (∀ v ∈ cs.toList, v.oneCell = true) := by
  have hdef : Extern.BytealgMakeNoZero.makeNoZero ps (t :: us).toArray #[.int .i64 (Int.ofNat n)] =
      (do
        let .slice elem ← underlying t | stuck "bytealg.MakeNoZero: slice type expected"
        if (n : Int) < 0 || (n : Int) > 2 ^ 48 then runtimePanic (.error "makeslice: len out of range")
        let cap ← choose (.appendCap (n : Int).toNat 0 elem)
        askRoom cap
        let bytes ← choose (.extern "internal/bytealg.MakeNoZero.bytes" 0)
        let a ← newRow elem (Extern.BytealgMakeNoZero.digits cap bytes #[])
        pure (.slice (some a) (n : Int).toNat cap)) := rfl
  refine ⟨Extern.BytealgMakeNoZero.digits (grownCap w n 0 e) ((Question.extern "internal/bytealg.MakeNoZero.bytes" 0).cut (w.tape (w.drawn + 1) (.extern "internal/bytealg.MakeNoZero.bytes" 0))) #[], ?_, ?_, digits_one _ _ _ (by simp)⟩
  · rw [hdef]
    have h1 : ¬ (n : Int) < 0 := by omega
    have h2 : ¬ (281474976710656 : Int) < (n : Int) := by omega
    simp [run_under _ _ ht, h1, h2, Question.forced, newRow, size_digits, grownCap]
    rfl
  · rw [size_digits]
    simpa using le_grownCap w n 0 e

theorem junk_rel (φ : Phi) : ∀ (l : List Value), (∀ v ∈ l, v.oneCell = true) → VRels φ (List.replicate l.length .junk) l
  | [], _ => .nil
  | v :: l, h => .cons _ _ _ _ (.junk v (h v (by simp))) (junk_rel φ l (fun u hu => h u (by simp [hu])))

theorem junk_all : ∀ n, allOne (List.replicate n AVal.junk) = true
  | 0 => rfl
  | n + 1 => junk_all n

theorem extern_ok (H : T.Ok) (r : Rel N0 w0 φ h w) {f : FuncId} {fn : Func} (hf : T.fn.get f = some fn) (hb : fn.body = none) {as : List AVal} {args : List Value} (has : VRels φ as args) {v : AVal} {h' : AHp} (hx : externA T h fn as = some (v, h')) :
    ExtOk T.P N0 w0 φ h h' w v (callFunc f ⟨args⟩) := by
  unfold externA at hx
  cases h1 : nameIs fn "internal/abi.NoEscape" with
  | true =>
    rw [h1] at hx
    simp only [cond_true] at hx
    unfold escapeA at hx
    split at hx
    · cases hx
      cases has with
      | cons _ u _ _ k1 k2 =>
        cases k2
        have := ext_run H hf hb h1 ext_noEscape.1 ext_noEscape.2.1 (e := Extern.AbiNoEscape.same) (by rw [ext_noEscape.2.2.1, ext_noEscape.2.2.2]; rfl) ⟨[u]⟩ w
        exact ⟨φ, u, w, by rw [this]; rfl, r, Post.refl _ _ _, k1⟩
    · cases hx
  | false =>
    rw [h1] at hx
    simp only [cond_false] at hx
    cases h2 : nameIs fn "internal/bytealg.IndexByteString" with
    | true =>
      rw [h2] at hx
      simp only [cond_true] at hx
      unfold indexByteX at hx
      split at hx
      · replace hx := cond_some hx; obtain ⟨hc, hx⟩ := hx
        cases hx
        rename_i c
        cases has with
        | cons _ _ _ _ k1 k2 => cases k2 with
          | cons _ _ _ _ k2 k3 =>
            cases k3; cases k1; cases k2
            rename_i s
            have := ext_run H hf hb h2 ext_index.1 ext_index.2.1 (e := Extern.BytealgIndexByte.indexByte) (by rw [ext_index.2.2.1, ext_index.2.2.2]; rfl) ⟨[.string s, .int .u8 (Int.ofNat c)]⟩ w
            have run := run_indexByteString (P := T.P) s (Int.ofNat c) w
            refine ⟨φ, .int .i64 (indexByte s.data.toList (UInt8.ofNat c)), w, ?_, r, Post.refl _ _ _, ?_⟩
            · rw [this]
              have e1 : (Extern.BytealgIndexByte.indexByte ⟨[.string s, .int .u8 (Int.ofNat c)]⟩).run T.P w = .ok (.int .i64 (indexByte s.data.toList (UInt8.ofNat c))) w := run
              rw [e1]; rfl
            · rw [indexByteA_eq (blt_true hc)]
              have e2 : (if indexByte s.data.toList (UInt8.ofNat c) == -1 then (-1 : Int) else indexByte s.data.toList (UInt8.ofNat c) + (0 : Nat)) = indexByte s.data.toList (UInt8.ofNat c) := by
                split
                · rename_i hh; exact (beq_iff_eq.1 hh).symm
                · simp
              rw [e2]; exact .int _ _
      · cases hx
    | false =>
      rw [h2] at hx
      simp only [cond_false] at hx
      cases h3 : nameIs fn "internal/bytealg.CountString" with
      | true =>
        rw [h3] at hx
        simp only [cond_true] at hx
        unfold countX at hx
        split at hx
        · replace hx := cond_some hx; obtain ⟨hc, hx⟩ := hx
          cases hx
          rename_i c
          cases has with
          | cons _ _ _ _ k1 k2 => cases k2 with
            | cons _ _ _ _ k2 k3 =>
              cases k3; cases k1; cases k2
              rename_i s
              have := ext_run H hf hb h3 ext_count.1 ext_count.2.1 (e := Extern.BytealgCount.count) (by rw [ext_count.2.2.1, ext_count.2.2.2]; rfl) ⟨[.string s, .int .u8 (Int.ofNat c)]⟩ w
              have run := run_countString (P := T.P) s (Int.ofNat c) w
              refine ⟨φ, .int .i64 (countByte s.data.toList (UInt8.ofNat c)), w, ?_, r, Post.refl _ _ _, ?_⟩
              · rw [this]
                have e1 : (Extern.BytealgCount.count ⟨[.string s, .int .u8 (Int.ofNat c)]⟩).run T.P w = .ok (.int .i64 (countByte s.data.toList (UInt8.ofNat c))) w := run
                rw [e1]; rfl
              · rw [countByteA_eq (blt_true hc), Nat.zero_add]
                exact .int _ _
        · cases hx
      | false =>
        rw [h3] at hx
        simp only [cond_false] at hx
        replace hx := cond_some hx; obtain ⟨h4, hx⟩ := hx
        unfold makeNoZeroX at hx
        split at hx
        · rename_i n
          split at hx
          · rename_i t us hts
            split at hx
            · cases hx
            · rename_i e he
              replace hx := cond_some hx; obtain ⟨hn, hx⟩ := hx
              replace hn := ble_true hn
              obtain ⟨b, hbn, rfl⟩ := sliceO_some hx
              cases has with
              | cons _ _ _ _ k1 k2 =>
                cases k2; cases k1
                have hrt : fn.resultTypes = (t :: us).toArray := by apply Array.ext'; simpa using hts
                have := ext_run H hf hb h4 ext_make.1 ext_make.2.1 (e := Extern.BytealgMakeNoZero.makeNoZero fn.params fn.resultTypes) (by rw [ext_make.2.2]; rfl) ⟨[.int .i64 (Int.ofNat n)]⟩ w
                obtain ⟨cs, g1, g2, g3⟩ := run_make (P := T.P) (w := w) fn.params t e us (elemSl_under H he) n (by omega)
                obtain ⟨rfl, _, _⟩ := AHp.new_eq hbn
                have hle := Phi.le_at (φ := φ) ⟨w.heap.size, 0, cs.size⟩ r.fresh
                have hobj : cs = ⟨cs.toList.take n ++ cs.toList.drop n⟩ := by apply Array.ext'; simp
                have hlt : (cs.toList.take n).length = n := by simp; omega
                obtain ⟨r1, p1⟩ := r.pushed (.cells cs e) (w.drawn + 2) hbn cs.size (by
                  have := soft_new (φ := φ) (cs := List.replicate n .junk) (vs := cs.toList.take n) (rest := cs.toList.drop n) (t := e) (fr := (0, 0)) (by
                    have := junk_rel φ (cs.toList.take n) (fun v hv => g3 v (List.mem_of_mem_take hv))
                    rw [hlt] at this; exact this) (junk_all n) (B := w.heap.size) (w' := { w with heap := w.heap.push (.cells cs e), drawn := w.drawn + 2 }) hle (by rw [← hobj]; simp) (fun off _ hh => by simp at hh)
                  have e1 : (cs.toList.take n).length + (cs.toList.drop n).length = cs.size := by simp; omega
                  rw [e1] at this; exact this)
                refine ⟨_, .slice (some ⟨w.heap.size, 0, none⟩) n cs.size, _, ?_, r1, p1, ?_⟩
                · rw [this, hrt]
                  have e1 : (Extern.BytealgMakeNoZero.makeNoZero fn.params (t :: us).toArray ⟨[.int .i64 (Int.ofNat n)]⟩).run T.P w = _ := g1
                  rw [e1]; rfl
                · exact .slice h.size 0 n n 1 _ 0 cs.size (Phi.at_same _ _ _) (.inr rfl) (Nat.le_refl _) g2 (fun e => by cases e) (fun _ => by simp)
          · cases hx
        · cases hx

end Go.AE

/- Rounds of a range over a function; calls. -/
namespace Go.AE
set_option autoImplicit false
open Go.RowKit Go.Lib
variable {T : Tab} {φ : Phi} {N0 : Nat} {w0 : World} {h : AHp} {w : World}

theorem setParams_ok {n : Nat} : ∀ {ts : List Tmp} {as : List AVal} {vs : List Value} {e e1 : AEnv} {tmps : Array Value}, TRel φ e.tmps n tmps → VRels φ as vs → setParams n e ts as = some e1 →
    ts.length = vs.length ∧ TRel φ e1.tmps n ((ts.zip vs).foldl (fun tmps p => tmps.setIfInBounds p.1 p.2) tmps) ∧ e1.defers = e.defers
  | [], as, vs, e, e1, tmps, ht, hv, hs => by
    cases hv with
    | nil => simp [setParams] at hs; subst hs; exact ⟨rfl, by simpa using ht, rfl⟩
    | cons => simp [setParams] at hs
  | t :: ts, as, vs, e, e1, tmps, ht, hv, hs => by
    cases hv with
    | nil => simp [setParams] at hs
    | cons a v as vs h1 h2 =>
      simp only [setParams] at hs
      replace hs := cond_some hs; obtain ⟨hlt, hs⟩ := hs
      obtain ⟨tm, ds⟩ := e
      have ht1 := TRel.set ht (blt_true hlt) h1
      obtain ⟨k1, k2, k3⟩ := setParams_ok (e := AEnv.set ⟨tm, ds⟩ (path fuelT t) a) (tmps := tmps.setIfInBounds t v) ht1 h2 hs
      exact ⟨by simp [k1], by simpa using k2, by rw [k3]; rfl⟩

theorem run_getLoop (P : Program) {B : Nat} {l : Loop} (hB : w.heap[B]? = some (.loop l)) : (Instr.getLoop B).run P w = .ok l w := by
  simp [Instr.getLoop, getObj, Sem.run, hB]

section
variable {P : Program} {b : Frame} {a : Act} {k : List Item} {cs : List Frame}

theorem st_begin {B : Nat} {l : Loop} (hb : b.roundOf = some B) (hB : w.heap[B]? = some (.loop l)) (hs : l.state = .ready) :
    step P (lone (on b a (.beginRound :: k)) cs w) = .next (lone (on b a k) cs { w with heap := w.heap.setIfInBounds B (.loop { l with state := .busy }) }) :=
  step_lone_go (by
    simp [stepG, stepG.exec, on, hb, stepG.apply, Instr.beginRound, run_getLoop P hB, setObj, Sem.run, hB, hs, Frame.finish])

theorem st_endRound {B : Nat} {l : Loop} {c : Frame} (hb : b.roundOf = some B) (hk : b.kind = .normal) (hB : w.heap[B]? = some (.loop l)) :
    step P (lone (on b a []) (c :: cs) w) = .next (lone (c.finish (.bool true)) cs { w with heap := w.heap.setIfInBounds B (.loop { l with state := .ready, pending := none }) }) :=
  step_lone_go (by
    simp [stepG, stepG.exec, on, hb, Instr.endRound, run_getLoop P hB, setObj, Sem.run, hB, doReturn, hk])
end

/-- One loop's block turns. -/
theorem loop_turn (r : Rel N0 w0 φ h w) {l : Nat} {p : PInfo} (hp : φ l = some p) {b : Bool} {h' : AHp} (hm : markLoop h l b = some h') :
    ∃ L : Loop, w.heap[p.blk]? = some (.loop L) ∧ L.state = (if b then .ready else .busy) ∧ L.pending = none ∧
      Rel N0 w0 φ h' { w with heap := w.heap.setIfInBounds p.blk (.loop { L with state := if b then .busy else .ready, pending := none }) } ∧ Post φ φ h h' w { w with heap := w.heap.setIfInBounds p.blk (.loop { L with state := if b then .busy else .ready, pending := none }) } := by
  unfold markLoop markB at hm
  split at hm
  · rename_i old tmps n ps asg body hb
    replace hm := cond_none hm; obtain ⟨h1, hm⟩ := hm
    replace hm := cond_some hm; obtain ⟨hro, hm⟩ := hm
    cases hm
    obtain ⟨L, k1, k2, k3, k4, k5, k6, k7⟩ := r.blk _ _ p hb hp
    have hlt := r.lt l p hp
    have ho : ∀ B, B < w.heap.size → B ≠ p.blk → ({ w with heap := w.heap.setIfInBounds p.blk (.loop { L with state := if b then .busy else .ready, pending := none }) } : World).heap[B]? = w.heap[B]? := fun B _ hB => by
      simp only []; rw [Array.getElem?_setIfInBounds_ne (fun e => hB e.symm)]
    refine ⟨L, k1, ?_, k3, ?_, Post.upd hp (by simp) ho⟩
    · rw [k2]; cases b <;> cases old <;> first | rfl | (simp [eqBool] at h1)
    · refine r.upd hb hp rfl (by simp) ⟨rfl, rfl, rfl, by simp, fun k hk => ?_⟩ ho ⟨{ L with state := if b then .busy else .ready, pending := none }, ?_, rfl, rfl, k4, k5, k6, k7⟩
      · have := r.old l p hp (roOk_le hro)
        simp only []; rw [Array.getElem?_setIfInBounds_ne (by omega)]
      · simp only []; rw [Array.getElem?_setIfInBounds_self_of_lt hlt]
  · cases hm

theorem round_ok {run : RunF} (hrun : RunOk T run) (hg : Gl T φ) (r : Rel N0 w0 φ h w) {l : Nat} {p : PInfo} (hp : φ l = some p) {as : List AVal} {args : Array Value} (has : VRels φ as args.toList) {v : AVal} {h' : AHp}
    (hf : roundB run h l as (h.get l) = some (v, h')) {c0 c : Frame} {cs0 cs : List Frame} {w00 : World} {s : Sem Next} (hr : Runs T.P c0 cs0 w00 c cs s w) (hs : s.run T.P w = (Instr.yield p.blk args).run T.P w) :
    ∃ φ' u w', Steps T.P (lone c0 cs0 w00) (lone (c.finish u) cs w') ∧ Rel N0 w0 φ' h' w' ∧ Post φ φ' h h' w w' ∧ VRel φ' v u := by
  unfold roundB at hf
  split at hf
  · rename_i tmps n ps assign body hb
    obtain ⟨L, k1, k2, k3, k4, k5, k6, k7⟩ := r.blk _ _ p hb hp
    unfold roundRun at hf
    split at hf
    · cases hf
    · rename_i e1 he1
      obtain ⟨j1, j2, j3⟩ := setParams_ok (e := ⟨tmps, []⟩) k7 has he1
      have hsz : args.size = L.params.size := by
        have : L.params.toList.length = args.toList.length := by rw [k4]; exact j1
        simpa using this.symm
      have hy : (Instr.yield p.blk args).run T.P w = .ok (.round p.blk L.fn ((L.params.zip args).foldl (fun tmps (t, a) => tmps.setIfInBounds t a) L.tmps) L.assign L.body) w := by
        simp [Instr.yield, run_getLoop T.P k1, hsz]
      have hstep := hr.round (hs.trans hy)
      have htm : ((L.params.zip args).foldl (fun tmps (t, a) => tmps.setIfInBounds t a) L.tmps) = ((ps.zip args.toList).foldl (fun tmps p => tmps.setIfInBounds p.1 p.2) L.tmps) := by
        rw [← Array.foldl_toList, Array.toList_zip, k4]
      rw [htm, k5, k6] at hstep
      let b : Frame := { (default : Frame) with fn := L.fn, kind := .normal, roundOf := some p.blk }
      let a : Act := { tmps := (ps.zip args.toList).foldl (fun tmps p => tmps.setIfInBounds p.1 p.2) L.tmps, defers := [] }
      have hfr : Frame.round p.blk L.fn ((ps.zip args.toList).foldl (fun tmps p => tmps.setIfInBounds p.1 p.2) L.tmps) assign body .normal = on b a [.code assign, .beginRound, .code body] := rfl
      rw [hfr] at hstep
      have s0 : SRel T N0 w0 φ n e1 h a w := ⟨r, j2, by rw [j3]; exact .nil, hg⟩
      unfold roundBody at hf
      split at hf
      · rename_i e2 h2 hr1
        obtain ⟨φ1, a1, w1, s1, p1, st1⟩ := hrun _ _ _ _ _ _ _ _ hr1 N0 w0 φ a w s0 b (c :: cs) [.beginRound, .code body] (fun hh => by cases hh)
        unfold roundGo at hf
        split at hf
        · cases hf
        · rename_i h3 hm1
          have hp1 := p1.le _ _ hp
          obtain ⟨L1, l1, l2, l3, l4, l5⟩ := loop_turn s1.rel hp1 hm1
          have st2 := st_begin (P := T.P) (b := b) (a := a1) (k := [.code body]) (cs := c :: cs) (rfl : b.roundOf = some p.blk) l1 (by simpa using l2)
          have e3 : ({ L1 with state := LoopState.busy } : Loop) = { L1 with state := if (true : Bool) = true then .busy else .ready, pending := none } := by rw [← l3]; rfl
          rw [e3] at st2
          unfold roundEnd at hf
          split at hf
          · rename_i e4 h4 hr2
            have s2 : SRel T N0 w0 φ1 n e2 h3 a1 _ := ⟨l4, s1.tmps, s1.ds, s1.gl⟩
            obtain ⟨φ2, a2, w2, s3, p2, st3⟩ := hrun _ _ _ _ _ _ _ _ hr2 N0 w0 φ1 a1 _ s2 b (c :: cs) [] (fun hh => by cases hh)
            unfold trueO at hf
            split at hf
            · cases hf
            · rename_i h5 hm2
              cases hf
              have hp2 := p2.le _ _ hp1
              obtain ⟨L2, m1, m2, m3, m4, m5⟩ := loop_turn s3.rel hp2 hm2
              have st4 := st_endRound (P := T.P) (b := b) (a := a2) (c := c) (cs := cs) (rfl : b.roundOf = some p.blk) rfl m1
              refine ⟨φ2, .bool true, _, .head hstep (st1.trans (.head st2 (Steps.trans st3 (.one st4)))), m4, p1.trans (l5.trans (p2.trans m5)), .bool true⟩
          · cases hf
      · cases hf
  · cases hf

theorem callOk (H : T.Ok) {run : RunF} (hrun : RunOk T run) : ∀ d, CallOk T (callV T run d)
  | 0 => by intro N0 w0 φ h w f args v h' fv args' hg r hf has hcall; cases hcall
  | d + 1 => by
    intro N0 w0 φ h w f args v h' fv args' hg r hf has hcall c0 cs0 w00 c cs hruns htodo hmode
    simp only [callV] at hcall
    split at hcall
    · rename_i f fi ca
      cases hf with
      | func _ _ _ fi' ca' q1 q2 =>
        have hs : (do let d ← Deferred.ofValue (.func (.func f) ⟨fi'⟩ ⟨ca'⟩) args'; invoke d.target d.args : Sem Next) = callFunc f ⟨fi' ++ (args'.toList ++ ca')⟩ := by
          have e1 : ((Array.mk fi' ++ args') ++ Array.mk ca' : Array Value) = ⟨fi' ++ (args'.toList ++ ca')⟩ := by apply Array.ext'; simp
          show callFunc f ((Array.mk fi' ++ args') ++ Array.mk ca') = _
          rw [e1]
        rw [hs] at hruns
        cases hfn : T.fn.get f with
        | none => rw [hfn] at hcall; cases hcall
        | some fn =>
          cases hbody : fn.body with
          | none =>
            have hx : externA T h fn (fi ++ (args ++ ca)) = some (v, h') := by
              rw [hfn] at hcall
              simp only [callA, hbody] at hcall
              exact hcall
            obtain ⟨φ', u, w', k1, k2, k3, k4⟩ := extern_ok H r hfn hbody (q1.append (has.append q2)) hx
            exact ⟨φ', u, w', .one (hruns.value k1), k2, k3, k4⟩
          | some body =>
            have hbo : bodyIs (T.fn.get f) = true := by rw [hfn]; simp [bodyIs, hbody]
            have hb := bodyCall_ok H hrun (d + 1)
            have hst := hruns.enter (callFunc_enter H hbo _ w) htodo
            obtain ⟨φ', u, w', fr, fn', k1, k2, k3, k4, k5, k6, k7, k8, k9, k10⟩ := hb N0 w0 φ h w f fi ca args v h' fi' ca' args'.toList hg r q1 q2 has hbo (by simp only [callV]; exact hcall) .normal (c :: cs) (quiet_normal _)
            have hl := step_leave_returned (P := T.P) (c := c) (cs := cs) (w := w') (fr := fr) (v := u) ⟨k4, k5, k3, fn', by rw [k6]; exact k1, k7⟩
            exact ⟨φ', u, w', .head hst (k2.trans (.one hl)), k8, k9, k10⟩
    · rename_i l fi ca
      cases hf with
      | yield _ p hp =>
        refine round_ok hrun hg r hp has hcall hruns ?_
        have e1 : ((#[] ++ args') : Array Value) = args' := by simp
        show (Instr.yield p.blk (#[] ++ args')).run T.P w = _
        rw [e1]
    · cases hcall

end Go.AE

/- The run of code. -/
namespace Go.AE
set_option autoImplicit false
open Go.RowKit Go.Lib
variable {T : Tab} {φ : Phi} {N0 : Nat} {w0 : World} {h : AHp} {w : World}

/-- What a region that draws its order must show. -/
def DrawOk (T : Tab) : Prop :=
  ∀ (call : CallF), CallOk T call → ∀ (n : Nat) (rok : Bool) (ops : Array Oper) (l : List XOper) (e : AEnv) (h : AHp) (e' : AEnv) (h' : AHp), xopers T n rok ops.toList = some l → drawX call ops.toList l e h = some (e', h') →
    ∀ (N0 : Nat) (w0 : World) (φ : Phi) (a : Act) (w : World), SRel T N0 w0 φ n e h a w → ∀ (b : Frame) (cs : List Frame) (k : List Item) (id : Nat), Ctx b cs rok →
      ∃ φ' a' w', Steps T.P (lone (on b a (.code (.region id ops true) :: k)) cs w) (lone (on b a' k) cs w') ∧ SRel T N0 w0 φ' n e' h' a' w' ∧ Post φ φ' h h' w w'

section
variable {P : Program} {b : Frame} {a a' : Act} {k : List Item} {cs : List Frame} {ex : AExit} {m m1 : Machine}

theorem Arr.of_steps (h : Steps P m m1) (ha : Arr P b k cs m1 ex a w) : Arr P b k cs m ex a w := by
  cases ex with
  | normal => exact h.trans ha
  | exit id => exact fun k' hk => h.trans (ha k' hk)
  | ret => exact fun hr => let ⟨t, ht⟩ := ha hr; ⟨t, h.trans ht⟩

theorem Arr.pop {x : Item} (hx : ∀ id, exitTo id (x :: k) = exitTo id k) (hn : ex ≠ .normal) (ha : Arr P b (x :: k) cs m ex a w) : Arr P b k cs m ex a w := by
  cases ex with
  | normal => exact absurd rfl hn
  | exit id => exact fun k' hk => ha k' (by rw [hx]; exact hk)
  | ret => exact ha
end

theorem thenA_some {run : AEnv → AHp → Out} {o : Out} {r : AExit × AEnv × AHp} (h : thenA run o = some r) : (∃ e1 h1, o = some (.normal, e1, h1) ∧ run e1 h1 = some r) ∨ (o = some r ∧ r.1 ≠ .normal) := by
  unfold thenA at h
  split at h
  · exact .inl ⟨_, _, rfl, h⟩
  · rename_i hne
    subst h
    obtain ⟨ex, e1, h1⟩ := r
    exact .inr ⟨rfl, fun e => by simp only at e; subst e; exact hne _ _ rfl⟩

theorem blockA_some {id : Nat} {o : Out} {r : AExit × AEnv × AHp} (h : blockA id o = some r) : (∃ e1 h1, o = some (.exit id, e1, h1) ∧ r = (.normal, e1, h1)) ∨ (o = some r ∧ r.1 ≠ .exit id) := by
  unfold blockA at h
  split at h
  · rename_i id' e1 h1
    cases hb : Nat.beq id' id with
    | true =>
      rw [hb] at h
      have := beq_true hb; subst this
      cases h
      exact .inl ⟨e1, h1, rfl, rfl⟩
    | false =>
      rw [hb] at h
      cases h
      exact .inr ⟨rfl, fun e => by simp only [AExit.exit.injEq] at e; exact beq_false hb e⟩
  · rename_i hne
    subst h
    obtain ⟨ex, e1, h1⟩ := r
    exact .inr ⟨rfl, fun e => by simp only at e; subst e; exact hne _ _ _ rfl⟩

def LoopOk (T : Tab) (run : RunF) : Prop :=
  ∀ (n : Nat) (rok : Bool) (c : Code) (e : AEnv) (h : AHp) (ex : AExit) (e' : AEnv) (h' : AHp), run n rok (.loop c) e h = some (ex, e', h') → ∀ (N0 : Nat) (w0 : World) (φ : Phi) (a : Act) (w : World), SRel T N0 w0 φ n e h a w →
    ∀ (b : Frame) (cs : List Frame) (k : List Item), Ctx b cs rok → ∃ φ' a' w', SRel T N0 w0 φ' n e' h' a' w' ∧ Post φ φ' h h' w w' ∧ Arr T.P b k cs (lone (on b a (.code c :: .inLoop c :: k)) cs w) ex a' w'

theorem loopOk_succ {m : Nat} (h1 : RunOk T (runA T m)) (h2 : LoopOk T (runA T m)) : LoopOk T (runA T (m + 1)) := by
  intro n rok c e h ex e' h' hf N0 w0 φ a w s b cs k hc
  simp only [runA] at hf
  rcases thenA_some hf with ⟨e1, h1', k1, k2⟩ | ⟨k1, k2⟩
  · obtain ⟨φ1, a1, w1, s1, p1, st1⟩ := h1 _ _ _ _ _ _ _ _ k1 N0 w0 φ a w s b cs (.inLoop c :: k) hc
    obtain ⟨φ2, a2, w2, s2, p2, st2⟩ := h2 _ _ _ _ _ _ _ _ k2 N0 w0 φ1 a1 w1 s1 b cs k hc
    exact ⟨φ2, a2, w2, s2, p1.trans p2, st2.of_steps (Steps.trans st1 (.one st_inLoop))⟩
  · obtain ⟨φ1, a1, w1, s1, p1, st1⟩ := h1 _ _ _ _ _ _ _ _ k1 N0 w0 φ a w s b cs (.inLoop c :: k) hc
    exact ⟨φ1, a1, w1, s1, p1, st1.pop (fun _ => rfl) k2⟩

theorem st_rangeFunc {P : Program} {b : Frame} {a : Act} {k : List Item} {cs : List Frame} {f : Operand} {params : Array Tmp} {assign body : Code} (hb : b.roundOf = none) :
    Runs P (on b a (.code (.rangeFunc f params assign body) :: k)) cs w
      (on b { a with defers := { target := .collected w.heap.size, args := #[] } :: a.defers } (.inRangeFunc (w.heap.size + 1) :: k)) cs
      (do let d ← Deferred.ofValue (a.eval f) #[.func (.yield (w.heap.size + 1)) #[] #[]]; invoke d.target d.args)
      { w with heap := (w.heap.push (.deferred (some []))).push (.loop { state := .ready, pending := none, fn := b.fn, tmps := a.tmps, params, assign, body, defers := w.heap.size }) } := by
  have he := on_eval b { a with defers := { target := .collected w.heap.size, args := #[] } :: a.defers } (.inRangeFunc (w.heap.size + 1) :: k)
  have he' : ({ a with defers := { target := .collected w.heap.size, args := #[] } :: a.defers } : Act).eval = a.eval := by funext x; cases x <;> rfl
  rw [he'] at he
  simp only [on, hb] at he
  unfold Runs
  simp only [stepG, stepG.exec, on, hb, Instr.enterLoop, resolve]
  simp [he]
  rfl

theorem st_endRange {P : Program} {b : Frame} {a : Act} {k : List Item} {cs : List Frame} {B : Nat} {L : Loop} (hB : w.heap[B]? = some (.loop L)) (hs : L.state = .ready) (hp : L.pending = none) :
    step P (lone (on b a (.endRangeFunc B :: k)) cs w) = .next (lone (on b a k) cs { w with heap := w.heap.setIfInBounds B (.loop { L with state := .exhausted }) }) :=
  step_lone_go (by
    simp [stepG, stepG.exec, on, Instr.endLoop, run_getLoop P hB, setObj, Sem.run, hB, hs, hp])

theorem rangeFunc_ok {call : CallF} (hcall : CallOk T call) {n : Nat} {rok : Bool} {e e' : AEnv} {h' : AHp} {a : Act} {f : Operand} {params : Array Tmp} {assign body : Code} {ex : AExit} (s : SRel T N0 w0 φ n e h a w) {b : Frame} {cs : List Frame} (hc : Ctx b cs rok)
    (hf : rangeFuncA call n rok e h params.toList assign body (xa T n f) = some (ex, e', h')) (k : List Item) :
    ∃ φ' a' w', SRel T N0 w0 φ' n e' h' a' w' ∧ Post φ φ' h h' w w' ∧ Arr T.P b k cs (lone (on b a (.code (.rangeFunc f params assign body) :: k)) cs w) ex a' w' := by
  unfold rangeFuncA at hf
  split at hf
  · cases hf
  · rename_i x hx
    replace hf := cond_some hf; obtain ⟨hrok, hf⟩ := hf
    have hround := (hc hrok).1
    have hfr := xa_rel s.gl s.tmps hx
    unfold rangeFuncR at hf
    split at hf
    · cases hf
    · rename_i r1 h1 hn1
      unfold rangeFuncL at hf
      split at hf
      · cases hf
      · rename_i l h2 hn2
        obtain ⟨rfl, _, hh1⟩ := AHp.new_eq hn1
        obtain ⟨rfl, _, hh2⟩ := AHp.new_eq hn2
        obtain ⟨rel1, p1⟩ := s.rel.pushed (.deferred (some [])) w.drawn hn1 0 (by show _ = _; simp)
        let L : Loop := { state := .ready, pending := none, fn := b.fn, tmps := a.tmps, params, assign, body, defers := w.heap.size }
        have t1 := s.tmps.mono p1.le
        obtain ⟨rel2, p2⟩ := rel1.pushed (.loop L) w.drawn hn2 0 (by
          refine ⟨L, ?_, rfl, rfl, rfl, rfl, rfl, t1.mono (Phi.le_at _ rel1.fresh)⟩
          simp only []
          rw [Array.getElem?_push, if_pos rfl])
        have p12 := p1.trans p2
        have hruns := st_rangeFunc (P := T.P) (w := w) (b := b) (a := a) (k := k) (cs := cs) (f := f) (params := params) (assign := assign) (body := body) hround
        have hl1 : h1.size = h.size + 1 := by rw [hh1]
        have hphi : ((φ.at h.size ⟨w.heap.size, 0, 0⟩).at h1.size ⟨w.heap.size + 1, 0, 0⟩) h1.size = some ⟨w.heap.size + 1, 0, 0⟩ := Phi.at_same _ _ _
        have hphir : ((φ.at h.size ⟨w.heap.size, 0, 0⟩).at h1.size ⟨w.heap.size + 1, 0, 0⟩) h.size = some ⟨w.heap.size, 0, 0⟩ := by
          rw [Phi.at_ne _ _ (by omega)]; exact Phi.at_same _ _ _
        have hwsz : ({ w with heap := w.heap.push (.deferred (some [])), drawn := w.drawn } : World).heap.size = w.heap.size + 1 := by simp
        rw [hwsz] at rel2 p12
        unfold overA at hf
        split at hf
        · cases hf
        · rename_i v h3 hcl
          obtain ⟨φ3, u, w3, st3, rel3, p3, _⟩ := hcall N0 w0 _ h2 _ _ _ v h3 (a.eval f) #[.func (.yield (w.heap.size + 1)) #[] #[]] (s.gl.mono p12.le) rel2 (hfr.mono p12.le) (.cons _ _ _ _ (.yield _ _ hphi) .nil) hcl _ _ _ _ _ hruns (by simp [on]) rfl
          have hp3 := p3.le _ _ hphi
          unfold overB at hf
          split at hf
          · rename_i tm n' ps as bd hb3
            replace hf := cond_some hf; obtain ⟨hro, hf⟩ := hf
            cases hf
            obtain ⟨L3, q1, q2, q3, _⟩ := rel3.blk _ _ _ hb3 hp3
            have st4 := st_endRange (P := T.P) (b := b) (a := { a with defers := { target := .collected w.heap.size, args := #[] } :: a.defers }) (k := k) (cs := cs) q1 q2 q3
            have hlt := rel3.lt _ _ hp3
            have ho : ∀ B, B < w3.heap.size → B ≠ w.heap.size + 1 → ({ w3 with heap := w3.heap.setIfInBounds (w.heap.size + 1) (.loop { L3 with state := .exhausted }) } : World).heap[B]? = w3.heap[B]? := fun B _ hB => by
              simp only []; rw [Array.getElem?_setIfInBounds_ne (fun e => hB e.symm)]
            have rel4 : Rel N0 w0 φ3 (h3.put h1.size .dead) { w3 with heap := w3.heap.setIfInBounds (w.heap.size + 1) (.loop { L3 with state := .exhausted }) } :=
              rel3.upd hb3 hp3 rfl (by simp) ⟨rfl, rfl, rfl, by simp, fun k hk => by
                have := rel3.old _ _ hp3 (roOk_le hro)
                simp only [] at this ⊢; rw [Array.getElem?_setIfInBounds_ne (by omega)]⟩ ho trivial
            have p4 : Post φ3 φ3 h3 (h3.put h1.size .dead) w3 { w3 with heap := w3.heap.setIfInBounds (w.heap.size + 1) (.loop { L3 with state := .exhausted }) } := Post.upd hp3 (by simp) ho
            refine ⟨φ3, { a with defers := { target := .collected w.heap.size, args := #[] } :: a.defers }, _, ⟨rel4, ?_, ?_, s.gl.mono (p12.le.trans p3.le)⟩, p12.trans (p3.trans p4), Steps.trans st3 (.one ?_)⟩
            · obtain ⟨tm, ds⟩ := e
              exact s.tmps.mono (p12.le.trans p3.le)
            · obtain ⟨tm, ds⟩ := e
              exact .mark h.size _ _ _ (p3.le _ _ hphir) (s.ds.mono (p12.le.trans p3.le))
            · exact st4
          · cases hf

theorem norm_some {o : St} {ex : AExit} {e' : AEnv} {h' : AHp} (hh : norm o = some (ex, e', h')) : ex = .normal ∧ o = some (e', h') := by
  cases o with
  | none => cases hh
  | some p => obtain ⟨e, h⟩ := p; cases hh; exact ⟨rfl, rfl⟩

theorem runOk_succ (H : T.Ok) (hd : DrawOk T) {m : Nat} (h1 : RunOk T (runA T m)) (h2 : LoopOk T (runA T (m + 1))) : RunOk T (runA T (m + 1)) := by
  have hcall := callOk H h1 3
  intro n rok c e h ex e' h' hf N0 w0 φ a w s b cs k hc
  cases c with
  | skip => simp only [runA, Option.some.injEq, Prod.mk.injEq] at hf; obtain ⟨rfl, rfl, rfl⟩ := hf; exact ⟨φ, a, w, s, Post.refl _ _ _, .one st_skip⟩
  | label l => simp only [runA, Option.some.injEq, Prod.mk.injEq] at hf; obtain ⟨rfl, rfl, rfl⟩ := hf; exact ⟨φ, a, w, s, Post.refl _ _ _, .one st_label⟩
  | ret => simp only [runA, Option.some.injEq, Prod.mk.injEq] at hf; obtain ⟨rfl, rfl, rfl⟩ := hf; exact ⟨φ, a, w, s, Post.refl _ _ _, fun hr => ⟨_, .one (st_ret hr)⟩⟩
  | exit id => simp only [runA, Option.some.injEq, Prod.mk.injEq] at hf; obtain ⟨rfl, rfl, rfl⟩ := hf; exact ⟨φ, a, w, s, Post.refl _ _ _, fun k' hk => .one (st_exit hk)⟩
  | region id ops draw =>
    simp only [runA] at hf
    have hf' := norm_some hf
    clear hf
    obtain ⟨rfl, hf⟩ := hf'
    unfold regionX at hf
    split at hf
    · cases hf
    · rename_i l hl
      cases draw with
      | true =>
        obtain ⟨φ', a', w', k1, k2, k3⟩ := hd _ hcall n rok ops l e h e' h' hl hf N0 w0 φ a w s b cs k id hc
        exact ⟨φ', a', w', k2, k3, k1⟩
      | false =>
        obtain ⟨φ', a', w', k1, k2, k3⟩ := ops_ok (k := k) H hcall hc hl ops.size 0 (by omega) (by simpa using hf) s
        refine ⟨φ', a', w', k2, k3, .head st_region ?_⟩
        rw [List.range_eq_range']; exact k1
  | seq x y =>
    simp only [runA] at hf
    rcases thenA_some hf with ⟨e1, h1', k1, k2⟩ | ⟨k1, k2⟩
    · obtain ⟨φ1, a1, w1, s1, p1, st1⟩ := h1 _ _ _ _ _ _ _ _ k1 N0 w0 φ a w s b cs (.code y :: k) hc
      obtain ⟨φ2, a2, w2, s2, p2, st2⟩ := h1 _ _ _ _ _ _ _ _ k2 N0 w0 φ1 a1 w1 s1 b cs k hc
      exact ⟨φ2, a2, w2, s2, p1.trans p2, st2.of_steps (.head st_seq st1)⟩
    · obtain ⟨φ1, a1, w1, s1, p1, st1⟩ := h1 _ _ _ _ _ _ _ _ k1 N0 w0 φ a w s b cs (.code y :: k) hc
      exact ⟨φ1, a1, w1, s1, p1, (st1.pop (fun _ => rfl) k2).of_steps (.one st_seq)⟩
  | cond c x y =>
    simp only [runA] at hf
    unfold condR at hf
    split at hf
    · rename_i xx hx
      have hr := xa_rel s.gl s.tmps hx
      split at hf
      · rename_i hb
        rw [hb] at hr
        generalize hv : a.eval c = v at hr
        cases hr
        obtain ⟨φ1, a1, w1, s1, p1, st1⟩ := h1 _ _ _ _ _ _ _ _ hf N0 w0 φ a w s b cs k hc
        have st0 := st_cond (P := T.P) (b := b) (k := k) (cs := cs) (w := w) (x := x) (y := y) hv
        exact ⟨φ1, a1, w1, s1, p1, st1.of_steps (.one st0)⟩
      · rename_i hb
        rw [hb] at hr
        generalize hv : a.eval c = v at hr
        cases hr
        obtain ⟨φ1, a1, w1, s1, p1, st1⟩ := h1 _ _ _ _ _ _ _ _ hf N0 w0 φ a w s b cs k hc
        have st0 := st_cond (P := T.P) (b := b) (k := k) (cs := cs) (w := w) (x := x) (y := y) hv
        exact ⟨φ1, a1, w1, s1, p1, st1.of_steps (.one st0)⟩
      · cases hf
    · cases hf
  | block id c =>
    simp only [runA] at hf
    rcases blockA_some hf with ⟨e1, h1', k1, k2⟩ | ⟨k1, k2⟩
    · cases k2
      obtain ⟨φ1, a1, w1, s1, p1, st1⟩ := h1 _ _ _ _ _ _ _ _ k1 N0 w0 φ a w s b cs (.inBlock id :: k) hc
      exact ⟨φ1, a1, w1, s1, p1, .head st_block (st1 k (by simp [exitTo]))⟩
    · obtain ⟨φ1, a1, w1, s1, p1, st1⟩ := h1 _ _ _ _ _ _ _ _ k1 N0 w0 φ a w s b cs (.inBlock id :: k) hc
      refine ⟨φ1, a1, w1, s1, p1, Arr.of_steps (.one st_block) ?_⟩
      cases ex with
      | normal => exact Steps.trans st1 (.one st_inBlock)
      | exit id' =>
        have hne : ¬ (id = id') := fun e => k2 (by rw [e])
        exact fun k' hk => st1 k' (by simp [exitTo, hne, hk])
      | ret => exact st1
  | loop c =>
    obtain ⟨φ1, a1, w1, s1, p1, st1⟩ := h2 _ _ _ _ _ _ _ _ hf N0 w0 φ a w s b cs k hc
    exact ⟨φ1, a1, w1, s1, p1, st1.of_steps (.one st_loop)⟩
  | rangeFunc f ps assign body =>
    simp only [runA] at hf
    exact rangeFunc_ok hcall s hc hf k
  | _ => simp only [runA] at hf; cases hf

theorem runA_ok (H : T.Ok) (hd : DrawOk T) : ∀ m, RunOk T (runA T m) ∧ LoopOk T (runA T m)
  | 0 => ⟨(fun n rok c e h ex e' h' hf => by cases hf), (fun n rok c e h ex e' h' hf => by cases hf)⟩
  | m + 1 => by
    obtain ⟨h1, h2⟩ := runA_ok H hd m
    have h3 := loopOk_succ h1 h2
    exact ⟨runOk_succ H hd h1 h3, h3⟩

end Go.AE
