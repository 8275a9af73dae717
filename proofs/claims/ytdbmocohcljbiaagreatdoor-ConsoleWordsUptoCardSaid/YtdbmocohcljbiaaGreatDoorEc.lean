/- The evaluator's operators, loads, stores, new blocks and maps answer as the model's. -/
import Derived.Test.YtdbmocohcljbiaaGreatDoorEb
import Derived.Laws.Tables
import Derived.Lib.Builder
import Derived.Laws.BytesArg
/- The operations that only reckon, as operations. -/
namespace Go.AE
set_option autoImplicit false
open Go.RowKit
variable {T : Tab} {φ : Phi}

/-- What '==' at a type asks of its operands. -/
theorem eqT_shape : ∀ (d : Nat) (t : TypeId) (f : EqF), eqT T d t = some f → ∀ a b r, f a b = some r → a ≠ .junk ∧ b ≠ .junk ∧ ((∃ k n, a = .int k n) → ∃ k, T.underlying t = some (.int k)) ∧ ((∃ s, a = .str s) → T.underlying t = some .string)
  | 0, _, _, h => by simp [eqT] at h
  | d + 1, t, f, h => by
    intro a b r hf
    unfold eqT at h
    split at h
    · cases h; unfold eqBoolF at hf; split at hf
      · simp
      · cases hf
    · rename_i k hu; cases h; unfold eqIntF at hf; split at hf
      · exact ⟨by simp, by simp, fun _ => ⟨k, hu⟩, by simp⟩
      · cases hf
    · rename_i hu; cases h; unfold eqStrF at hf; split at hf
      · exact ⟨by simp, by simp, by simp, fun _ => hu⟩
      · cases hf
    · rename_i e hu; unfold ptrOk at h
      cases hs : sizeA T e with
      | none => rw [hs] at h; cases h
      | some n =>
        rw [hs] at h
        obtain ⟨_, h⟩ := cond_none h
        cases h
        unfold eqPtrF at hf; split at hf
        · simp
        · cases hf
    · cases h; unfold eqIfaceF at hf; split at hf <;> first | (simp; done) | cases hf
    · obtain ⟨_, h⟩ := cond_some h
      unfold eqStructF at h
      split at h
      · cases h
      · cases h; unfold eqAggF at hf; split at hf <;> first | (simp; done) | cases hf
    · unfold eqArrF at h
      split at h
      · cases h
      · split at h
        · cases h
        · split at h
          · cases h
          · cases h; unfold eqAggF at hf; split at hf <;> first | (simp; done) | cases hf
    · cases h; unfold eqSliceF at hf; split at hf <;> first | (simp; done) | cases hf
    · cases h; unfold eqMapF at hf; split at hf <;> first | (simp; done) | cases hf
    · cases h; unfold eqFuncF at hf; split at hf <;> first | (simp; done) | cases hf
    · cases h

def twoNum : Value → Value → Bool
  | .int _ _, .int _ _ => true
  | .string _, .string _ => true
  | .float _ _, .float _ _ => true
  | .complex _ _ _, .complex _ _ _ => true
  | _, _ => false

theorem binOp_eql_gen (t : TypeId) (v u : Value) (h : twoNum v u = false) : binOp .eql t v u = (do pure (.bool (← Op.equal t v u)) : Sem Value) := by
  cases v <;> cases u <;> first | rfl | (simp [twoNum] at h)
theorem binOp_neq_gen (t : TypeId) (v u : Value) (h : twoNum v u = false) : binOp .neq t v u = (do pure (.bool (!(← Op.equal t v u))) : Sem Value) := by
  cases v <;> cases u <;> first | rfl | (simp [twoNum] at h)

theorem eqGuard_ok (w : World) (P : Program) {op : BinOp} {t : TypeId} {x y : Operand} {a b : AVal} {v u : Value} (ha : VRel φ a v) (hb : VRel φ b u) (ja : a ≠ .junk) (jb : b ≠ .junk)
    (h1 : (isConst x || isConst y || !nilNil a b) = true) (h2 : aggAgg a b = true → P.eqGuardType P.depth t = false) : (eqGuard op t x y v u).run P w = .ok () w := by
  cases op <;> first | rfl | skip
  all_goals
    cases ha <;> cases hb <;> first
      | rfl
      | (exact absurd rfl ja)
      | (exact absurd rfl jb)
      | skip
  case eql.nilIface.nilIface =>
    have h1 : (isConst x || isConst y) = true := by simpa [nilNil] using h1
    cases x <;> cases y <;> first | rfl | (simp [isConst] at h1)
  case neq.nilIface.nilIface =>
    have h1 : (isConst x || isConst y) = true := by simpa [nilNil] using h1
    cases x <;> cases y <;> first | rfl | (simp [isConst] at h1)
  case eql.agg.agg => exact run_eqGuard_agg w .eql t x y _ _ (h2 rfl)
  case neq.agg.agg => exact run_eqGuard_agg w .neq t x y _ _ (h2 rfl)

theorem eqGen_ok (H : T.Ok) (w : World) {op : BinOp} {neg : Bool} (hop : op = if neg then .neq else .eql) {t : TypeId} {x y : Operand} {F : BinF} (h : eqGen T neg t x y = some F)
    (hi : ∀ k, T.underlying t ≠ some (.int k)) (hs : T.underlying t ≠ some .string) {a b r : AVal} {v u : Value} (ha : VRel φ a v) (hb : VRel φ b u) (hf : F a b = some r) :
    ∃ z, (do eqGuard op t x y v u; binOp op t v u : Sem Value).run T.P w = .ok z w ∧ VRel φ r z := by
  unfold eqGen at h
  cases he : eqT T 30 t with
  | none => rw [he] at h; cases h
  | some f =>
    rw [he] at h; cases h
    unfold eqF at hf
    obtain ⟨g1, hf1⟩ := cond_some hf
    obtain ⟨g2, hf2⟩ := cond_some hf1
    cases hc : f a b with
    | none => rw [hc] at hf2; cases hf2
    | some c =>
      rw [hc] at hf2; cases hf2
      obtain ⟨ja, jb, k1, k2⟩ := eqT_shape 30 t f he a b c hc
      have hg := eqGuard_ok (op := op) (t := t) (x := x) (y := y) w T.P ha hb ja jb (by simpa using g1) (fun hagg => by
        rw [hagg] at g2; simp at g2; exact (H.eq t g2).2)
      have hq := eqT_ok H 30 t f he 9970 φ w a b v u c ha hb hc
      have htn : twoNum v u = false := by
        cases ha <;> cases hb <;> first
          | rfl
          | (exact absurd rfl ja)
          | (exact absurd rfl jb)
          | skip
        case int.int => obtain ⟨k, hk⟩ := k1 ⟨_, _, rfl⟩; exact absurd hk (hi k)
        case str.str => exact absurd (k2 ⟨_, rfl⟩) hs
      have hq' : (Op.equal t v u).run T.P w = .ok c w := hq
      cases neg with
      | false =>
        simp at hop; subst hop
        refine ⟨.bool c, ?_, ?_⟩
        · rw [binOp_eql_gen t v u htn]; simp [hg, hq']
        · simp [eqBool]; exact .bool c
      | true =>
        simp at hop; subst hop
        refine ⟨.bool (!c), ?_, ?_⟩
        · rw [binOp_neq_gen t v u htn]; simp [hg, hq']
        · simp [eqBool]; exact .bool (!c)

theorem binT_ok (H : T.Ok) (w : World) {op : BinOp} {t : TypeId} {x y : Operand} {F : BinF} (h : binT T op t x y = some F) {a b r : AVal} {v u : Value} (ha : VRel φ a v) (hb : VRel φ b u) (hf : F a b = some r) :
    ∃ z, (do eqGuard op t x y v u; binOp op t v u : Sem Value).run T.P w = .ok z w ∧ VRel φ r z := by
  unfold binT at h
  split at h
  · cases h; exact binInt_ok w ha hb hf
  · exact binStr_ok w h ha hb hf
  · rename_i n1 n2
    split at h
    · exact eqGen_ok H w (neg := false) rfl h (fun k hk => n1 k hk) n2 ha hb hf
    · exact eqGen_ok H w (neg := true) rfl h (fun k hk => n1 k hk) n2 ha hb hf
    · cases h

theorem unT_ok (w : World) {op : UnOp} {t : TypeId} {F : AVal → Option AVal} (h : unT T op t = some F) {a r : AVal} {v : Value} (ha : VRel φ a v) (hf : F a = some r) :
    ∃ z, (Op.unary op v).run T.P w = .ok z w ∧ VRel φ r z := by
  unfold unT at h
  split at h
  · cases h
    unfold notA at hf
    split at hf
    · cases ha; cases hf; exact ⟨_, by simp [Op.unary], .bool _⟩
    · cases hf
  · split at h
    · rename_i k _
      cases h
      unfold negA at hf
      split at hf
      · rename_i i n
        obtain ⟨h1, hf2⟩ := cond_some hf
        have := kidx_inj h1; subst this
        cases ha; cases hf2
        refine ⟨.int i (i.wrap (0 - n)), by simp [Op.unary, Op.intArith], ?_⟩
        rw [wrapK_eq]; exact .int _ _
      · cases hf
    · cases h
  · split at h
    · rename_i k _
      cases h
      unfold complA at hf
      split at hf
      · rename_i i n
        obtain ⟨h1, hf2⟩ := cond_some hf
        have := kidx_inj h1; subst this
        cases ha; cases hf2
        refine ⟨.int i (i.wrap (BitVec.ofInt i.bits (if i.signed then -1 else i.max) ^^^ BitVec.ofInt i.bits n).toNat), by simp [Op.unary, Op.intBits], ?_⟩
        rw [wrapK_eq, bitsNat_eq, bitsNat_eq, BitVec.toNat_xor]; exact .int _ _
      · cases hf
    · cases h
  · cases h

theorem foldA_max : ∀ (xs : List AVal) (vs : List Value) (k : IntKind) (n : Int) (r : AVal) (w : World) (P : Program), VRels φ xs vs → foldA maxI k n xs = some r → ∃ z, (vs.foldlM Builtin.max2 (.int k n)).run P w = .ok z w ∧ VRel φ r z
  | [], _, k, n, r, w, P, hv, h => by cases hv; simp [foldA] at h; subst h; exact ⟨_, by simp, .int _ _⟩
  | x :: xs, _, k, n, r, w, P, hv, h => by
    cases hv with
    | cons _ v _ vs h1 h2 =>
      unfold foldA at h
      split at h
      · rename_i he; cases he
      · rename_i he; cases he
        cases h1
        rename_i j m
        obtain ⟨z, hz, hr⟩ := foldA_max xs vs k _ r w P h2 h
        refine ⟨z, ?_, hr⟩
        have e : maxI n m = if m > n then m else n := by
          unfold maxI; rw [ltInt_eq']; by_cases hmn : n < m <;> simp [hmn]
        rw [e] at hz
        simpa [Builtin.max2] using hz
      · cases h

theorem foldA_min : ∀ (xs : List AVal) (vs : List Value) (k : IntKind) (n : Int) (r : AVal) (w : World) (P : Program), VRels φ xs vs → foldA minI k n xs = some r → ∃ z, (vs.foldlM Builtin.min2 (.int k n)).run P w = .ok z w ∧ VRel φ r z
  | [], _, k, n, r, w, P, hv, h => by cases hv; simp [foldA] at h; subst h; exact ⟨_, by simp, .int _ _⟩
  | x :: xs, _, k, n, r, w, P, hv, h => by
    cases hv with
    | cons _ v _ vs h1 h2 =>
      unfold foldA at h
      split at h
      · rename_i he; cases he
      · rename_i he; cases he
        cases h1
        rename_i j m
        obtain ⟨z, hz, hr⟩ := foldA_min xs vs k _ r w P h2 h
        refine ⟨z, ?_, hr⟩
        have e : minI n m = if m < n then m else n := by
          unfold minI; rw [ltInt_eq']; by_cases hmn : m < n <;> simp [hmn]
        rw [e] at hz
        simpa [Builtin.min2] using hz
      · cases h

theorem lenT_ok (H : T.Ok) (w : World) {t ty : TypeId} {F : AVal → Option AVal} (h : lenT T t = some F) {a r : AVal} {v : Value} (ha : VRel φ a v) (hf : F a = some r) :
    ∃ z, (Builtin.len_ #[t] ty #[v]).run T.P w = .ok z w ∧ VRel φ r z := by
  unfold lenT at h
  split at h
  · rename_i hu; cases h; have hu := H.under hu
    unfold lenStrF at hf
    split at hf
    · cases ha; cases hf
      rename_i s
      refine ⟨.int .i64 s.size, by simp [Builtin.len_, run_under _ _ hu, goInt], ?_⟩
      have : (Int.ofNat s.data.toList.length) = (s.size : Int) := by simp
      rw [this]; exact .int _ _
    · cases hf
  · rename_i hu; cases h; have hu := H.under hu
    unfold lenSlF at hf
    split at hf
    · cases hf
      cases ha with
      | sliceN => exact ⟨_, by simp [Builtin.len_, run_under _ _ hu, goInt], .int _ _⟩
      | slice => exact ⟨_, by simp [Builtin.len_, run_under _ _ hu, goInt], .int _ _⟩
    · cases hf
  · rename_i n e hu; cases h; have hu := H.under hu
    unfold lenArrF at hf
    cases hf
    exact ⟨.int .i64 n, by simp [Builtin.len_, run_under _ _ hu, goInt], .int _ _⟩
  · rename_i arr hu; have hu := H.under hu
    split at h
    · rename_i n e hu2; cases h; have hu2 := H.under hu2
      cases hf
      exact ⟨.int .i64 n, by simp [Builtin.len_, run_under _ _ hu, run_under _ _ hu2, goInt], .int _ _⟩
    · cases h
  · cases h

end Go.AE

/- Memory: loads, stores, new blocks. -/
namespace Go.AE
set_option autoImplicit false
open Go.RowKit
variable {T : Tab} {φ : Phi} {N0 : Nat} {w0 : World} {h : AHp} {w : World}

/-- The block behind an address. -/
theorem Rel.cells (r : Rel N0 w0 φ h w) {b : Nat} {cs : List AVal} {e : TypeId} {frz soft : Bool} {p : PInfo} (hb : h.get b = some (.cells cs e frz soft)) (hp : φ b = some p) :
    ∃ ccs fr, w.heap[p.blk]? = some (.cells ccs e fr) ∧ CRel φ cs frz soft p ccs fr := r.blk b _ p hb hp

theorem ld_ok (H : T.Ok) (r : Rel N0 w0 φ h w) {t : TypeId} {ag : Option Nat} (hag : aggSize T t = some ag) {a x : AVal} {v : Value} (ha : VRel φ a v)
    (hf : (match ag with | none => ldOne h a | some n => ldAgg n h a) = some x) : ∃ u, (Instr.loadAt t v).run T.P w = .ok u w ∧ VRel φ x u := by
  obtain ⟨h1, h2⟩ := aggSize_run H hag w
  cases ag with
  | none =>
    simp only [ldOne] at hf
    split at hf
    · rename_i b o
      cases ha with
      | ptr _ _ p hp =>
        unfold ldOneB at hf
        split at hf
        · rename_i cs e frz soft hb
          rw [at_eq] at hf
          obtain ⟨ccs, fr, g1, g2⟩ := r.cells hb hp
          obtain ⟨_, u, g3, g4⟩ := g2.cell o x hf
          refine ⟨u, ?_, g4⟩
          simp only [Instr.loadAt, Instr.sureAddr, loadVar, Sem.run_bind, Sem.run_pure, Result.andThen_ok, h1, Option.isSome_none, Bool.false_eq_true, if_false, run_load, cell_of g1, g3]
        · cases hf
    · cases hf
  | some n =>
    simp only [ldAgg] at hf
    split at hf
    · rename_i b o
      cases ha with
      | ptr _ _ p hp =>
        unfold ldAggB at hf
        split at hf
        · rename_i cs e frz soft hb
          cases ht : takeN cs o n with
          | none => rw [ht] at hf; cases hf
          | some l =>
            rw [ht] at hf; cases hf
            obtain ⟨k1, rfl⟩ := takeN_some _ _ _ _ ht
            obtain ⟨ccs, fr, g1, g2⟩ := r.cells hb hp
            obtain ⟨vs, g3, g4, g5⟩ := g2.stretch o n k1
            refine ⟨.agg ⟨vs⟩, ?_, .agg _ _ g3⟩
            have := run_loadCells T.P w p.blk (p.base + o) vs (fun j u hu => by rw [cell_of g1]; exact g5 j u hu)
            rw [g4] at this
            simp only [Instr.loadAt, Instr.sureAddr, loadVar, Sem.run_bind, Sem.run_pure, Result.andThen_ok, h1, Option.isSome_some, if_true, h2 n rfl, this]
        · cases hf
    · cases hf

/-- n cells behind an address. -/
theorem read_ok (r : Rel N0 w0 φ h w) {b o n : Nat} {l : List AVal} {p : PInfo} (hp : φ b = some p) (hf : readB o n (h.get b) = some l) :
    ∃ vs : List Value, VRels φ l vs ∧ vs.length = n ∧ l.length = n ∧ (loadCells ⟨p.blk, p.base + o, none⟩ n).run T.P w = .ok vs.toArray w ∧ (∀ a ∈ l, a.one = true) := by
  unfold readB at hf
  split at hf
  · rename_i cs e frz soft hb
    obtain ⟨k1, rfl⟩ := takeN_some _ _ _ _ hf
    obtain ⟨ccs, fr, g1, g2⟩ := r.cells hb hp
    obtain ⟨vs, g3, g4, g5⟩ := g2.stretch o n k1
    refine ⟨vs, g3, g4, by rw [g3.length, g4], ?_, ?_⟩
    · have := run_loadCells T.P w p.blk (p.base + o) vs (fun j u hu => by rw [cell_of g1]; exact g5 j u hu)
      rw [g4] at this; exact this
    · intro a ha
      have ha := List.mem_of_mem_take ha
      have ha := List.mem_of_mem_drop ha
      obtain ⟨i, hi⟩ := List.mem_iff_getElem?.1 ha
      exact (g2.cell i a hi).1
  · cases hf

theorem roOk_le {b : Nat} (hh : roOk h b = true) : h.ro ≤ b := by
  obtain ⟨tr, n, ro⟩ := h
  exact ble_true hh

/-- A write of cells. -/
theorem write_ok (r : Rel N0 w0 φ h w) {b o : Nat} {p : PInfo} (hp : φ b = some p) {as : List AVal} {vs : List Value} (hv : VRels φ as vs) {h' : AHp} (hf : writeB h b o as (h.get b) = some h') :
    ∃ w', (storeCells ⟨p.blk, p.base + o, none⟩ vs).run T.P w = .ok () w' ∧ Rel N0 w0 φ h' w' ∧ Post φ φ h h' w w' := by
  unfold writeB at hf
  split at hf
  · rename_i cs e soft hb
    obtain ⟨k1, hf⟩ := cond_some hf
    obtain ⟨k2, hf⟩ := cond_some hf
    cases ho : overN cs o as with
    | none => rw [ho] at hf; cases hf
    | some l =>
      rw [ho] at hf; cases hf
      obtain ⟨k3, rfl⟩ := overN_some _ _ _ _ ho
      obtain ⟨ccs, fr, g1, g2⟩ := r.cells hb hp
      have hvl := hv.length
      have hsz : p.base + cs.length ≤ ccs.size := Nat.le_trans (Nat.add_le_add_left g2.len _) g2.room
      have h1 : ∀ v ∈ vs, v.oneCell = true := by
        intro v hvm
        obtain ⟨i, hi⟩ := List.mem_iff_getElem?.1 hvm
        have hlt : i < as.length := by rw [hvl]; exact (List.getElem?_eq_some_iff.1 hi).1
        obtain ⟨u, hu, hr⟩ := hv.get i _ (List.getElem?_eq_getElem hlt)
        rw [hi] at hu; cases hu
        exact hr.one (allOne_mem k2 _ (List.getElem_mem hlt))
      obtain ⟨w', ccs', s1, s2, s3, s4⟩ := run_storeCells T.P p.blk (p.base + o) e fr vs 0 w ccs g1 h1 (by omega) (g2.thaw rfl)
      refine ⟨w', s1, ?_, ?_⟩
      · refine r.upd hb hp rfl (by rw [s2.size]; exact Nat.le_refl _) ⟨s2.os, s2.tape, s2.output, by rw [s2.size]; exact Nat.le_refl _, fun k hk => s2.other k (fun e => ?_)⟩ (fun B _ hB => s2.other B hB) ?_
        · have := r.old b p hp (roOk_le k1); omega
        · refine ⟨ccs', fr, s2.blk, ⟨fun hs => ⟨(g2.hard hs).1, ?_⟩, ?_, ?_, ?_, ?_⟩⟩
          · rw [s3, (g2.hard hs).2]; simp; omega
          · have := g2.len; simp; omega
          · rw [s3]; exact g2.room
          · intro i a hi
            have s4i := s4 (p.base + i)
            by_cases hin : o ≤ i ∧ i < o + as.length
            · rw [if_pos (by omega)] at s4i
              rw [show p.base + i - (p.base + o + 0) = i - o from by omega] at s4i
              rw [List.getElem?_append_right (by simp; omega), List.getElem?_append_left (by simp; omega)] at hi
              simp only [List.length_take] at hi
              rw [show i - min o cs.length = i - o from by omega] at hi
              obtain ⟨u, hu, hr⟩ := hv.get _ a hi
              exact ⟨allOne_mem k2 a (List.mem_of_getElem? hi), u, by rw [s4i, hu], hr⟩
            · rw [if_neg (by omega)] at s4i
              have hi' : cs[i]? = some a := by
                by_cases hlt : i < o
                · rw [List.getElem?_append_left (by simp; omega), List.getElem?_take, if_pos hlt] at hi; exact hi
                · rw [List.getElem?_append_right (by simp; omega), List.getElem?_append_right (by simp; omega), List.getElem?_drop] at hi
                  simp only [List.length_take] at hi
                  rw [show o + as.length + (i - min o cs.length - as.length) = i from by omega] at hi; exact hi
              obtain ⟨q1, u, q2, q3⟩ := g2.cell i a hi'
              exact ⟨q1, u, by rw [s4i]; exact q2, q3⟩
          · intro hfz off hoff
            rw [s3] at hoff
            exact g2.thaw hfz off hoff
      · exact Post.upd hp (by rw [s2.size]; exact Nat.le_refl _) (fun B _ hB => s2.other B hB)
  · cases hf

theorem st_ok (H : T.Ok) (r : Rel N0 w0 φ h w) {t : TypeId} {n : Nat} (hs : sizeA T t = some n) {a x : AVal} {v u : Value} (ha : VRel φ a v) (hx : VRel φ x u) {h' : AHp} (hf : stN n h a x = some h') :
    ∃ w', (Instr.storeAt t v u).run T.P w = .ok () w' ∧ Rel N0 w0 φ h' w' ∧ Post φ φ h h' w w' := by
  unfold stN at hf
  split at hf
  · rename_i b o
    obtain ⟨k1, hf⟩ := cond_some hf
    cases ha with
    | ptr _ _ p hp =>
      have hall : allOne x.cells = true := by
        unfold writeA writeB at hf
        split at hf
        · obtain ⟨_, hf⟩ := cond_some hf
          exact (cond_some hf).1
        · cases hf
      have hv := hx.cells hall
      obtain ⟨w', s1, s2, s3⟩ := write_ok (T := T) r hp hv (show writeB h b o x.cells (h.get b) = some h' from hf)
      refine ⟨w', ?_, s2, s3⟩
      have hl : u.cells.size = n := by
        have := hv.length
        rw [beq_true k1] at this
        simpa using this.symm
      simp only [Instr.storeAt, Instr.sureAddr, storeVar, Sem.run_bind, Sem.run_pure, Result.andThen_ok, sizeA_run H hs, hl, ne_eq, not_true_eq_false, if_false, s1]
  · cases hf

end Go.AE

/- New blocks. -/
namespace Go.AE
set_option autoImplicit false
open Go.RowKit
variable {T : Tab} {φ : Phi} {N0 : Nat} {w0 : World} {h : AHp} {w : World}

theorem VRel.cells' {φ : Phi} {a : AVal} {v : Value} (h : VRel φ a v) : VRels φ a.cells v.cells.toList := by
  cases h <;> first
    | (refine .cons _ _ _ _ ?_ .nil; constructor <;> assumption)
    | (exact .cons _ _ _ _ (by constructor) .nil)
    | skip
  case agg l l' h => exact h
  case junk hv => cases v <;> first | (exact .cons _ _ _ _ (.junk _ hv) .nil) | (simp [Value.oneCell] at hv)

theorem foldl_set (off : Nat) : ∀ (l : List Value) (n : Nat) (cs : Array Value), off + n + l.length ≤ cs.size →
    ((l.zipIdx n).foldl (fun (cs : Array Value) (p : Value × Nat) => cs.setIfInBounds (off + p.2) p.1) cs).size = cs.size ∧
    ∀ j : Nat, ((l.zipIdx n).foldl (fun (cs : Array Value) (p : Value × Nat) => cs.setIfInBounds (off + p.2) p.1) cs)[j]? = if off + n ≤ j ∧ j < off + n + l.length then l[j - (off + n)]? else cs[j]?
  | [], n, cs, _ => ⟨rfl, fun j => by simp; omega⟩
  | v :: l, n, cs, hs => by
    simp only [List.length_cons] at hs
    obtain ⟨h1, h2⟩ := foldl_set off l (n + 1) (cs.setIfInBounds (off + n) v) (by simp; omega)
    simp only [List.zipIdx_cons, List.foldl_cons]
    refine ⟨by rw [h1]; simp, fun j => ?_⟩
    rw [h2 j]
    by_cases hj : off + (n + 1) ≤ j ∧ j < off + (n + 1) + l.length
    · rw [if_pos hj, if_pos (by simp; omega)]
      rw [show j - (off + n) = (j - (off + (n + 1))) + 1 from by omega]; simp
    · rw [if_neg hj]
      by_cases hj2 : j = off + n
      · subst hj2
        rw [if_pos (by simp)]
        rw [Array.getElem?_setIfInBounds_self_of_lt (by omega)]; simp
      · rw [if_neg (by simp; omega)]
        rw [Array.getElem?_setIfInBounds_ne (by omega)]

theorem VRels.getD_len {as : List AVal} {vs : List Value} (h : VRels φ as vs) : as.length = vs.length := h.length

/-- The parts laid into the cells. -/
theorem fill_ok {place : Nat → Option (Nat × Nat)} : ∀ {parts : List (Nat × Value)} {places : List (Nat × Nat)} {vs : List AVal} {cs l : List AVal} {ccs : Array Value},
    parts.map (fun p => place p.1) = places.map some → VRels φ vs (parts.map (·.2)) → VRels φ cs ccs.toList → fillA places vs cs = some l →
    ∃ arr, Instr.fill place ccs parts = some arr ∧ VRels φ l arr.toList
  | [], places, vs, cs, l, ccs, hp, hv, hc, hf => by
    cases hv
    cases places with
    | nil => simp [fillA] at hf; subst hf; exact ⟨ccs, rfl, hc⟩
    | cons _ _ => simp at hp
  | (i, v) :: parts, places, vs, cs, l, ccs, hp, hv, hc, hf => by
    cases hv with
    | cons a _ as _ hav hvs =>
      cases places with
      | nil => simp at hp
      | cons q places =>
        obtain ⟨off, size⟩ := q
        simp only [List.map_cons, List.cons.injEq] at hp
        simp only [fillA] at hf
        obtain ⟨k1, hf⟩ := cond_some hf
        have k1 := beq_true k1
        cases ho : overN cs off a.cells with
        | none => rw [ho] at hf; cases hf
        | some l' =>
          rw [ho] at hf
          simp only [fillO] at hf
          obtain ⟨k2, rfl⟩ := overN_some _ _ _ _ ho
          have hcl := hav.cells'.length
          have hccl := hc.length
          simp only [Array.length_toList] at hcl hccl
          obtain ⟨g1, g2⟩ := foldl_set off v.cells.toList 0 ccs (by simp; omega)
          have e : (v.cells.zipIdx.foldl (fun cs x => match x with | (c, j) => cs.setIfInBounds (off + j) c) ccs) = ((v.cells.toList.zipIdx 0).foldl (fun (cs : Array Value) (p : Value × Nat) => cs.setIfInBounds (off + p.2) p.1) ccs) := by
            rw [← Array.foldl_toList, Array.toList_zipIdx]
          have hc' : VRels φ (cs.take off ++ (a.cells ++ cs.drop (off + a.cells.length))) (v.cells.zipIdx.foldl (fun cs x => match x with | (c, j) => cs.setIfInBounds (off + j) c) ccs).toList := by
            rw [e]
            refine VRels.of_get ?_ (fun j b hb => ?_)
            · simp only [Array.length_toList, g1]; simp; omega
            · rw [Array.getElem?_toList, g2 j]
              by_cases hj : off + 0 ≤ j ∧ j < off + 0 + v.cells.toList.length
              · rw [if_pos hj]
                simp only [Array.length_toList] at hj
                rw [List.getElem?_append_right (by simp; omega), List.getElem?_append_left (by simp; omega)] at hb
                simp only [List.length_take] at hb
                rw [show j - min off cs.length = j - (off + 0) from by omega] at hb
                exact hav.cells'.get _ b hb
              · rw [if_neg hj]
                simp only [Array.length_toList] at hj
                have hb' : cs[j]? = some b := by
                  by_cases hlt : j < off
                  · rw [List.getElem?_append_left (by simp; omega), List.getElem?_take, if_pos hlt] at hb; exact hb
                  · rw [List.getElem?_append_right (by simp; omega), List.getElem?_append_right (by simp; omega), List.getElem?_drop] at hb
                    simp only [List.length_take] at hb
                    rw [show off + a.cells.length + (j - min off cs.length - a.cells.length) = j from by omega] at hb; exact hb
                have := hc.get j b hb'
                rw [Array.getElem?_toList] at this; exact this
          obtain ⟨arr, r1, r2⟩ := fill_ok hp.2 hvs hc' hf
          refine ⟨arr, ?_, r2⟩
          rw [Instr.fill, hp.1]
          simp only []
          rw [if_neg (by simp; omega)]
          exact r1

/-- What an allocation must show: the run lays one block at the heap's end. -/
def AllocOk (P : Program) (φ : Phi) (w : World) (x : ABlk) (k : AKind) (s : Sem Value) : Prop :=
  ∃ obj d v room, s.run P w = .ok v { w with heap := w.heap.push obj, drawn := w.drawn + d } ∧
    ∀ (φ' : Phi) (id : Nat), Phi.le φ φ' → φ' id = some ⟨w.heap.size, 0, room⟩ → ∀ w' : World, w'.heap[w.heap.size]? = some obj → BRel φ' x ⟨w.heap.size, 0, room⟩ w' ∧ VRel φ' (k.val id) v

theorem cells_new {cs : List AVal} {ccs : Array Value} {t : TypeId} (hc : VRels φ cs ccs.toList) (hall : allOne cs = true) {w w' : World} {φ' : Phi} (hle : Phi.le φ φ') (hw : w'.heap[w.heap.size]? = some (.cells ccs t (0, 0))) :
    BRel φ' (.cells cs t false false) ⟨w.heap.size, 0, cs.length⟩ w' := by
  have hl := hc.length
  simp only [Array.length_toList] at hl
  refine ⟨ccs, (0, 0), hw, ⟨fun _ => ⟨rfl, hl.symm⟩, Nat.le_refl _, by simp; omega, fun i a hi => ⟨allOne_mem hall a (List.mem_of_getElem? hi), ?_⟩, fun _ off _ hh => by simp at hh⟩⟩
  obtain ⟨v, h1, h2⟩ := hc.get i a hi
  refine ⟨v, ?_, h2.mono hle⟩
  rw [Array.getElem?_toList] at h1
  simpa using h1

theorem newVar_ok (P : Program) {a : AVal} {v : Value} (ha : VRel φ a v) (hall : allOne a.cells = true) (t : TypeId) : AllocOk P φ w (.cells a.cells t false false) .ptr (do pure (.pointer (some (← newVar t v)))) := by
  refine ⟨.cells v.cells t, 0, .pointer (some ⟨w.heap.size, 0, none⟩), a.cells.length, by simp [newVar, newRow], fun φ' id hle hid w' hw => ⟨cells_new ha.cells' hall hle hw, ?_⟩⟩
  have := VRel.ptr (φ := φ') id 0 _ hid
  simpa [AKind.val] using this

theorem alloc_ok (H : T.Ok) {t : TypeId} {z : AVal} (hz : zeroA T t = some z) (hall : allOne z.cells = true) : AllocOk T.P φ w (.cells z.cells t false false) .ptr (Instr.alloc t true (.tuple #[])) := by
  obtain ⟨v, h1, h2⟩ := zeroA_run H hz φ w
  obtain ⟨obj, d, u, room, g1, g2⟩ := newVar_ok (w := w) T.P h2 hall t
  refine ⟨obj, d, u, room, ?_, g2⟩
  simp only [Instr.alloc, Sem.run_bind, h1, Result.andThen_ok]
  simpa using g1

theorem box_ok (P : Program) {a : AVal} {v : Value} (ha : VRel φ a v) (hall : allOne a.cells = true) (t : TypeId) : AllocOk P φ w (.cells a.cells t false false) .ptr (Instr.box t v) := newVar_ok P ha hall t

theorem makeMap_ok (P : Program) (t : TypeId) : AllocOk P φ w (.map [] 0) .map (Instr.makeMap t none) := by
  refine ⟨.map #[] 0, 0, .map (some w.heap.size), 0, by simp [Instr.makeMap], fun φ' id _ hid w' hw => ⟨⟨#[], hw, .nil⟩, ?_⟩⟩
  have := VRel.map (φ := φ') id _ hid
  simpa [AKind.val] using this

theorem sinfo_some (H : T.Ok) {t : TypeId} {i : SInfo} (h : sinfo T t = some i) (φ : Phi) : T.P.underlying t = some (.slice i.elem) ∧ ∃ ti v, T.P.info? i.elem = some ti ∧ ti.size = i.size ∧ ti.bytes = i.bytes ∧ ti.zero = some v ∧ VRels φ i.zero v.cells.toList ∧
    v.cells.size = i.size ∧ i.zero.length = i.size ∧ i.size ≠ 0 ∧ allOne i.zero = true := by
  unfold sinfo at h
  cases he : elemOfSlice T t with
  | none => rw [he] at h; cases h
  | some e =>
    rw [he] at h
    cases hi : T.info? e with
    | none => simp only [hi] at h; cases h
    | some ti =>
      simp only [hi] at h
      cases hz : zeroA T e with
      | none => rw [hz] at h; cases h
      | some z =>
        rw [hz] at h
        obtain ⟨k0, h⟩ := cond_none h
        obtain ⟨k1, h⟩ := cond_some h
        obtain ⟨k2, h⟩ := cond_some h
        cases h
        unfold zeroA at hz
        rw [hi] at hz
        cases hv : ti.zero with
        | none => simp [hv] at hz
        | some v =>
          simp [hv] at hz
          have hr := (ofV_rel φ 4 v z hz).cells'
          have hl := hr.length
          simp only [Array.length_toList] at hl
          exact ⟨elemSl_under H he, ti, v, H.info hi, rfl, rfl, hv, hr, by rw [← hl]; exact beq_true k1, beq_true k1, beq_false k0, k2⟩

theorem rep_len (z : List AVal) : ∀ n, (repA z n).length = n * z.length
  | 0 => by simp [repA]
  | n + 1 => by simp [repA, rep_len z n, Nat.succ_mul]; omega

theorem rep_all {z : List AVal} (hz : allOne z = true) : ∀ n, allOne (repA z n) = true
  | 0 => rfl
  | n + 1 => allOne_append hz (rep_all hz n)

theorem rep_get {z : List AVal} (hz : z.length ≠ 0) : ∀ (n i : Nat), i < n * z.length → (repA z n)[i]? = z[i % z.length]?
  | 0, i, h => by simp at h
  | n + 1, i, h => by
    simp only [repA]
    by_cases hi : i < z.length
    · rw [List.getElem?_append_left hi, Nat.mod_eq_of_lt hi]
    · rw [List.getElem?_append_right (by omega), rep_get hz n (i - z.length) (by rw [Nat.succ_mul] at h; omega)]
      have := Nat.mod_eq_sub_mod (a := i) (b := z.length) (by omega)
      rw [this]

/-- The zero cells of n elements. -/
theorem zeros_ok {i : SInfo} {v : Value} (hr : VRels φ i.zero v.cells.toList) (hs : i.zero.length = i.size) (h0 : i.size ≠ 0) (n : Nat) (Z : Array Value) (hZ : n * i.size = 0 ∨ Z = v.cells) :
    VRels φ (repA i.zero n) ((Array.range (n * i.size)).map (Z[· % Z.size]!)).toList := by
  have hl := hr.length
  simp only [Array.length_toList] at hl
  refine VRels.of_get (by simp [rep_len, hs]) (fun j a hj => ?_)
  have hjl : j < n * i.size := by
    have := (List.getElem?_eq_some_iff.1 hj).1
    rw [rep_len, hs] at this; exact this
  rw [rep_get (by omega) n j (by rw [hs]; exact hjl)] at hj
  rcases hZ with hZ | hZ
  · omega
  · subst hZ
    obtain ⟨u, hu, hru⟩ := hr.get _ a hj
    refine ⟨u, ?_, hru⟩
    rw [Array.getElem?_toList] at hu ⊢
    obtain ⟨q, hq⟩ := Array.getElem?_eq_some_iff.1 hu
    have e : (Array.range (n * i.size))[j]? = some j := by simp [hjl]
    rw [Array.getElem?_map, e]
    simp only [Option.map_some, Option.some.injEq]
    have hm : j % v.cells.size = j % i.zero.length := by rw [hl]
    rw [hm, getElem!_pos v.cells (j % i.zero.length) q]; exact hq

end Go.AE

/- New slices; aggregates built. -/
namespace Go.AE
set_option autoImplicit false
open Go.RowKit
variable {T : Tab} {φ : Phi} {N0 : Nat} {w0 : World} {h : AHp} {w : World}

theorem slice_val {φ' : Phi} {id B room len cap : Nat} (hid : φ' id = some ⟨B, 0, room⟩) (hl : len ≤ cap) : VRel φ' (AKind.val id (.slice len cap 0)) (.slice (some ⟨B, 0, none⟩) len cap) :=
  .slice id 0 len cap 0 _ 0 cap hid (.inr rfl) hl (Nat.le_refl _) (fun _ => rfl) (fun e => absurd rfl e)

theorem wrap_i64_nat (n : Nat) (h : n ≤ 1000000000) : IntKind.i64.wrap (n : Int) = n := by
  simp [IntKind.wrap, IntKind.bits, IntKind.signed]; omega

theorem buildSlice_ok (H : T.Ok) {t : TypeId} {i : SInfo} (hi : sinfo T t = some i) {len : Nat} (hlen : Nat.ble (Nat.mul len i.size) 1000000 = true) {ps : List (Nat × Value)} {vs : List AVal} (hv : VRels φ vs (ps.map (·.2)))
    {x : ABlk} {k : AKind} (hf : buildSliceF i.elem len (repA i.zero len) (ps.map fun p => (Nat.mul p.1 i.size, i.size)) vs = some (x, k)) :
    AllocOk T.P φ w x k (Instr.buildSlice t len ⟨ps⟩) := by
  obtain ⟨hu, ti, v, h1, h2, h3, h4, h5, h6, h7, h8, h9⟩ := sinfo_some H hi φ
  have hlen := ble_true hlen
  have hlen : len * i.size ≤ 1000000 := hlen
  unfold buildSliceF sliceBlk at hf
  split at hf
  · cases hf
  · rename_i cells hfill
    obtain ⟨hall, hf⟩ := cond_some hf
    cases hf
    let Z : Array Value := if len * i.size = 0 then #[] else v.cells
    have hz := zeros_ok h5 h7 h8 len Z (by
      by_cases h0 : len * i.size = 0
      · exact .inl h0
      · exact .inr (by simp [Z, h0]))
    obtain ⟨arr, g1, g2⟩ := fill_ok (place := fun j => some (j * i.size, i.size)) (parts := ps) (places := ps.map fun p => (Nat.mul p.1 i.size, i.size)) (by simp) hv hz hfill
    refine ⟨.cells arr i.elem, 0, .slice (some ⟨w.heap.size, 0, none⟩) len len, cells.length, ?_, fun φ' id hle hid w' hw => ⟨cells_new g2 hall hle hw, slice_val hid (Nat.le_refl _)⟩⟩
    unfold Instr.buildSlice
    simp only [Sem.run_bind, run_under T.P w hu, Result.andThen_ok, run_size T.P w h1, h2]
    rw [if_neg (by omega)]
    by_cases h0 : len * i.size = 0
    · have hZ : Z = #[] := by simp [Z, h0]
      rw [hZ] at g1
      simp only [h0, if_true, Sem.run_bind, Sem.run_pure, Result.andThen_ok] at g1 ⊢
      simp only [g1]
      simp [newRow]
    · have hZ : Z = v.cells := by simp [Z, h0]
      rw [hZ] at g1
      simp only [if_neg h0, Sem.run_bind, Sem.run_pure, Result.andThen_ok, run_zero T.P w h1 h4, g1]
      simp [newRow]

theorem makeSlice_ok (H : T.Ok) {t : TypeId} {i : SInfo} (hi : sinfo T t = some i) {vs : List AVal} {a b : Value} (hv : VRels φ vs [a, b]) {x : ABlk} {k : AKind} (hf : makeSliceF i vs = some (x, k)) :
    AllocOk T.P φ w x k (Instr.makeSlice t a b) := by
  obtain ⟨hu, ti, v, h1, h2, h3, h4, h5, h6, h7, h8, h9⟩ := sinfo_some H hi φ
  unfold makeSliceF at hf
  split at hf
  · rename_i k1 l k2 c
    cases hv with
    | cons _ _ _ _ ha hv => cases hv with
      | cons _ _ _ _ hb hv =>
        cases ha; cases hb
        unfold makeSliceN at hf
        obtain ⟨g1, hf⟩ := cond_some hf
        obtain ⟨g2, hf⟩ := cond_some hf
        obtain ⟨g3, hf⟩ := cond_some hf
        cases hf
        have g1 := ble_true g1
        have g2 : c * i.bytes ≤ 1000000000 := ble_true g2
        have g3 := ble_true g3
        let Z : Array Value := if c * i.size = 0 then #[] else v.cells
        have hz := zeros_ok h5 h7 h8 c Z (by
          by_cases h0 : c * i.size = 0
          · exact .inl h0
          · exact .inr (by simp [Z, h0]))
        refine ⟨.cells ((Array.range (c * i.size)).map (Z[· % Z.size]!)) i.elem, 0, .slice (some ⟨w.heap.size, 0, none⟩) l c, (repA i.zero c).length, ?_, fun φ' id hle hid w' hw => ⟨cells_new hz (rep_all h9 c) hle hw, slice_val hid g1⟩⟩
        have e1 : IntKind.i64.wrap (Int.ofNat l) = (l : Int) := wrap_i64_nat l (by omega)
        have e2 : IntKind.i64.wrap (Int.ofNat c) = (c : Int) := wrap_i64_nat c g3
        unfold Instr.makeSlice
        simp only [Sem.run_bind, run_under T.P w hu, Result.andThen_ok, asInt, asIntOf, Sem.run_pure, run_info T.P w h1, h3, e1, e2]
        have hb : (i.bytes : Int) * (c : Int) = ((c * i.bytes : Nat) : Int) := by rw [Nat.mul_comm]; simp
        rw [if_neg (by
          simp only [hb, Bool.or_eq_true, decide_eq_true_eq, not_or]
          omega)]
        simp only [Sem.run_bind, run_askRoom, Result.andThen_ok, run_size T.P w h1, h2, Int.toNat_natCast]
        by_cases h0 : c * i.size = 0
        · simp [h0, Z, newRow]
        · simp [h0, Z, newRow, run_zero T.P w h1 h4]
  · cases hf

theorem cellsOfBytes_rel (φ : Phi) : ∀ (l : List UInt8), VRels φ (cellsOfBytes l) (l.map fun b => Value.int .u8 b.toNat)
  | [] => .nil
  | _ :: l => .cons _ _ _ _ (.int _ _) (cellsOfBytes_rel φ l)

theorem cellsOfBytes_len : ∀ (l : List UInt8), (cellsOfBytes l).length = l.length
  | [] => rfl
  | _ :: l => by simp [cellsOfBytes, cellsOfBytes_len l]

theorem cellsOfBytes_all : ∀ (l : List UInt8), allOne (cellsOfBytes l) = true
  | [] => rfl
  | _ :: l => cellsOfBytes_all l

/-- A block of more room than is known: what an append or a conversion makes. -/
theorem soft_new {cs : List AVal} {vs rest : List Value} {t : TypeId} {fr : Nat × Nat} (hc : VRels φ cs vs) (hall : allOne cs = true) {B : Nat} {w' : World} {φ' : Phi} (hle : Phi.le φ φ')
    (hw : w'.heap[B]? = some (.cells ⟨vs ++ rest⟩ t fr)) (hfr : ∀ off, off < vs.length + rest.length → ¬ (fr.1 ≤ off ∧ off < fr.2)) :
    BRel φ' (.cells cs t false true) ⟨B, 0, vs.length + rest.length⟩ w' := by
  have hl := hc.length
  refine ⟨_, fr, hw, CRel.mk (fun e => Bool.noConfusion e) (by simp only []; omega) (by simp) (fun i a hi => ⟨allOne_mem hall a (List.mem_of_getElem? hi), ?_⟩) (fun _ off hoff => hfr off (by simpa using hoff))⟩
  obtain ⟨v, h1, h2⟩ := hc.get i a hi
  refine ⟨v, ?_, h2.mono hle⟩
  have hlt : i < vs.length := (List.getElem?_eq_some_iff.1 h1).1
  simp only [Nat.zero_add]
  rw [show (Array.mk (vs ++ rest))[i]? = (vs ++ rest)[i]? from by rw [← Array.getElem?_toList]]
  rw [List.getElem?_append_left hlt]; exact h1

theorem freeze_push (w : World) (cs : Array Value) (t : TypeId) (d : Nat) : ({ w with heap := w.heap.push (.cells cs t), drawn := d } : World).freeze ⟨w.heap.size, cs.size, none⟩ 1 = { w with heap := w.heap.push (.cells cs t (cs.size, cs.size + 1)), drawn := d } := by
  simp [World.freeze]
  apply Array.ext
  · simp
  · intro i h1 h2
    simp only [Array.getElem_modify, Array.getElem_push]
    by_cases hi : i < w.heap.size
    · have : ¬ w.heap.size = i := by omega
      simp [hi, this]
    · have : w.heap.size = i := by simp at h1; omega
      simp [this]

theorem isU8_under (H : T.Ok) {e : TypeId} (h : isU8 T e = true) : T.P.underlying e = some (.int .u8) := by
  unfold isU8 at h
  split at h
  · rename_i hu; exact H.under hu
  · cases h

theorem toBytes_ok (H : T.Ok) {src dst e : TypeId} (hs : T.P.underlying src = some .string) (hd : T.P.underlying dst = some (.slice e)) (he : isU8 T e = true) {vs : List AVal} {v : Value} (hv : VRels φ vs [v]) {x : ABlk} {k : AKind}
    (hf : toBytesF e vs = some (x, k)) : ∃ obj d u room, (convert src dst v).run T.P w = .ok u { w with heap := w.heap.push obj, drawn := w.drawn + d } ∧
    ∀ (φ' : Phi) (id : Nat), Phi.le φ φ' → φ' id = some ⟨w.heap.size, 0, room⟩ → ∀ w' : World, w'.heap[w.heap.size]? = some obj → BRel φ' x ⟨w.heap.size, 0, room⟩ w' ∧ VRel φ' (k.val id) u := by
  unfold toBytesF at hf
  split at hf
  · rename_i s
    obtain ⟨g1, hf⟩ := cond_some hf
    cases hf
    have g1 := ble_true g1
    cases hv with
    | cons _ _ _ _ ha hv =>
      cases hv
      cases ha with
      | str s =>
        have hus := isU8_under H he
        have hsz : s.data.toList.length = s.size := by simp
        have run1 : (convert src dst (.string s)).run T.P w = (Conv.stringToBytes e s).run T.P w := by
          simp only [convert, Sem.run_bind, run_under T.P w hs, run_under T.P w hd, Result.andThen_ok, run_under T.P w hus]
        let cap := (Question.appendCap s.size 0 e).cut (w.tape w.drawn (Question.appendCap s.size 0 e))
        have hcap : s.size ≤ cap := by simp [cap, Question.cut]
        let cs : Array Value := (s.data.map fun b => Value.int .u8 b.toNat) ++ Array.replicate (cap - s.size) (.int .u8 0)
        have hcs : cs = ⟨(s.data.toList.map fun b => Value.int .u8 b.toNat) ++ List.replicate (cap - s.size) (Value.int .u8 0)⟩ := by
          apply Array.ext'; simp [cs]
        have hcsz : cs.size = cap := by
          have : s.data.size = s.size := rfl
          simp [cs, this]; omega
        refine ⟨.cells cs e (cs.size, cs.size + 1), 1, .slice (some ⟨w.heap.size, 0, none⟩) s.size cap, cap, ?_, fun φ' id hle hid w' hw => ⟨?_, ?_⟩⟩
        · rw [run1]
          unfold Conv.stringToBytes
          simp only [Sem.run_bind, run_choose, Question.forced, Bool.false_eq_true, if_false, Result.andThen_ok, newRow, run_newObj, Sem.run_pure, markStringish, run_shape, World.shape?]
          have e2 : (w.heap.push (Obj.cells cs e))[w.heap.size]? = some (Obj.cells cs e) := by simp
          simp only [cs, cap] at e2 ⊢
          rw [e2]
          simp only [run_freeze, Result.andThen_ok]
          have := freeze_push w cs e (w.drawn + 1)
          simp only [cs, cap] at this
          rw [this]
        · rw [hcs] at hw
          have hl : (s.data.toList.map fun b => Value.int .u8 b.toNat).length + (List.replicate (cap - s.size) (Value.int .u8 0)).length = cap := by simp; omega
          have := soft_new (cellsOfBytes_rel φ s.data.toList) (cellsOfBytes_all _) hle hw (fun off hoff => by rw [hl] at hoff; rw [← hcs, hcsz]; simp; omega)
          rw [hl] at this; exact this
        · simp only [AKind.val, hsz]
          exact .slice id 0 s.size s.size 1 _ 0 cap hid (.inr rfl) (Nat.le_refl _) hcap (fun e => by cases e) (fun _ => by simp)
  · cases hf

/- AGGREGATES BUILT -/
theorem placesM (H : T.Ok) : ∀ {fs : List Field} {l : List (Nat × Nat)}, mapA (fieldPlace1 T) fs = some l → fs.mapM (fun f => (T.P.info? f.type).map fun i => (f.offset, i.size)) = some l
  | [], l, h => by simp [mapA] at h; subst h; rfl
  | f :: fs, l, h => by
    obtain ⟨y, ys, h1, h2, rfl⟩ := mapA_cons h
    have ih := placesM H h2
    unfold fieldPlace1 sizeA at h1
    cases hi : T.info? f.type with
    | none => simp [hi] at h1
    | some i =>
      simp [hi] at h1
      subst h1
      simp [List.mapM_cons, H.info hi, ih]

theorem build_ok (H : T.Ok) {t : TypeId} {z : AVal} {pf : Nat → Option (Nat × Nat)} {ps : List (Nat × Value)} {pl : List (Nat × Nat)} (hz : zeroA T t = some z) (hpf : placesOf T t = some pf)
    (hp : mapA (fun p : Nat × Value => pf p.1) ps = some pl) {r : AVal} {vs : List AVal} (hv : VRels φ vs (ps.map (·.2))) (hf : buildF z.cells pl vs = some r) (w : World) :
    ∃ u, (Instr.build t ⟨ps⟩).run T.P w = .ok u w ∧ VRel φ r u := by
  unfold buildF at hf
  cases hfill : fillA pl vs z.cells with
  | none => rw [hfill] at hf; cases hf
  | some l =>
    rw [hfill] at hf; cases hf
    unfold zeroA at hz
    cases hi : T.info? t with
    | none => simp [hi] at hz
    | some ti =>
      cases hzv : ti.zero with
      | none => simp [hi, hzv] at hz
      | some zv =>
        simp [hi, hzv] at hz
        have hzr := (ofV_rel φ 4 zv z hz).cells'
        have hpl : ps.map (fun p => pf p.1) = pl.map some := by
          obtain ⟨k1, k2⟩ := mapA_some hp
          apply List.ext_getElem?
          intro i
          rw [List.getElem?_map, List.getElem?_map]
          cases hpi : ps[i]? with
          | none =>
            have : pl[i]? = none := by rw [List.getElem?_eq_none_iff] at hpi ⊢; omega
            simp [this]
          | some p => obtain ⟨y, hy, hfy⟩ := k2 i p hpi; simp [hy, hfy]
        obtain ⟨arr, g1, g2⟩ := fill_ok (place := pf) hpl hv hzr hfill
        refine ⟨.agg arr, run_build w t ⟨ps⟩ arr ?_, .agg _ _ g2⟩
        unfold placesOf at hpf
        unfold Program.built
        rw [H.info hi]
        split at hpf
        · rename_i fields hu
          rw [H.under hu]
          cases hm : mapA (fieldPlace1 T) fields.toList with
          | none => simp [hm] at hpf
          | some pls =>
            simp only [hm, Option.some.injEq] at hpf
            simp only [hzv, placesM H hm]
            subst hpf
            have : (fun i => (pls.toArray : Array (Nat × Nat))[i]?) = nth pls := by
              funext i; rw [nth_eq]; simp
            rw [this]; exact g1
        · rename_i n e hu
          rw [H.under hu]
          cases hs : sizeA T e with
          | none => simp [hs] at hpf
          | some size =>
            simp only [hs, Option.some.injEq] at hpf
            unfold sizeA at hs
            cases hie : T.info? e with
            | none => simp [hie] at hs
            | some ie =>
              simp [hie] at hs
              simp only [hzv, H.info hie, hs]
              subst hpf
              exact g1
        · cases hpf

end Go.AE

/- What reads memory without a change. -/
namespace Go.AE
set_option autoImplicit false
open Go.RowKit Go.Lib
variable {T : Tab} {φ : Phi} {N0 : Nat} {w0 : World} {h : AHp} {w : World}

theorem byteOf_some {a : AVal} {b : UInt8} (hh : byteOf a = some b) : ∃ n, a = .int .u8 (.ofNat n) ∧ b = UInt8.ofNat n := by
  unfold byteOf at hh
  split at hh
  · rename_i n; cases hh; exact ⟨n, rfl, rfl⟩
  · cases hh

/-- Bytes as cells, read. -/
theorem bytes_rel : ∀ {cs : List AVal} {vs : List Value} {l : List UInt8}, VRels φ cs vs → bytesOfCells cs = some l → ∃ xs : List Int, vs = xs.map (Value.int .u8) ∧ l = xs.map fun n => UInt8.ofNat n.toNat
  | _, _, l, .nil, hb => by simp [bytesOfCells, mapA] at hb; subst hb; exact ⟨[], rfl, rfl⟩
  | _, _, l, .cons a v as vs ha hr, hb => by
    obtain ⟨y, ys, h1, h2, rfl⟩ := mapA_cons hb
    obtain ⟨n, rfl, rfl⟩ := byteOf_some h1
    obtain ⟨xs, rfl, rfl⟩ := bytes_rel hr h2
    cases ha
    exact ⟨(n : Int) :: xs, rfl, by simp⟩

/-- n elements of 'size' cells behind a slice's address. -/
theorem readA_ok (r : Rel N0 w0 φ h w) {a : Option (Nat × Nat)} {len cap soft : Nat} {base : Option Addr} {cap' : Nat} (hv : VRel φ (.slice a len cap soft) (.slice base len cap')) {n : Nat} (hn : n ≠ 0 → len ≠ 0) {l : List AVal}
    (hf : readA h a n = some l) : ∃ vs : List Value, VRels φ l vs ∧ vs.length = n ∧ (∀ b, base = some b → (loadCells b n).run T.P w = .ok vs.toArray w) ∧ (base = none → n = 0) ∧ (∀ x ∈ l, x.one = true) := by
  unfold readA at hf
  by_cases h0 : n = 0
  · subst h0
    simp at hf; subst hf
    exact ⟨[], .nil, rfl, fun b _ => by simp [loadCells, loadCellsFrom], fun _ => rfl, by simp⟩
  · have hb : Nat.beq n 0 = false := by
      cases hb : Nat.beq n 0 with
      | false => rfl
      | true => exact absurd (beq_true hb) h0
    rw [hb] at hf
    cases hv with
    | sliceN => cases hf
    | slice b o _ _ _ p off _ hp h1 h2 h3 h4 h5 =>
      simp only [cond_false] at hf
      have hl := hn h0
      have ho : off = p.base + o := by rcases h1 with h1 | h1 <;> omega
      subst ho
      obtain ⟨vs, g1, g2, g3, g4, g5⟩ := read_ok (T := T) r hp hf
      exact ⟨vs, g1, g2, fun b hb => (by cases hb; exact g4), fun hb => (by cases hb), g5⟩

theorem toStr_ok (H : T.Ok) (r : Rel N0 w0 φ h w) {src dst e : TypeId} (hs : T.P.underlying src = some (.slice e)) (hd : T.P.underlying dst = some .string) (he : isU8 T e = true) {a x : AVal} {v : Value} (ha : VRel φ a v)
    (hf : toStrF h a = some x) : ∃ u, (convert src dst v).run T.P w = .ok u w ∧ VRel φ x u := by
  have hu := isU8_under H he
  unfold toStrF at hf
  split at hf
  · rename_i ad len cap soft
    unfold bytesO at hf
    split at hf
    · cases hf
    · rename_i cs hcs
      unfold strO at hf
      split at hf
      · cases hf
      · rename_i s hsb
        cases hf
        have key : ∃ base cap', v = .slice base len cap' := by cases ha <;> exact ⟨_, _, rfl⟩
        obtain ⟨base, cap', rfl⟩ := key
        obtain ⟨vs, g1, g2, g3, g4, g5⟩ := readA_ok (T := T) r ha (fun h => h) hcs
        obtain ⟨xs, rfl, rfl⟩ := bytes_rel g1 hsb
        cases base with
        | none =>
          have hl := g4 rfl
          have : xs = [] := by
            have : xs.length = 0 := by simpa [hl] using g2
            exact List.length_eq_zero_iff.1 this
          subst this
          exact ⟨_, run_convert_bytes_nil w src e hs hu _ _ dst hd, .str ByteArray.empty⟩
        | some b =>
          have g3 := g3 b rfl
          refine ⟨.string (strOfNums xs), ?_, ?_⟩
          · rw [run_convert_bytes_string w src dst e _ len cap' hs hu hd, run_bytesToString w b len cap' xs g3, foldl_push_bytes]
            simp [strOfNums, ByteArray.empty, ByteArray.emptyWithCapacity]
            rfl
          · have := VRel.str (φ := φ) (strOfNums xs)
            rw [strOfNums_data] at this
            exact this
  · cases hf

theorem toUnsafe_ok (H : T.Ok) (r : Rel N0 w0 φ h w) {src dst t : TypeId} (hs : T.P.underlying src = some (.pointer t)) (hd : T.P.underlying dst = some .unsafePointer) (ht : Nat.beq ((sizeA T t).getD 0) 0 = false) {a x : AVal} {v : Value} (ha : VRel φ a v)
    (hf : toUnsafeF h a = some x) : ∃ u, (convert src dst v).run T.P w = .ok u w ∧ VRel φ x u := by
  unfold toUnsafeF at hf
  split at hf
  · rename_i b o
    unfold unsafeB at hf
    split at hf
    · rename_i cs e frz hb
      obtain ⟨k1, hf⟩ := cond_some hf
      cases hf
      cases ha with
      | ptr _ _ p hp =>
        obtain ⟨ccs, fr, g1, g2⟩ := r.cells hb hp
        obtain ⟨q1, q2⟩ := g2.hard rfl
        unfold sizeA at ht
        cases hi : T.info? t with
        | none => simp [hi] at ht
        | some j =>
          simp [hi] at ht
          refine ⟨_, run_to_unsafe w ⟨p.blk, p.base + o, none⟩ hs hd (H.info hi) (beq_false ht) (e := e) (cells := ccs.size) (by simp [World.shape?, g1]) ?_, .ptr b o p hp⟩
          have := blt_true k1
          simp; omega
    · cases hf
  · cases hf

theorem ofUnsafe_ok (H : T.Ok) (r : Rel N0 w0 φ h w) {src dst t : TypeId} (hs : T.P.underlying src = some .unsafePointer) (hd : T.P.underlying dst = some (.pointer t)) (ht : (sizeA T t).isSome = true) {a x : AVal} {v : Value} (ha : VRel φ a v)
    (hf : ofUnsafeF T t h a = some x) : ∃ u, (convert src dst v).run T.P w = .ok u w ∧ VRel φ x u := by
  unfold ofUnsafeF at hf
  split at hf
  · rename_i b o
    unfold ofUnsafeB at hf
    split at hf
    · rename_i cs e frz hb
      obtain ⟨k1, hf⟩ := cond_some hf
      cases hf
      cases ha with
      | ptr _ _ p hp =>
        obtain ⟨ccs, fr, g1, g2⟩ := r.cells hb hp
        obtain ⟨q1, q2⟩ := g2.hard rfl
        unfold sizeA at ht
        cases hi : T.info? t with
        | none => simp [hi] at ht
        | some j =>
          refine ⟨_, run_from_unsafe w ⟨p.blk, p.base + o, none⟩ hs hd (H.info hi) (e := e) (cells := ccs.size) (by simp [World.shape?, g1]) ?_, .ptr b o p hp⟩
          have := H.lies _ _ _ _ k1
          simp only [q1, q2, Nat.zero_add]; exact this
    · cases hf
  · cases hf

theorem MRel.length {es : List (AVal × AVal × Nat)} {es' : List MapEntry} (hm : MRel φ es es') : es'.length = es.length := by
  induction hm <;> simp_all

theorem run_getMap (P : Program) {B : Nat} {ces : Array MapEntry} {clock : Nat} (h : w.heap[B]? = some (.map ces clock)) : (getObj B).run P w = .ok (.map ces clock) w := by
  simp [getObj, Sem.run, h]

theorem lenMap_ok (H : T.Ok) (r : Rel N0 w0 φ h w) {t ty : TypeId} (ht : isMapT T t = true) {a x : AVal} {v : Value} (ha : VRel φ a v) (hf : lenMapF h a = some x) : ∃ u, (Builtin.len_ #[t] ty #[v]).run T.P w = .ok u w ∧ VRel φ x u := by
  unfold isMapT at ht
  split at ht
  · rename_i k e hu
    have hu := H.under hu
    unfold lenMapF at hf
    split at hf
    · cases hf; cases ha
      exact ⟨.int .i64 0, by simp [Builtin.len_, run_under _ _ hu, goInt], .int _ _⟩
    · unfold lenMapB at hf
      split at hf
      · rename_i es clock hb
        cases hf
        cases ha with
        | map _ p hp =>
          obtain ⟨ces, g1, g2⟩ := r.blk _ _ p hb hp
          refine ⟨.int .i64 ces.size, by simp [Builtin.len_, run_under _ _ hu, goInt, run_getMap _ g1], ?_⟩
          have := g2.length
          rw [← this]
          simpa using VRel.int (φ := φ) .i64 (ces.size : Int)
      · cases hf
    · cases hf
  · cases ht

/- MAPS -/
theorem sameNow_eq {kind : TypeDesc} {kt : TypeId} (hu : T.P.underlying kt = some kind) {n : Nat} {v u : Value} {b c : Bool} (h1 : Instr.sameNow kind v u = some c) (h2 : (Op.equalIn (n + 1) kt v u).run T.P w = .ok b w) : c = b := by
  unfold Instr.sameNow at h1
  split at h1
  · rename_i k a k' b'
    by_cases hk : k = k'
    · subst hk
      simp [Op.equalIn, run_under _ _ hu] at h2
      simp at h1; rw [← h1, ← h2]
    · simp [hk] at h1
  · simp [Op.equalIn, run_under _ _ hu] at h2
    simp at h1; rw [← h1, ← h2]
  · simp [Op.equalIn, run_under _ _ hu] at h2
    simp at h1; rw [← h1, ← h2]
  · cases h1

/-- What a search in a map finds. -/
def Found (φ : Phi) (es : List (AVal × AVal × Nat)) (i : Nat) : Option (Nat × AVal) → Option (Nat × Value) → Prop
  | none, none => True
  | some (j, a), some (j', v) => j = j' ∧ VRel φ a v ∧ i ≤ j ∧ ∃ k n, es[j - i]? = some (k, a, n)
  | _, _ => False

theorem Found.step {es : List (AVal × AVal × Nat)} {e : AVal × AVal × Nat} {i : Nat} {r : Option (Nat × AVal)} {r' : Option (Nat × Value)} (h : Found φ es (i + 1) r r') : Found φ (e :: es) i r r' := by
  cases r with
  | none => cases r' <;> exact h
  | some p =>
    cases r' with
    | none => exact h
    | some q =>
      obtain ⟨h1, h2, h3, k, n, h4⟩ := h
      refine ⟨h1, h2, by omega, k, n, ?_⟩
      rw [show p.1 - i = (p.1 - (i + 1)) + 1 from by omega]
      simpa using h4

theorem findAsking_ok {eq : EqF} {kt : TypeId} (heq : EqOk T 30 kt eq) {k : AVal} {kv : Value} (hk : VRel φ k kv) : ∀ {es : List (AVal × AVal × Nat)} {ces : List MapEntry} {i : Nat} {r : Option (Nat × AVal)}, MRel φ es ces → findKeyA eq k es i = some r →
    ∃ r', (Instr.findAsking kt kv ces i).run T.P w = .ok r' w ∧ Found φ es i r r'
  | _, _, i, r, .nil, hf => by
    simp [findKeyA] at hf; subst hf
    exact ⟨none, by simp [Instr.findAsking], trivial⟩
  | _, _, i, r, .cons a b n a' b' es es' ha hb hm, hf => by
    simp only [findKeyA] at hf
    cases he : eq k a with
    | none => rw [he] at hf; cases hf
    | some c =>
      have hc := heq 9970 φ w k a kv a' c hk ha he
      have hc : (Op.equal kt kv a').run T.P w = .ok c w := hc
      rw [he] at hf
      cases c with
      | true =>
        simp only [Option.some.injEq] at hf; subst hf
        exact ⟨some (i, b'), by simp [Instr.findAsking, hc], rfl, hb, Nat.le_refl _, a, n, by simp⟩
      | false =>
        obtain ⟨r', h1, h2⟩ := findAsking_ok heq hk hm hf
        exact ⟨r', by simp [Instr.findAsking, hc, h1], h2.step⟩

theorem findNow_ok {eq : EqF} {kt : TypeId} {kind : TypeDesc} (hu : T.P.underlying kt = some kind) (heq : EqOk T 30 kt eq) (w : World) {k : AVal} {kv : Value} (hk : VRel φ k kv) : ∀ {es : List (AVal × AVal × Nat)} {ces : List MapEntry} {i : Nat} {r : Option (Nat × AVal)} {r' : Option (Nat × Value)}, MRel φ es ces → findKeyA eq k es i = some r →
    Instr.findNow kind kv ces i = some r' → Found φ es i r r'
  | _, _, i, r, r', .nil, hf, hn => by
    simp [findKeyA] at hf; subst hf
    simp [Instr.findNow] at hn; subst hn; trivial
  | _, _, i, r, r', .cons a b n a' b' es es' ha hb hm, hf, hn => by
    simp only [findKeyA] at hf
    cases he : eq k a with
    | none => rw [he] at hf; cases hf
    | some c =>
      have hc := heq 9970 φ w k a kv a' c hk ha he
      simp only [Instr.findNow] at hn
      cases hs : Instr.sameNow kind kv a' with
      | none => simp [hs] at hn
      | some c' =>
        have := sameNow_eq hu hs hc
        subst this
        rw [he] at hf
        simp only [hs] at hn
        cases c' with
        | true =>
          simp only [Option.some.injEq] at hf hn; subst hf; subst hn
          exact ⟨rfl, hb, Nat.le_refl _, a, n, by simp⟩
        | false => exact (findNow_ok hu heq w hk hm hf hn).step

theorem findKey_ok {eq : EqF} {kt : TypeId} {kind : TypeDesc} (hu : T.P.underlying kt = some kind) (heq : EqOk T 30 kt eq) {k : AVal} {kv : Value} (hk : VRel φ k kv) {es : List (AVal × AVal × Nat)} {ces : List MapEntry} {r : Option (Nat × AVal)} (hm : MRel φ es ces) (hf : findKeyA eq k es 0 = some r) :
    ∃ r', (Instr.findKey kt kv ces).run T.P w = .ok r' w ∧ Found φ es 0 r r' := by
  unfold Instr.findKey
  simp only [Sem.run_bind, run_under _ _ hu, Result.andThen_ok]
  cases hn : Instr.findNow kind kv ces 0 with
  | none => exact findAsking_ok heq hk hm hf
  | some r' => exact ⟨r', by simp, findNow_ok hu heq w hk hm hf hn⟩

theorem mapTypes_some (H : T.Ok) {t et : TypeId} {eq : EqF} (h : mapTypes T t = some (eq, et)) : ∃ kt, T.P.underlying t = some (.map kt et) ∧ plainKey T kt = true ∧ eqT T 30 kt = some eq ∧ EqOk T 30 kt eq := by
  unfold mapTypes at h
  split at h
  · rename_i k e hu
    obtain ⟨h1, h⟩ := cond_some h
    split at h
    · cases h
    · rename_i f hf
      cases h
      exact ⟨k, H.under hu, h1, hf, eqT_ok H 30 k _ hf⟩
  · cases h

theorem plainT_check (H : T.Ok) {t : TypeId} (h : plainT T t = true) (empty : Bool) (n : Nat) (v : Value) : (Instr.checkKey empty (n + 1) t v).run T.P w = .ok () w := by
  unfold plainT at h
  split at h
  · rename_i k hu; simp [Instr.checkKey, run_under _ _ (H.under hu)]
  · rename_i hu; simp [Instr.checkKey, run_under _ _ (H.under hu)]
  · rename_i hu; simp [Instr.checkKey, run_under _ _ (H.under hu)]
  · cases h

end Go.AE

/- Maps: keys, what is looked up, what is written. -/
namespace Go.AE
set_option autoImplicit false
open Go.RowKit Go.Lib
variable {T : Tab} {φ : Phi} {N0 : Nat} {w0 : World} {h : AHp} {w : World}

theorem eqParts_true (H : T.Ok) {eq : TypeId → Option EqF} {xs : List AVal} {vs : List Value} (hx : VRels φ xs vs) (w : World) : ∀ {fs : List Field} {l : List (Option (Nat × Option Nat × EqF))}, mapA (eqField1 T eq) fs = some l → eqParts xs xs (allSome l) = some true →
    ∀ f ∈ fs, f.name ≠ "_" → ∃ v, (part f.type ⟨vs⟩ f.offset).run T.P w = .ok v w
  | [], l, hl, hr => by simp
  | f :: fs, l, hl, hr => by
    obtain ⟨y, l', h1, h2, rfl⟩ := mapA_cons hl
    unfold eqField1 at h1
    by_cases hn : f.name ≠ "_"
    · rw [if_pos hn] at h1
      obtain ⟨ag, F, e1, e2, rfl⟩ := someF_some h1
      simp only [allSome, eqParts] at hr
      cases ha : partR ag f.offset xs with
      | none => rw [ha] at hr; cases hr
      | some a =>
        rw [ha] at hr
        simp only [] at hr
        obtain ⟨v, p1, p2⟩ := part_ok H w e1 hx ha
        cases hab : F a a with
        | none => rw [hab] at hr; cases hr
        | some c =>
          rw [hab] at hr
          cases c with
          | true =>
            intro g hg hgn
            cases hg with
            | head => exact ⟨v, p1⟩
            | tail _ hg => exact eqParts_true H hx w h2 hr g hg hgn
          | false => cases hr
    · rw [if_neg hn] at h1; cases h1
      intro g hg hgn
      cases hg with
      | head => exact absurd hgn hn
      | tail _ hg => exact eqParts_true H hx w h2 hr g hg hgn

theorem fields_check {P : Program} {w : World} {g : Field → Sem Unit} : ∀ (l : List Field), (∀ f ∈ l, f.name ≠ "_" → (g f).run P w = .ok () w) →
    (forIn l PUnit.unit (fun f _ => if f.name ≠ "_" then (do g f; pure (ForInStep.yield PUnit.unit)) else pure (ForInStep.yield PUnit.unit)) : Sem PUnit).run P w = .ok () w
  | [], _ => by simp
  | f :: l, hl => by
    simp only [List.forIn_cons]
    by_cases hn : f.name ≠ "_"
    · simp only [if_pos hn, Sem.run_bind, hl f (by simp) hn, Result.andThen_ok, Sem.run_pure]
      exact fields_check l (fun f hf => hl f (by simp [hf]))
    · simp only [if_neg hn, Sem.run_bind, Result.andThen_ok, Sem.run_pure]
      exact fields_check l (fun f hf => hl f (by simp [hf]))

theorem key_check (H : T.Ok) {kt : TypeId} {eq : EqF} (hp : plainKey T kt = true) (he : eqT T 30 kt = some eq) {k : AVal} (hk : keyOk eq k = true) {kv : Value} (hv : VRel φ k kv) (empty : Bool) : (Instr.checkKey empty 10000 kt kv).run T.P w = .ok () w := by
  unfold plainKey at hp
  split at hp
  · rename_i fs hu
    unfold keyOk at hk
    split at hk
    · rename_i hkk
      simp only [eqT, hu] at he
      obtain ⟨_, he⟩ := cond_some he
      unfold eqStructF at he
      split at he
      · cases he
      · rename_i l hl
        cases he
        unfold eqAggF at hkk
        split at hkk
        · rename_i xs ys
          rename_i h1
          cases hv with
          | agg _ vs hvs =>
            have key := eqParts_true H hvs w hl hkk
            have := fields_check (P := T.P) (w := w) (g := fun f => do Instr.checkKey empty 9999 f.type (← part f.type ⟨vs⟩ f.offset)) fs.toList (fun f hf hn => by
              obtain ⟨v, hv⟩ := key f hf hn
              have hpl : plainT T f.type = true := by
                rw [List.all_eq_true] at hp; exact hp f hf
              simp only [Sem.run_bind, hv, Result.andThen_ok]
              exact plainT_check H hpl empty 9998 v)
            rw [show (10000 : Nat) = 9999 + 1 from rfl, Instr.checkKey]
            simp only [Sem.run_bind, run_under _ _ (H.under hu), Result.andThen_ok]
            rw [← Array.forIn_toList]
            simp at this ⊢
            rw [this]; rfl
        · cases hkk
    · cases hk
  · exact plainT_check H hp empty 9999 kv

/-- The entries behind a map value. -/
theorem entries_ok (r : Rel N0 w0 φ h w) {m : AVal} {mv : Value} (hm : VRel φ m mv) {es : List (AVal × AVal × Nat)} (he : entriesA h m = some es) :
    (mv = .map none ∧ es = []) ∨ ∃ B ces clock, mv = .map (some B) ∧ w.heap[B]? = some (.map ces clock) ∧ MRel φ es ces.toList := by
  unfold entriesA at he
  split at he
  · cases he; cases hm; exact .inl ⟨rfl, rfl⟩
  · unfold entriesB at he
    split at he
    · rename_i es' clock hb
      cases he
      cases hm with
      | map _ p hp =>
        obtain ⟨ces, g1, g2⟩ := r.blk _ _ p hb hp
        exact .inr ⟨p.blk, ces, clock, rfl, g1, g2⟩
    · cases he
  · cases he

theorem lookup_ok (H : T.Ok) (r : Rel N0 w0 φ h w) {t et : TypeId} {eq : EqF} (ht : mapTypes T t = some (eq, et)) {z : AVal} (hz : zeroA T et = some z) {ok : Bool} {m k x : AVal} {mv kv : Value} (hm : VRel φ m mv) (hk : VRel φ k kv)
    (hf : lookupF eq z ok h m k = some x) : ∃ u, (Instr.lookup t mv kv ok).run T.P w = .ok u w ∧ VRel φ x u := by
  obtain ⟨kt, hu, hp, het, heq⟩ := mapTypes_some H ht
  obtain ⟨zv, hz1, hz2⟩ := zeroA_run H hz φ w
  obtain ⟨kind, hkind⟩ : ∃ kind, T.P.underlying kt = some kind := by
    unfold plainKey at hp
    split at hp
    · rename_i fs hu; exact ⟨_, H.under hu⟩
    · unfold plainT at hp
      split at hp
      · rename_i hu; exact ⟨_, H.under hu⟩
      · rename_i hu; exact ⟨_, H.under hu⟩
      · rename_i hu; exact ⟨_, H.under hu⟩
      · cases hp
  unfold lookupF lookIn at hf
  split at hf
  · cases hf
  · rename_i es hes
    obtain ⟨hko, hf⟩ := cond_some hf
    have fin : ∀ (ces : Array MapEntry), MRel φ es ces.toList → ∃ r', (Instr.findKey kt kv ces.toList).run T.P w = .ok r' w ∧ ((r' = none ∧ x = okO ok z false) ∨ ∃ j v a, r' = some (j, v) ∧ VRel φ a v ∧ x = okO ok a true) := by
      intro ces hces
      cases hfk : findKeyA eq k es 0 with
      | none => rw [hfk] at hf; cases hf
      | some res =>
        rw [hfk] at hf
        obtain ⟨r', g1, g2⟩ := findKey_ok (w := w) hkind heq hk hces hfk
        refine ⟨r', g1, ?_⟩
        cases res with
        | none =>
          cases r' with
          | some _ => exact g2.elim
          | none => simp only [foundO, Option.some.injEq] at hf; exact .inl ⟨rfl, hf.symm⟩
        | some p =>
          obtain ⟨j, a⟩ := p
          cases r' with
          | none => exact g2.elim
          | some q =>
            obtain ⟨j', v⟩ := q
            obtain ⟨_, hav, _⟩ := g2
            simp only [foundO, Option.some.injEq] at hf
            exact .inr ⟨j', v, a, rfl, hav, hf.symm⟩
    have kc := fun (e : Bool) => key_check (w := w) H hp het hko hk e
    have last : ∀ (b : Bool) {a : AVal} {v : Value}, VRel φ a v → VRel φ (okO ok a b) (if ok = true then .tuple #[v, .bool b] else v) := by
      intro b a v hav
      cases ok with
      | true => exact .tuple _ _ (.cons _ _ _ _ hav (.cons _ _ _ _ (.bool _) .nil))
      | false => exact hav
    rcases entries_ok r hm hes with ⟨rfl, rfl⟩ | ⟨B, ces, clock, rfl, g1, g2⟩
    · obtain ⟨r', h1, h2⟩ := fin #[] .nil
      rcases h2 with ⟨rfl, rfl⟩ | ⟨j, v, a, rfl, hav, rfl⟩
      · refine ⟨_, ?_, last false hz2⟩
        simp only [Instr.lookup, Sem.run_bind, run_under _ _ hu, Result.andThen_ok, Sem.run_pure, kc, h1, hz1]
      · refine ⟨_, ?_, last true hav⟩
        simp only [Instr.lookup, Sem.run_bind, run_under _ _ hu, Result.andThen_ok, Sem.run_pure, kc, h1]
    · obtain ⟨r', h1, h2⟩ := fin ces g2
      rcases h2 with ⟨rfl, rfl⟩ | ⟨j, v, a, rfl, hav, rfl⟩
      · refine ⟨_, ?_, last false hz2⟩
        simp only [Instr.lookup, Sem.run_bind, run_under _ _ hu, Result.andThen_ok, Sem.run_pure, run_getMap _ g1, kc, h1, hz1]
      · refine ⟨_, ?_, last true hav⟩
        simp only [Instr.lookup, Sem.run_bind, run_under _ _ hu, Result.andThen_ok, Sem.run_pure, run_getMap _ g1, kc, h1]

end Go.AE

/- Values held against each other; writes to a map. -/
namespace Go.AE
set_option autoImplicit false
open Go.RowKit Go.Lib
variable {T : Tab} {φ : Phi} {N0 : Nat} {w0 : World} {h : AHp} {w : World}

theorem eqBool_eq {a b : Bool} (h : eqBool a b = true) : a = b := by cases a <;> cases b <;> simp_all [eqBool]
theorem eqAddr_eq {a b : Option (Nat × Nat)} (h : eqAddr a b = true) : a = b := by
  unfold eqAddr at h
  split at h
  · rfl
  · rename_i a i b j
    cases h1 : Nat.beq a b with
    | false => rw [h1] at h; cases h
    | true => rw [h1] at h; simp only [cond_true] at h; rw [beq_true h1, beq_true h]
  · cases h
theorem eqRef_eq {a b : Option Nat} (h : eqRef a b = true) : a = b := by
  unfold eqRef at h
  split at h
  · rfl
  · rw [beq_true h]
  · cases h

theorem cond_and {a b : Bool} (h : cond a b false = true) : a = true ∧ b = true := by cases a <;> simp_all

mutual
theorem eqV_eq : ∀ (a b : AVal), eqV a b = true → a = b
  | .bool a, y, h => by
    cases y <;> simp only [eqV] at h <;> first | (rw [eqBool_eq h]) | cases h
  | .int k a, y, h => by
    cases y <;> simp only [eqV] at h <;> first | (obtain ⟨h1, h2⟩ := cond_and h; rw [eqInt_eq] at h2; rw [kidx_inj h1, beq_iff_eq.1 h2]) | cases h
  | .str a, y, h => by
    cases y <;> simp only [eqV] at h <;> first | (rw [beqBytes_eq] at h; rw [beq_iff_eq.1 h]) | cases h
  | .ptr a, y, h => by
    cases y <;> simp only [eqV] at h <;> first | (rw [eqAddr_eq h]) | cases h
  | .slice a l c s, y, h => by
    cases y <;> simp only [eqV] at h <;> first | (obtain ⟨h1, h⟩ := cond_and h; obtain ⟨h2, h⟩ := cond_and h; obtain ⟨h3, h⟩ := cond_and h; rw [eqAddr_eq h1, beq_true h2, beq_true h3, beq_true h]) | cases h
  | .map a, y, h => by
    cases y <;> simp only [eqV] at h <;> first | (rw [eqRef_eq h]) | cases h
  | .func f a c, y, h => by
    cases y with
    | func g b d =>
      cases f <;> cases g <;> simp only [eqV] at h <;> first
        | (obtain ⟨h1, h⟩ := cond_and h; obtain ⟨h2, h⟩ := cond_and h; rw [beq_true h1, eqVs_eq _ _ h2, eqVs_eq _ _ h])
        | cases h
    | _ => cases f <;> simp only [eqV] at h <;> cases h
  | .nilFunc, y, h => by cases y <;> simp only [eqV] at h <;> first | rfl | cases h
  | .iface t a, y, h => by
    cases y <;> simp only [eqV] at h <;> first | (obtain ⟨h1, h⟩ := cond_and h; rw [beq_true h1, eqV_eq _ _ h]) | cases h
  | .nilIface, y, h => by cases y <;> simp only [eqV] at h <;> first | rfl | cases h
  | .agg a, y, h => by
    cases y <;> simp only [eqV] at h <;> first | (rw [eqVs_eq _ _ h]) | cases h
  | .tuple a, y, h => by
    cases y <;> simp only [eqV] at h <;> first | (rw [eqVs_eq _ _ h]) | cases h
  | .junk, y, h => by cases y <;> simp only [eqV] at h <;> first | rfl | cases h
theorem eqVs_eq : ∀ (a b : List AVal), eqVs a b = true → a = b
  | [], y, h => by cases y <;> simp only [eqVs] at h <;> first | rfl | cases h
  | a :: as, y, h => by
    cases y with
    | nil => simp only [eqVs] at h; cases h
    | cons b bs =>
      simp only [eqVs] at h
      obtain ⟨h1, h2⟩ := cond_and h
      rw [eqV_eq _ _ h1, eqVs_eq _ _ h2]
end

theorem flat1_val {a : AVal} (hf : flat1 a = true) {v v' : Value} (h : VRel φ a v) (h' : VRel φ a v') : v = v' ∧ ∀ n, Instr.sameBits n v v = true := by
  unfold flat1 at hf
  split at hf
  · cases h; cases h'; exact ⟨rfl, fun n => by cases n <;> simp [Instr.sameBits]⟩
  · cases h; cases h'; exact ⟨rfl, fun n => by cases n <;> simp [Instr.sameBits]⟩
  · cases h with
    | str s =>
      generalize hs : s.data.toList = l at h'
      cases h' with
      | str s' =>
        have : s = s' := by
          apply ByteArray.ext
          apply Array.ext'
          exact hs
        subst this
        exact ⟨rfl, fun n => by cases n <;> simp only [Instr.sameBits] <;> exact (Go.MapKept.bytes_beq s s).2 rfl⟩
  · cases hf

theorem flats_val : ∀ {l : List AVal} (_ : l.all flat1 = true) {vs vs' : List Value}, VRels φ l vs → VRels φ l vs' → vs = vs' ∧ ∀ n, ((vs.zip vs).all fun p => Instr.sameBits n p.1 p.2) = true
  | [], _, _, _, .nil, .nil => ⟨rfl, by simp⟩
  | a :: l, hf, _, _, .cons _ v _ vs h1 h2, .cons _ v' _ vs' h1' h2' => by
    simp only [List.all_cons, Bool.and_eq_true] at hf
    obtain ⟨e1, e2⟩ := flat1_val hf.1 h1 h1'
    obtain ⟨e3, e4⟩ := flats_val hf.2 h2 h2'
    subst e1; subst e3
    exact ⟨rfl, fun n => by simp only [List.zip_cons_cons, List.all_cons, e2 n, e4 n, Bool.and_self]⟩

theorem flat_val {a : AVal} (hf : flatA a = true) {v v' : Value} (h : VRel φ a v) (h' : VRel φ a v') : v = v' ∧ ∀ n, Instr.sameBits (n + 1) v v = true := by
  unfold flatA at hf
  split at hf
  · cases h with
    | agg _ vs h =>
      cases h' with
      | agg _ vs' h' =>
        obtain ⟨e1, e2⟩ := flats_val hf h h'
        subst e1
        exact ⟨rfl, fun n => by simp [Instr.sameBits]; simpa using e2 n⟩
  · obtain ⟨e1, e2⟩ := flat1_val hf h h'
    exact ⟨e1, fun n => e2 _⟩

theorem MRel.get {es : List (AVal × AVal × Nat)} {ces : List MapEntry} (hm : MRel φ es ces) : ∀ {i : Nat} {k a : AVal} {n : Nat}, es[i]? = some (k, a, n) → ∃ e, ces[i]? = some e ∧ VRel φ k e.key ∧ VRel φ a e.val ∧ e.born = n := by
  induction hm with
  | nil => intro i k a n hi; simp at hi
  | cons k v n k' v' es es' h1 h2 h3 ih =>
    intro i
    cases i with
    | zero =>
      intro k2 a2 n2 hi
      simp only [List.getElem?_cons_zero, Option.some.injEq, Prod.mk.injEq] at hi
      obtain ⟨rfl, rfl, rfl⟩ := hi
      exact ⟨{ key := k', val := v', born := n }, by simp, h1, h2, rfl⟩
    | succ i => intro k a n hi; simp at hi; simpa using ih hi

theorem MRel.setVal {es : List (AVal × AVal × Nat)} {ces : List MapEntry} (hm : MRel φ es ces) {k v : AVal} {kv vv : Value} (hk : VRel φ k kv) (hv : VRel φ v vv) : ∀ (i : Nat), MRel φ (setVal k v es i) (ces.modify i fun e => { e with key := kv, val := vv }) := by
  induction hm with
  | nil => intro i; simp [AE.setVal]; exact .nil
  | cons k v n k' v' es es' h1 h2 h3 ih =>
    intro i
    cases i with
    | zero => simp [AE.setVal]; exact .cons _ _ _ _ _ _ _ hk hv h3
    | succ i => simp [AE.setVal]; exact .cons _ _ _ _ _ _ _ h1 h2 (ih i)

theorem MRel.push {es : List (AVal × AVal × Nat)} {ces : List MapEntry} (hm : MRel φ es ces) {k v : AVal} {kv vv : Value} (hk : VRel φ k kv) (hv : VRel φ v vv) (n : Nat) : MRel φ (es ++ [(k, v, n)]) (ces ++ [{ key := kv, val := vv, born := n }]) := by
  induction hm with
  | nil => exact .cons _ _ _ _ _ _ _ hk hv .nil
  | cons k v n k' v' es es' h1 h2 h3 ih => exact .cons _ _ _ _ _ _ _ h1 h2 ih

theorem run_setMap (P : Program) {B : Nat} {ces : Array MapEntry} {clock : Nat} (h : w.heap[B]? = some (.map ces clock)) (o : Obj) : (setObj B o).run P w = .ok () { w with heap := w.heap.setIfInBounds B o } := by
  simp [setObj, Sem.run, h]

/-- One map's block turns. -/
theorem map_turn (r : Rel N0 w0 φ h w) {b : Nat} {es es' : List (AVal × AVal × Nat)} {clock clock' : Nat} {p : PInfo} (hb : h.get b = some (.map es clock)) (hp : φ b = some p) (hro : roOk h b = true) {ces' : Array MapEntry} (hm : MRel φ es' ces'.toList) :
    Rel N0 w0 φ (h.put b (.map es' clock')) { w with heap := w.heap.setIfInBounds p.blk (.map ces' clock') } ∧ Post φ φ h (h.put b (.map es' clock')) w { w with heap := w.heap.setIfInBounds p.blk (.map ces' clock') } := by
  have hlt := r.lt b p hp
  have ho : ∀ B, B < w.heap.size → B ≠ p.blk → ({ w with heap := w.heap.setIfInBounds p.blk (.map ces' clock') } : World).heap[B]? = w.heap[B]? := fun B _ hB => by
    simp only []; rw [Array.getElem?_setIfInBounds_ne (fun e => hB e.symm)]
  refine ⟨r.upd hb hp rfl (by simp) ⟨rfl, rfl, rfl, by simp, fun k hk => ?_⟩ ho ⟨ces', ?_, hm⟩, Post.upd hp (by simp) ho⟩
  · have := r.old b p hp (roOk_le hro)
    simp only []; rw [Array.getElem?_setIfInBounds_ne (by omega)]
  · simp only []; rw [Array.getElem?_setIfInBounds_self_of_lt hlt]

theorem update_ok (H : T.Ok) (r : Rel N0 w0 φ h w) {t et : TypeId} {eq : EqF} (ht : mapTypes T t = some (eq, et)) {as : List AVal} {mv kv vv : Value} (has : VRels φ as [mv, kv, vv]) {h' : AHp}
    (hf : updateF eq h as = some h') : ∃ w', (Instr.mapUpdate t mv kv vv).run T.P w = .ok () w' ∧ Rel N0 w0 φ h' w' ∧ Post φ φ h h' w w' := by
  obtain ⟨kt, hu, hp, het, heq⟩ := mapTypes_some H ht
  obtain ⟨kind, hkind⟩ : ∃ kind, T.P.underlying kt = some kind := by
    unfold plainKey at hp
    split at hp
    · rename_i fs hu; exact ⟨_, H.under hu⟩
    · unfold plainT at hp
      split at hp
      · rename_i hu; exact ⟨_, H.under hu⟩
      · rename_i hu; exact ⟨_, H.under hu⟩
      · rename_i hu; exact ⟨_, H.under hu⟩
      · cases hp
  unfold updateF at hf
  split at hf
  · rename_i b k v
    cases has with
    | cons _ _ _ _ hm has => cases has with
      | cons _ _ _ _ hk has => cases has with
        | cons _ _ _ _ hv has =>
          unfold updateB at hf
          split at hf
          · rename_i es clock hb
            obtain ⟨hro, hf⟩ := cond_some hf
            obtain ⟨hko, hf⟩ := cond_some hf
            cases hm with
            | map _ p hpp =>
              obtain ⟨ces, g1, g2⟩ := r.blk _ _ p hb hpp
              have kc := key_check (w := w) H hp het hko hk false
              cases hfk : findKeyA eq k es 0 with
              | none => rw [hfk] at hf; cases hf
              | some res =>
                rw [hfk] at hf
                obtain ⟨r', q1, q2⟩ := findKey_ok (w := w) hkind heq hk g2 hfk
                cases res with
                | none =>
                  cases r' with
                  | some _ => exact q2.elim
                  | none =>
                    simp only [updateM, Option.some.injEq] at hf; subst hf
                    have := map_turn r (clock' := clock + 1) hb hpp hro (es' := es ++ [(k, v, clock)]) (ces' := ces.push { key := kv, val := vv, born := clock }) (by simpa using g2.push hk hv clock)
                    refine ⟨_, ?_, this.1, this.2⟩
                    simp only [Instr.mapUpdate, Sem.run_bind, run_under _ _ hu, Result.andThen_ok, run_getMap _ g1, kc, q1, run_setMap _ g1]
                | some pr =>
                  obtain ⟨j, a⟩ := pr
                  cases r' with
                  | none => exact q2.elim
                  | some q =>
                    obtain ⟨j', u⟩ := q
                    obtain ⟨rfl, hav, _, k0, n0, hes⟩ := q2
                    simp only [updateM] at hf
                    obtain ⟨hbo, hf⟩ := cond_some hf
                    cases hf
                    simp only [Nat.sub_zero] at hes
                    rw [nth_eq, hes] at hbo
                    simp only [bitsOk] at hbo
                    obtain ⟨hfl, hev⟩ := cond_and hbo
                    have := eqV_eq _ _ hev
                    subst this
                    obtain ⟨e, m1, m2, m3, m4⟩ := g2.get hes
                    obtain ⟨s1, s2⟩ := flat_val hfl m2 hk
                    have := map_turn r (clock' := clock) hb hpp hro (es' := setVal k v es j) (ces' := ces.modify j fun e => { e with key := kv, val := vv }) (by simpa using g2.setVal hk hv j)
                    refine ⟨_, ?_, this.1, this.2⟩
                    rw [Array.getElem?_toList] at m1
                    have kts : (Instr.keyThatStays kv kv).run T.P w = .ok kv w := by
                      have := s2 9999
                      rw [s1] at this
                      simp [Instr.keyThatStays, this]
                    simp only [Instr.mapUpdate, Sem.run_bind, run_under _ _ hu, Result.andThen_ok, run_getMap _ g1, kc, q1, m1, Option.map_some, Option.getD_some, s1, kts, run_setMap _ g1]
          · cases hf
  · cases hf

end Go.AE
