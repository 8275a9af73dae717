/- The evaluator's conversions, append, copy, and so every operation as it is laid, answer as the model's. -/
import Derived.Test.YtdbmocohcljbiaaGreatDoorEc
import Derived.Lib.UnsafeStr
import Derived.Laws.Append
/- The small operations that are left. -/
namespace Go.AE
set_option autoImplicit false
open Go.RowKit Go.Lib
variable {T : Tab} {φ : Phi} {N0 : Nat} {w0 : World} {h : AHp} {w : World}

theorem convInt_ok (_H : T.Ok) (w : World) {src dst : TypeId} {j k : IntKind} (hs : T.P.underlying src = some (.int j)) (hd : T.P.underlying dst = some (.int k)) {a r : AVal} {v : Value} (ha : VRel φ a v) (hf : convIntF k a = some r) :
    ∃ u, (convert src dst v).run T.P w = .ok u w ∧ VRel φ r u := by
  unfold convIntF at hf
  split at hf
  · cases ha; cases hf
    rename_i i n
    refine ⟨.int k (k.wrap n), by simp [convert, run_under _ _ hs, run_under _ _ hd, Conv.intToInt], ?_⟩
    rw [wrapK_eq]; exact .int _ _
  · cases hf

theorem strId_ok (_H : T.Ok) (w : World) {src dst : TypeId} (hs : T.P.underlying src = some .string) (hd : T.P.underlying dst = some .string) {a r : AVal} {v : Value} (ha : VRel φ a v) (hf : strId a = some r) :
    ∃ u, (convert src dst v).run T.P w = .ok u w ∧ VRel φ r u := by
  unfold strId at hf
  split at hf
  · cases hf
    cases ha with
    | str s => exact ⟨.string s, by simp [convert, run_under _ _ hs, run_under _ _ hd], .str s⟩
  · cases hf

theorem capSl_ok (w : World) {t ty e : TypeId} (hu : T.P.underlying t = some (.slice e)) {a r : AVal} {v : Value} (ha : VRel φ a v) (hf : capSlF a = some r) : ∃ u, (Builtin.cap_ #[t] ty #[v]).run T.P w = .ok u w ∧ VRel φ r u := by
  unfold capSlF at hf
  split at hf
  · obtain ⟨h1, hf⟩ := cond_some hf
    have h1 := beq_true h1
    cases hf
    cases ha with
    | sliceN => exact ⟨.int .i64 0, by simp [Builtin.cap_, run_under _ _ hu, goInt], .int _ _⟩
    | slice b o len cap soft p off cap' h0 h2 h3 h4 h5 h6 =>
      have := h5 h1
      subst this
      exact ⟨.int .i64 cap', by simp [Builtin.cap_, run_under _ _ hu, goInt], .int _ _⟩
  · cases hf

theorem sliceData_ok (P : Program) (w : World) {ts : Array TypeId} {ty : TypeId} {a r : AVal} {v : Value} (ha : VRel φ a v) (hf : sliceDataF a = some r) : ∃ u, (Builtin.unsafeSliceData_ ts ty #[v]).run P w = .ok u w ∧ VRel φ r u := by
  unfold sliceDataF at hf
  split at hf
  · cases hf
    cases ha with
    | sliceN => exact ⟨_, run_unsafeSliceData_nil w ts ty 0 0, .ptrN⟩
  · rename_i q l c s
    obtain ⟨h1, hf⟩ := cond_none hf
    have h1 := beq_false h1
    cases hf
    cases ha with
    | slice b o len cap soft p off cap' h0 h2 h3 h4 h5 h6 =>
      have ho : off = p.base + o := by rcases h2 with h2 | h2 <;> omega
      subst ho
      exact ⟨_, run_unsafeSliceData_row w ts ty _ _ cap' (by omega), .ptr b o p h0⟩
  · cases hf

theorem notIface (H : T.Ok) {t : TypeId} (h : isIfaceT T t = false) : ∃ d, T.P.underlying t = some d ∧ ∀ ms, d ≠ .interface ms := by
  unfold isIfaceT at h
  split at h
  · cases h
  · rename_i d hne hu; exact ⟨d, H.under hu, fun ms e => by subst e; exact hne _ rfl⟩
  · cases h

theorem okO_rel {ok b : Bool} {a : AVal} {v : Value} (h : VRel φ a v) : VRel φ (okO ok a b) (if ok = true then .tuple #[v, .bool b] else v) := by
  cases ok with
  | true => exact .tuple _ _ (.cons _ _ _ _ h (.cons _ _ _ _ (.bool _) .nil))
  | false => exact h

theorem assert_ok (H : T.Ok) (w : World) {xt asserted : TypeId} {z : AVal} {ok : Bool} (hi : isIfaceT T asserted = false) (hz : zeroA T asserted = some z) {a r : AVal} {v : Value} (ha : VRel φ a v) (hf : assertF asserted z ok a = some r) :
    ∃ u, (Instr.typeAssert v xt asserted ok).run T.P w = .ok u w ∧ VRel φ r u := by
  obtain ⟨d, hu, hd⟩ := notIface H hi
  obtain ⟨zv, hz1, hz2⟩ := zeroA_run H hz φ w
  unfold assertF at hf
  split at hf
  · rename_i t x
    cases ha with
    | iface _ _ v hv =>
      cases hb : Nat.beq t asserted with
      | true =>
        rw [hb] at hf; cases hf
        have := beq_true hb; subst this
        refine ⟨_, ?_, okO_rel (ok := ok) (b := true) hv⟩
        unfold Instr.typeAssert
        simp only [Sem.run_bind, run_under _ _ hu, Result.andThen_ok]
        cases d <;> first | (exact absurd rfl (hd _)) | simp
      | false =>
        rw [hb] at hf
        have hne := beq_false hb
        obtain ⟨hok, hf⟩ := cond_some hf
        cases hf
        subst hok
        refine ⟨.tuple #[zv, .bool false], ?_, okO_rel (ok := true) (b := false) hz2⟩
        unfold Instr.typeAssert
        simp only [Sem.run_bind, run_under _ _ hu, Result.andThen_ok]
        cases d <;> first | (exact absurd rfl (hd _)) | simp [hne, hz1]
  · obtain ⟨hok, hf⟩ := cond_some hf
    cases hf
    subst hok
    cases ha
    refine ⟨.tuple #[zv, .bool false], ?_, okO_rel (ok := true) (b := false) hz2⟩
    unfold Instr.typeAssert
    simp only [Sem.run_bind, run_under _ _ hu, Result.andThen_ok]
    cases d <;> first | (exact absurd rfl (hd _)) | simp [hz1]
  · cases hf

theorem iface_ok (H : T.Ok) (w : World) {t : TypeId} (hi : isIfaceT T t = false) {a r : AVal} {v : Value} (ha : VRel φ a v) (hf : ifaceF t a = some r) : ∃ u, (Instr.makeInterface t v).run T.P w = .ok u w ∧ VRel φ r u := by
  obtain ⟨d, hu, hd⟩ := notIface H hi
  cases hf
  refine ⟨.iface t v, ?_, .iface _ _ _ ha⟩
  unfold Instr.makeInterface
  simp only [Sem.run_bind, run_under _ _ hu, Result.andThen_ok]
  cases d <;> first | (exact absurd rfl (hd _)) | simp

theorem extract_ok (P : Program) (w : World) {i : Nat} {a r : AVal} {v : Value} (ha : VRel φ a v) (hf : extractA i a = some r) : ∃ u, (Instr.extract v i).run P w = .ok u w ∧ VRel φ r u := by
  unfold extractA at hf
  split at hf
  · rename_i l
    cases ha with
    | tuple _ l' hl =>
      rw [nth_eq] at hf
      obtain ⟨u, h1, h2⟩ := hl.get i r hf
      refine ⟨u, ?_, h2⟩
      have : (Array.mk l')[i]? = some u := by rw [← Array.getElem?_toList]; exact h1
      simp [Instr.extract, this]
  · cases hf

end Go.AE

/- Append, copy, and a string over bytes. -/
namespace Go.AE
set_option autoImplicit false
open Go.RowKit Go.Lib
variable {T : Tab} {φ : Phi} {N0 : Nat} {w0 : World} {h : AHp} {w : World}

theorem source_ok (r : Rel N0 w0 φ h w) {size n : Nat} {x : AVal} {xv : Value} (hx : VRel φ x xv) {new : List AVal} (hf : sourceA h size x = some (n, new)) :
    ∃ news : List Value, VRels φ new news ∧ (Builtin.lenOf xv).run T.P w = .ok n w ∧ (Builtin.firstCells size n xv).run T.P w = .ok ⟨news⟩ w := by
  unfold sourceA at hf
  split at hf
  · rename_i a len cap soft
    unfold srcO at hf
    split at hf
    · cases hf
    · rename_i cs hcs
      cases hf
      have key : ∃ base cap', xv = .slice base n cap' := by cases hx <;> exact ⟨_, _, rfl⟩
      obtain ⟨base, cap', rfl⟩ := key
      obtain ⟨vs, g1, g2, g3, g4, g5⟩ := readA_ok (T := T) r hx (fun hne e => hne (by rw [e]; simp)) hcs
      refine ⟨vs, g1, by simp [Builtin.lenOf], ?_⟩
      cases base with
      | none =>
        have hl : n * size = 0 := g4 rfl
        have : vs = [] := List.length_eq_zero_iff.1 (by rw [g2]; exact hl)
        subst this
        simp [Builtin.firstCells]
      | some b => simpa [Builtin.firstCells] using g3 b rfl
  · cases hf
    cases hx with
    | str s =>
      refine ⟨_, cellsOfBytes_rel φ s.data.toList, by simp [Builtin.lenOf], ?_⟩
      simp [Builtin.firstCells]
      apply Array.ext'
      simp
  · cases hf

/-- No number of elements to be made: 'append(s, make([]T, n)...)' alone has one. -/
theorem notInt_cases (H : T.Ok) {us : List TypeId} (hu : notInt T us.head? = true) : us = [] ∨ ∃ u us' d, us = u :: us' ∧ T.P.underlying u = some d ∧ ∀ k, d ≠ .int k := by
  cases us with
  | nil => exact .inl rfl
  | cons u us =>
    simp only [List.head?_cons, notInt] at hu
    split at hu
    · cases hu
    · rename_i d hne hd; exact .inr ⟨u, us, d, rfl, H.under hd, fun k e => by subst e; exact hne _ rfl⟩
    · cases hu

theorem append_one (H : T.Ok) {t ty : TypeId} {us : List TypeId} (hz : notInt T us.head? = true) {e : TypeId} {ti : TypeInfo} (ht : T.P.underlying t = some (.slice e)) (hi : T.P.info? e = some ti) {base : Option Addr} {sLen sCap : Nat} {xv : Value} (w : World) :
    (Builtin.append_ (t :: us).toArray ty #[.slice base sLen sCap, xv]).run T.P w = (Builtin.append_ #[t] ty #[.slice base sLen sCap, xv]).run T.P w := by
  rcases notInt_cases H hz with rfl | ⟨u, us', d, rfl, hd, hne⟩
  · rfl
  · have e0 : (t :: u :: us').toArray[0]? = some t := by simp
    have e1 : (t :: u :: us').toArray[1]? = some u := by simp
    have e2 : (#[t] : Array TypeId)[0]? = some t := by simp
    have e3 : (#[t] : Array TypeId)[1]? = none := by simp
    have e4 : (#[Value.slice base sLen sCap, xv] : Array Value)[0]? = some (.slice base sLen sCap) := by simp
    have e5 : (#[Value.slice base sLen sCap, xv] : Array Value)[1]? = some xv := by simp
    unfold Builtin.append_
    simp only [e0, e1, e2, e3, e4, e5, Sem.run_bind, run_under _ _ ht, Result.andThen_ok, run_size _ _ hi, run_under _ _ hd, Sem.run_pure]

theorem append_room (H : T.Ok) {t ty : TypeId} {us : List TypeId} (hz : notInt T us.head? = true) {e : TypeId} {ti : TypeInfo} (ht : T.P.underlying t = some (.slice e)) (hi : T.P.info? e = some ti) {base : Option Addr} {sLen sCap n : Nat} {xv : Value} {news : Array Value} (w : World)
    (h1 : (Builtin.lenOf xv).run T.P w = .ok n w) (h2 : (Builtin.firstCells ti.size n xv).run T.P w = .ok news w) (hc : sLen + n ≤ sCap) :
    (Builtin.append_ (t :: us).toArray ty #[.slice base sLen sCap, xv]).run T.P w =
      (match base with
      | none => Result.ok (.slice none (sLen + n) sCap) w
      | some a => ((storeCells (a.add (sLen * ti.size)) news.toList).run T.P w).andThen fun _ w' => .ok (.slice (some a) (sLen + n) sCap) w') := by
  rw [append_one H hz ht hi]
  cases base <;> simp [Builtin.append_, run_under _ _ ht, run_size _ _ hi, h1, h2, hc]

theorem run_choose_appendCap (P : Program) (w : World) (need old : Nat) (e : TypeId) : (choose (.appendCap need old e)).run P w = .ok (grownCap w need old e) { w with drawn := w.drawn + 1 } := by
  simp [Question.forced, grownCap]

theorem le_grownCap (w : World) (need old : Nat) (e : TypeId) : need ≤ grownCap w need old e := by
  simp [grownCap, Question.cut]

theorem append_grow (H : T.Ok) {t ty : TypeId} {us : List TypeId} (hz : notInt T us.head? = true) {e : TypeId} {ti : TypeInfo} {z : Value} (ht : T.P.underlying t = some (.slice e)) (hi : T.P.info? e = some ti) (hzv : ti.zero = some z) {base : Option Addr} {sLen sCap n : Nat} {xv : Value}
    {olds news : Array Value} (w : World) (h1 : (Builtin.lenOf xv).run T.P w = .ok n w) (h2 : (Builtin.firstCells ti.size n xv).run T.P { w with drawn := w.drawn + 1 } = .ok news { w with drawn := w.drawn + 1 })
    (h3 : (Builtin.firstCells ti.size sLen (.slice base sLen sCap)).run T.P { w with drawn := w.drawn + 1 } = .ok olds { w with drawn := w.drawn + 1 })
    (hc : sCap < sLen + n) (hb : (sLen + n) * ti.bytes ≤ 1000000000) (hn : sLen + n ≤ 1000000000) :
    (Builtin.append_ (t :: us).toArray ty #[.slice base sLen sCap, xv]).run T.P w =
      .ok (.slice (some ⟨w.heap.size, 0, none⟩) (sLen + n) (grownCap w (sLen + n) sCap e))
        { w with heap := w.heap.push (.cells (olds ++ news ++ Builtin.zeroCells z.cells (grownCap w (sLen + n) sCap e - (sLen + n))) e), drawn := w.drawn + 1 } := by
  have h48 : ¬ (Builtin.nextslicecap (sLen + n) sCap * ti.bytes > 281474976710656) := by
    have := growslice_fits (bytes := ti.bytes) hc (by omega)
    omega
  have h63 : ¬ (((sLen + n : Nat) : Int) > IntKind.i64.max) := by simp [IntKind.max, IntKind.signed, IntKind.bits]; omega
  have h63' : ¬ (9223372036854775807 < (sLen : Int) + (n : Int)) := by omega
  have hnc : ¬ (sLen + n ≤ sCap) := by omega
  have h48' : ¬ (281474976710656 < Builtin.nextslicecap (sLen + n) sCap * ti.bytes) := by omega
  rw [append_one H hz ht hi]
  have h2' : (Builtin.firstCells ti.size n xv).run T.P w.drew = .ok news w.drew := h2
  have h3' : (Builtin.firstCells ti.size sLen (.slice base sLen sCap)).run T.P w.drew = .ok olds w.drew := h3
  simp [Builtin.append_, run_under _ _ ht, run_size _ _ hi, run_info _ _ hi, run_zero _ _ hi hzv, h1, h2', h3', hnc, h63', h48', Question.forced, newRow, grownCap]
  rfl

end Go.AE

/- Append, with what it does to memory. -/
namespace Go.AE
set_option autoImplicit false
open Go.RowKit Go.Lib
variable {T : Tab} {φ : Phi} {N0 : Nat} {w0 : World} {h : AHp} {w : World}

/-- What an effect must show. -/
def EffOk (P : Program) (N0 : Nat) (w0 : World) (φ : Phi) (h h' : AHp) (w : World) (x : AVal) (s : Sem Value) : Prop :=
  ∃ φ' u w', s.run P w = .ok u w' ∧ Rel N0 w0 φ' h' w' ∧ Post φ φ' h h' w w' ∧ VRel φ' x u

theorem Rel.fresh (r : Rel N0 w0 φ h w) : φ h.size = none := by
  cases hc : φ h.size with
  | none => rfl
  | some q => exact absurd (r.dom _ _ hc) (Nat.lt_irrefl _)

theorem newO_some {k : AKind} {o : Option (Nat × AHp)} {x : AVal} {h' : AHp} (hh : newO k o = some (x, h')) : ∃ b, o = some (b, h') ∧ x = k.val b := by
  cases o with
  | none => cases hh
  | some p => obtain ⟨b, h2⟩ := p; cases hh; exact ⟨b, rfl, rfl⟩

theorem alloc_rel {P : Program} (r : Rel N0 w0 φ h w) {x : ABlk} {k : AKind} {s : Sem Value} (ha : AllocOk P φ w x k s) {v : AVal} {h' : AHp} (hn : newO k (h.new x) = some (v, h')) : EffOk P N0 w0 φ h h' w v s := by
  obtain ⟨b, hb, rfl⟩ := newO_some hn
  obtain ⟨obj, d, u, room, h1, h2⟩ := ha
  obtain ⟨rfl, _, _⟩ := AHp.new_eq hb
  have hle := Phi.le_at (φ := φ) ⟨w.heap.size, 0, room⟩ r.fresh
  have h3 := fun w' => h2 (φ.at h.size ⟨w.heap.size, 0, room⟩) h.size hle (Phi.at_same _ _ _) w'
  have h4 := h3 { w with heap := w.heap.push obj, drawn := w.drawn + d } (by simp)
  obtain ⟨r1, r2⟩ := r.pushed obj (w.drawn + d) hb room h4.1
  exact ⟨_, u, _, h1, r1, r2, h4.2⟩

theorem cons0 {a : AVal} {as bs : List AVal} : (a :: as) ++ bs = a :: (as ++ bs) := rfl

theorem sliceO_some {len cap soft : Nat} {o : Option (Nat × AHp)} {x : AVal} {h' : AHp} (hh : sliceO len cap soft o = some (x, h')) : ∃ b, o = some (b, h') ∧ x = .slice (some (b, 0)) len cap soft := by
  cases o with
  | none => cases hh
  | some p => obtain ⟨b, h2⟩ := p; cases hh; exact ⟨b, rfl, rfl⟩

theorem zeroCells_size (z : Array Value) (n : Nat) : (Builtin.zeroCells z n).size = n * z.size := by simp [Builtin.zeroCells]

/-- A new block for an append. -/
theorem grow_rel {h1 : AHp} (r : Rel N0 w0 φ h1 w) {elem : TypeId} {size need : Nat} (hs : size ≠ 0) {old new : List AVal} {olds news rest : Array Value} (ho : VRels φ old olds.toList) (hn : VRels φ new news.toList) (hall : allOne new = true)
    (hlen : old.length + new.length = need * size) {cap' : Nat} (hcap : need ≤ cap') (hrest : rest.size = (cap' - need) * size) {x : AVal} {h' : AHp} (hf : growNew h1 elem size need old new = some (x, h')) (d : Nat) :
    ∃ φ', Rel N0 w0 φ' h' { w with heap := w.heap.push (.cells (olds ++ news ++ rest) elem), drawn := d } ∧ Post φ φ' h1 h' w { w with heap := w.heap.push (.cells (olds ++ news ++ rest) elem), drawn := d } ∧ VRel φ' x (.slice (some ⟨w.heap.size, 0, none⟩) need cap') := by
  unfold growNew at hf
  obtain ⟨ha, hf⟩ := cond_some hf
  obtain ⟨b, hb, rfl⟩ := sliceO_some hf
  obtain ⟨rfl, _, _⟩ := AHp.new_eq hb
  have hol := ho.length
  have hnl := hn.length
  simp only [Array.length_toList] at hol hnl
  have hroom : (olds.toList ++ news.toList).length + rest.toList.length = cap' * size := by
    simp only [List.length_append, Array.length_toList, hrest, ← hol, ← hnl, hlen]
    rw [← Nat.add_mul]; congr 1; omega
  have hle := Phi.le_at (φ := φ) ⟨w.heap.size, 0, cap' * size⟩ r.fresh
  have hobj : (olds ++ news ++ rest : Array Value) = ⟨(olds.toList ++ news.toList) ++ rest.toList⟩ := by apply Array.ext'; simp
  obtain ⟨r1, r2⟩ := r.pushed (.cells (olds ++ news ++ rest) elem) d hb (cap' * size) (by
    have := soft_new (φ := φ) (cs := old ++ new) (vs := olds.toList ++ news.toList) (rest := rest.toList) (t := elem) (fr := (0, 0)) (ho.append hn) (allOne_append ha hall) (B := w.heap.size) (w' := { w with heap := w.heap.push (.cells (olds ++ news ++ rest) elem), drawn := d }) hle (by simp [hobj]) (fun off _ hh => by simp at hh)
    rw [hroom] at this; exact this)
  refine ⟨_, r1, r2, ?_⟩
  exact .slice h1.size 0 need need size _ 0 cap' (Phi.at_same _ _ _) (.inr rfl) (Nat.le_refl _) hcap (fun e => absurd e hs) (fun _ => by simp)

/-- The block dies. -/
theorem Rel.die (r : Rel N0 w0 φ h w) {b : Nat} {x : ABlk} {p : PInfo} (hx : h.get b = some x) (hp : φ b = some p) (hd : isDead x = false) : Rel N0 w0 φ (h.put b .dead) w ∧ Post φ φ h (h.put b .dead) w w :=
  ⟨r.upd hx hp hd (Nat.le_refl _) (Below.refl _ _) (fun _ _ _ => rfl) trivial, Post.upd hp (Nat.le_refl _) (fun _ _ _ => rfl)⟩

/-- An append that is found to fit: the block is the same, its abstract one is another. -/
theorem fit_rel (P : Program) (r : Rel N0 w0 φ h w) {elem : TypeId} {size len n cap' o : Nat} (hs : size ≠ 0) {b : Nat} {p : PInfo} (hp : φ b = some p) (hd : deadB h elem b (h.get b) = true) {old new : List AVal} {news : List Value}
    (ho : readB o (len * size) (h.get b) = some old ∨ (len * size = 0 ∧ old = [])) (hn : VRels φ new news) (hall : allOne new = true) (hnl : new.length = n * size) (hcap : len + n ≤ cap') (hroom : o + cap' * size = p.room)
    {x : AVal} {h' : AHp} (hf : growNew (h.put b .dead) elem size (len + n) old new = some (x, h')) :
    ∃ φ' w', (storeCells ⟨p.blk, p.base + o + len * size, none⟩ news).run P w = .ok () w' ∧ Rel N0 w0 φ' h' w' ∧ Post φ φ' h h' w w' ∧ VRel φ' x (.slice (some ⟨p.blk, p.base + o, none⟩) (len + n) cap') := by
  unfold growNew at hf
  obtain ⟨ha, hf⟩ := cond_some hf
  obtain ⟨b', hb', rfl⟩ := sliceO_some hf
  unfold deadB at hd
  split at hd
  · rename_i cs e soft hb
    have hde : e = elem ∧ roOk h b = true := by
      cases h1 : Nat.beq e elem with
      | true => rw [h1] at hd; exact ⟨beq_true h1, hd⟩
      | false => rw [h1] at hd; cases hd
    obtain ⟨rfl, hro⟩ := hde
    obtain ⟨ccs, fr, g1, g2⟩ := r.cells hb hp
    have hoc : o + len * size ≤ cs.length ∧ old = (cs.drop o).take (len * size) ∨ (len * size = 0 ∧ old = []) := by
      rcases ho with ho | ho
      · rw [hb] at ho
        obtain ⟨k1, k2⟩ := takeN_some _ _ _ _ ho
        exact .inl ⟨k1, k2⟩
      · exact .inr ho
    have hol : old.length = len * size := by
      rcases hoc with ⟨k1, rfl⟩ | ⟨k1, rfl⟩
      · simp; omega
      · simp [k1]
    have hnv := hn.length
    have hmul : (len + n) * size ≤ cap' * size := Nat.mul_le_mul_right _ hcap
    rw [Nat.add_mul] at hmul
    have hsz := g2.room
    have h1 : ∀ v ∈ news, v.oneCell = true := by
      intro v hvm
      obtain ⟨i, hi⟩ := List.mem_iff_getElem?.1 hvm
      have hlt : i < new.length := by rw [hnv]; exact (List.getElem?_eq_some_iff.1 hi).1
      obtain ⟨u, hu, hr⟩ := hn.get i _ (List.getElem?_eq_getElem hlt)
      rw [hi] at hu; cases hu
      exact hr.one (allOne_mem hall _ (List.getElem_mem hlt))
    obtain ⟨w', ccs', s1, s2, s3, s4⟩ := run_storeCells P p.blk (p.base + o + len * size) e fr news 0 w ccs g1 h1 (by omega) (g2.thaw rfl)
    have hN := r.old b p hp (roOk_le hro)
    have r1 : Rel N0 w0 φ (h.put b .dead) w' := r.upd hb hp rfl (by rw [s2.size]; exact Nat.le_refl _) ⟨s2.os, s2.tape, s2.output, by rw [s2.size]; exact Nat.le_refl _, fun k hk => s2.other k (fun e => by omega)⟩ (fun B _ hB => s2.other B hB) trivial
    have p1 : Post φ φ h (h.put b .dead) w w' := Post.upd hp (by rw [s2.size]; exact Nat.le_refl _) (fun B _ hB => s2.other B hB)
    have hlb : b ≤ maxT := by have := r.dom b p hp; have := r.fits; omega
    have hle := Phi.le_at (φ := φ) (b := (h.put b .dead).size) ⟨p.blk, p.base + o, p.room - o⟩ r1.fresh
    obtain ⟨rfl, _, _⟩ := AHp.new_eq hb'
    obtain ⟨r2, r2'⟩ := r1.new hb' ⟨p.blk, p.base + o, p.room - o⟩ (by rw [s2.size]; exact r.lt b p hp) hN (fun c q y hq hy hyd hc => by
      by_cases hcb : b = c
      · subst hcb
        rw [AHp.put_get_same _ _ _ hlb] at hy; cases hy; simp [isDead] at hyd
      · rw [AHp.put_get_ne _ _ _ _ hcb] at hy
        exact hcb (r.inj c b y _ q p hq hp hy hb hyd rfl hc).symm) (by
      refine ⟨ccs', fr, s2.blk, CRel.mk (fun e => Bool.noConfusion e) ?_ ?_ ?_ ?_⟩
      · show (old ++ new).length ≤ p.room - o
        simp only [List.length_append, hol, hnl]; omega
      · show p.base + o + (p.room - o) ≤ ccs'.size
        rw [s3]; omega
      · intro i a hi
        show a.one = true ∧ ∃ v, ccs'[p.base + o + i]? = some v ∧ VRel _ a v
        have s4i := s4 (p.base + o + i)
        by_cases hlt : i < old.length
        · rw [List.getElem?_append_left hlt] at hi
          rw [if_neg (by omega)] at s4i
          rcases hoc with ⟨k1, rfl⟩ | ⟨k1, rfl⟩
          · rw [List.getElem?_take] at hi
            split at hi
            · rw [List.getElem?_drop] at hi
              obtain ⟨q1, u, q2, q3⟩ := g2.cell (o + i) a hi
              exact ⟨q1, u, by rw [s4i, show p.base + o + i = p.base + (o + i) from by omega]; exact q2, q3.mono hle⟩
            · cases hi
          · simp at hi
        · rw [List.getElem?_append_right (by omega)] at hi
          have hlt2 : i - old.length < new.length := (List.getElem?_eq_some_iff.1 hi).1
          rw [if_pos (by omega)] at s4i
          obtain ⟨u, hu, hr⟩ := hn.get _ a hi
          refine ⟨allOne_mem hall a (List.mem_of_getElem? hi), u, ?_, hr.mono hle⟩
          rw [s4i, show p.base + o + i - (p.base + o + len * size + 0) = i - old.length from by omega]; exact hu
      · intro _ off hoff
        rw [s3] at hoff
        exact g2.thaw rfl off hoff)
    have p2 : Post φ _ (h.put b .dead) h' w' w' := Post.made hb' r2' (Nat.le_refl _) (.inr ⟨b, p, hp, rfl⟩) (fun _ _ _ => rfl)
    refine ⟨_, w', s1, r2, p1.trans p2, ?_⟩
    exact .slice _ 0 (len + n) (len + n) size ⟨p.blk, p.base + o, p.room - o⟩ (p.base + o) cap' (Phi.at_same _ _ _) (.inr rfl) (Nat.le_refl _) hcap (fun e => absurd e hs) (fun _ => by show 0 + cap' * size = p.room - o; omega)
  · cases hd

theorem append_ok (H : T.Ok) (r : Rel N0 w0 φ h w) {t ty : TypeId} {us : List TypeId} (hz : notInt T us.head? = true) {i : SInfo} (hi : sinfo T t = some i) {as : List AVal} {sv xv : Value} (has : VRels φ as [sv, xv]) {x : AVal} {h' : AHp}
    (hf : appendF i h as = some (x, h')) : EffOk T.P N0 w0 φ h h' w x (Builtin.append_ (t :: us).toArray ty #[sv, xv]) := by
  obtain ⟨hu, ti, z, h1, h2, h3, h4, h5, h6, h7, h8, h9⟩ := sinfo_some H hi φ
  unfold appendF at hf
  split at hf
  · rename_i s xx
    cases has with
    | cons _ _ _ _ hs has => cases has with
      | cons _ _ _ _ hx _ =>
        unfold appendS at hf
        split at hf
        · cases hf
        · rename_i n new hsrc
          split at hf
          · rename_i base len cap soft
            unfold appendN at hf
            replace hf := cond_some hf; obtain ⟨c1, hf⟩ := hf
            replace hf := cond_some hf; obtain ⟨c2, hf⟩ := hf
            replace hf := cond_some hf; obtain ⟨c3, hf⟩ := hf
            replace hf := cond_some hf; obtain ⟨c4, hf⟩ := hf
            replace c1 : (len + n) * i.bytes ≤ 1000000000 := ble_true c1
            replace c2 : len + n ≤ 1000000000 := ble_true c2
            replace c3 : new.length = n * i.size := beq_true c3
            have key : ∃ cbase cap', sv = .slice cbase len cap' := by cases hs <;> exact ⟨_, _, rfl⟩
            obtain ⟨cbase, cap', rfl⟩ := key
            -- what is appended, in whatever world that has the same memory
            have src : ∀ d, ∃ news : List Value, VRels φ new news ∧ (Builtin.lenOf xv).run T.P { w with drawn := d } = .ok n { w with drawn := d } ∧ (Builtin.firstCells i.size n xv).run T.P { w with drawn := d } = .ok ⟨news⟩ { w with drawn := d } :=
              fun d => source_ok (T := T) (r.drawn d) hx hsrc
            have srcw : ∃ news : List Value, VRels φ new news ∧ (Builtin.lenOf xv).run T.P w = .ok n w ∧ (Builtin.firstCells i.size n xv).run T.P w = .ok ⟨news⟩ w := source_ok (T := T) r hx hsrc
            obtain ⟨newsw, n1, n2, n3⟩ := srcw
            -- a new block
            have grow : ∀ {h1 : AHp}, Rel N0 w0 φ h1 w → Post φ φ h h1 w w → ∀ {old : List AVal}, readA h base (Nat.mul len i.size) = some old → cap' < len + n →
                growNew h1 i.elem i.size (len + n) old new = some (x, h') → EffOk T.P N0 w0 φ h h' w x (Builtin.append_ (t :: us).toArray ty #[.slice cbase len cap', xv]) := by
              intro h1' r1 p1 old hold hlt hg
              obtain ⟨news, m1, m2, m3⟩ := src (w.drawn + 1)
              obtain ⟨olds, o1, o2, o3, o4, o5⟩ := readA_ok (T := T) (r.drawn (w.drawn + 1)) hs (n := Nat.mul len i.size) (fun hne e => hne (by rw [e]; show 0 * i.size = 0; simp)) hold
              have o2' : olds.length = len * i.size := o2
              have ofc : (Builtin.firstCells i.size len (.slice cbase len cap')).run T.P { w with drawn := w.drawn + 1 } = .ok ⟨olds⟩ { w with drawn := w.drawn + 1 } := by
                cases cbase with
                | none =>
                  have hl : len * i.size = 0 := o4 rfl
                  have : olds = [] := List.length_eq_zero_iff.1 (by omega)
                  subst this
                  simp [Builtin.firstCells]
                | some b => simpa [Builtin.firstCells] using o3 b rfl
              have run := append_grow H (ty := ty) hz hu h1 h4 w n2 (by rw [h2]; exact m3) (by rw [h2]; exact ofc) hlt (by rw [h3]; exact c1) c2
              obtain ⟨φ', g1, g2, g3⟩ := grow_rel r1 h8 (olds := ⟨olds⟩) (news := ⟨news⟩) (rest := Builtin.zeroCells z.cells (grownCap w (len + n) cap' i.elem - (len + n))) o1 m1 c4 (by rw [o1.length, o2', c3, Nat.add_mul]) (le_grownCap w (len + n) cap' i.elem) (by rw [zeroCells_size, h6]) hg (w.drawn + 1)
              exact ⟨φ', _, _, run, g1, p1.trans g2, g3⟩
            cases hc : Nat.ble (Nat.add len n) cap with
            | true =>
              rw [hc] at hf
              have hc : len + n ≤ cap := ble_true hc
              simp only [cond_true] at hf
              unfold inPlace at hf
              split at hf
              · cases hf
                cases hs with
                | sliceN =>
                  have hn0 : n = 0 := by omega
                  refine ⟨φ, .slice none (0 + n) 0, w, ?_, r, Post.refl _ _ _, ?_⟩
                  · rw [append_room H hz hu h1 w n2 (by rw [h2]; exact n3) (by omega)]
                  · have e : Nat.add 0 n = 0 := by show 0 + n = 0; omega
                    rw [e, show 0 + n = 0 by omega]
                    exact .sliceN _
              · rename_i b o
                cases hs with
                | slice _ _ _ _ _ p off _ q1 q2 q3 q4 q5 q6 =>
                  unfold inPlaceO at hf
                  split at hf
                  · cases hf
                  · rename_i h2' hw
                    cases hf
                    have run := append_room H (ty := ty) (base := some ⟨p.blk, off, none⟩) hz hu h1 w n2 (by rw [h2]; exact n3) (show len + n ≤ cap' by omega)
                    obtain ⟨w', s1, s2, s3⟩ := write_ok (T := T) r q1 n1 (show writeB h b (Nat.add o (Nat.mul len i.size)) new (h.get b) = some h' from hw)
                    refine ⟨φ, .slice (some ⟨p.blk, off, none⟩) (len + n) cap', w', ?_, s2, s3, .slice b o _ cap soft p off cap' q1 q2 hc q4 q5 q6⟩
                    rw [run]
                    simp only [Addr.add_none]
                    rcases q2 with q2 | q2
                    · have hn0 : n = 0 := by omega
                      have hl0 : len = 0 := by omega
                      subst hn0; subst hl0
                      have : newsw = [] := List.length_eq_zero_iff.1 (by rw [← n1.length, c3]; simp)
                      subst this
                      simp [storeCells] at s1 ⊢
                      exact s1
                    · subst q2
                      have e : p.base + (o + len * i.size) = p.base + o + len * ti.size := by rw [h2]; omega
                      have s1' : (storeCells ⟨p.blk, p.base + (o + len * i.size), none⟩ newsw).run T.P w = .ok () w' := s1
                      rw [e] at s1'
                      rw [s1']; rfl
            | false =>
              rw [hc] at hf
              have hc : ¬ (len + n ≤ cap) := fun hh => by
                have := Nat.ble_eq_true_of_le hh
                have hc' : Nat.ble (len + n) cap = false := hc
                rw [this] at hc'; cases hc'
              simp only [cond_false] at hf
              unfold growA at hf
              split at hf
              · cases hf
              · rename_i old hold
                cases hso : Nat.beq soft 0 with
                | true =>
                  have hso' := beq_true hso
                  rw [hso] at hf
                  subst hso'
                  simp only [cond_true] at hf
                  have hcap : cap' = cap := by
                    cases hs with
                    | sliceN => rfl
                    | slice _ _ _ _ _ p off _ q1 q2 q3 q4 q5 q6 => exact q5 rfl
                  exact grow r (Post.refl _ _ _) hold (by omega) hf
                | false =>
                  rw [hso] at hf
                  simp only [cond_false] at hf
                  replace hf := cond_some hf; obtain ⟨hss, hf⟩ := hf
                  replace hss := beq_true hss
                  subst hss
                  unfold growSoft at hf
                  split at hf
                  · cases hf
                  · rename_i b o
                    replace hf := cond_some hf; obtain ⟨hd, hf⟩ := hf
                    cases hs with
                    | slice _ _ _ _ _ p off _ q1 q2 q3 q4 q5 q6 =>
                      by_cases hfit : len + n ≤ cap'
                      · have hoff : off = p.base + o := by rcases q2 with q2 | q2 <;> omega
                        subst hoff
                        have run := append_room H (ty := ty) (base := some ⟨p.blk, p.base + o, none⟩) hz hu h1 w n2 (by rw [h2]; exact n3) hfit
                        have hread : readB o (len * i.size) (h.get b) = some old ∨ (len * i.size = 0 ∧ old = []) := by
                          unfold readA at hold
                          cases hb0 : Nat.beq (Nat.mul len i.size) 0 with
                          | true =>
                            rw [hb0] at hold
                            simp only [cond_true, Option.some.injEq] at hold
                            exact .inr ⟨beq_true hb0, hold.symm⟩
                          | false =>
                            rw [hb0] at hold
                            simp only [cond_false] at hold
                            exact .inl hold
                        obtain ⟨φ', w', s1, s2, s3, s4⟩ := fit_rel T.P r h8 (len := len) (n := n) (cap' := cap') (o := o) q1 hd hread n1 c4 c3 hfit (q6 h8) hf
                        refine ⟨φ', _, w', ?_, s2, s3, s4⟩
                        rw [run]
                        simp only [Addr.add_none, h2]
                        rw [s1]; rfl
                      · have hd' := hd
                        unfold deadB at hd'
                        split at hd'
                        · rename_i cs e soft hb
                          obtain ⟨r1, p1⟩ := r.die hb q1 rfl
                          exact grow r1 p1 hold (by omega) hf
                        · cases hd'
          · cases hf
  · cases hf

end Go.AE

/- Copy; a string over bytes. -/
namespace Go.AE
set_option autoImplicit false
open Go.RowKit Go.Lib
variable {T : Tab} {φ : Phi} {N0 : Nat} {w0 : World} {h : AHp} {w : World}

theorem count_ok {P : Program} {x : AVal} {xv : Value} (hx : VRel φ x xv) {l : Nat} (hf : countOf x = some l) : (Builtin.lenOf xv).run P w = .ok l w := by
  unfold countOf at hf
  split at hf
  · cases hf; cases hx <;> simp [Builtin.lenOf]
  · cases hf; cases hx; simp [Builtin.lenOf]
  · cases hf

theorem count_shape {x : AVal} {xv : Value} (hx : VRel φ x xv) {l : Nat} (hf : countOf x = some l) : (∃ b c, xv = .slice b l c) ∨ ∃ s, xv = .string s := by
  unfold countOf at hf
  split at hf
  · cases hf; cases hx <;> exact .inl ⟨_, _, rfl⟩
  · cases hf; cases hx; exact .inr ⟨_, rfl⟩
  · cases hf

theorem cellsOfN_ok (r : Rel N0 w0 φ h w) {size n l : Nat} {x : AVal} {xv : Value} (hx : VRel φ x xv) (hl : countOf x = some l) (hn : n ≤ l) {cs : List AVal} (hf : cellsOfN h n size x = some cs) :
    ∃ vs : List Value, VRels φ cs vs ∧ (Builtin.firstCells size n xv).run T.P w = .ok ⟨vs⟩ w := by
  unfold cellsOfN at hf
  split at hf
  · rename_i a len cap soft
    cases hl
    have key : ∃ base cap', xv = .slice base l cap' := by cases hx <;> exact ⟨_, _, rfl⟩
    obtain ⟨base, cap', rfl⟩ := key
    obtain ⟨vs, g1, g2, g3, g4, g5⟩ := readA_ok (T := T) r hx (n := Nat.mul n size) (fun hne e => hne (by
      have : n = 0 := by omega
      rw [this]; show 0 * size = 0; simp)) hf
    have g2 : vs.length = n * size := g2
    refine ⟨vs, g1, ?_⟩
    cases base with
    | none =>
      have hz : n * size = 0 := g4 rfl
      have : vs = [] := List.length_eq_zero_iff.1 (by omega)
      subst this
      simp [Builtin.firstCells]
    | some b => simpa [Builtin.firstCells] using g3 b rfl
  · cases hf
    cases hx with
    | str s =>
      refine ⟨_, cellsOfBytes_rel φ _, ?_⟩
      simp only [Builtin.firstCells, Sem.run_pure]
      congr 1
      apply Array.ext'
      simp [List.extract_eq_take_drop]
  · cases hf

theorem copy_ok (H : T.Ok) (r : Rel N0 w0 φ h w) {t ty e : TypeId} {us : List TypeId} {size : Nat} (hu : T.P.underlying t = some (.slice e)) (hs : sizeA T e = some size) {as : List AVal} {dv xv : Value} (has : VRels φ as [dv, xv]) {x : AVal} {h' : AHp}
    (hf : copyF size h as = some (x, h')) : EffOk T.P N0 w0 φ h h' w x (Builtin.copy_ (t :: us).toArray ty #[dv, xv]) := by
  unfold copyF at hf
  split at hf
  · rename_i base dLen cap soft s
    cases has with
    | cons _ _ _ _ hd has => cases has with
      | cons _ _ _ _ hx _ =>
        unfold copyL at hf
        split at hf
        · cases hf
        · rename_i l hl
          have key : ∃ cbase cap', dv = .slice cbase dLen cap' := by cases hd <;> exact ⟨_, _, rfl⟩
          obtain ⟨cbase, cap', rfl⟩ := key
          unfold copyTo at hf
          split at hf
          · cases hf
          · rename_i cs hcs
            obtain ⟨vs, g1, g2⟩ := cellsOfN_ok (T := T) r hx hl (Nat.min_le_left _ _) hcs
            have g0 := count_ok (P := T.P) (w := w) hx hl
            have run : (Builtin.copy_ (t :: us).toArray ty #[.slice cbase dLen cap', xv]).run T.P w = (match cbase with
                | none => Result.ok (goInt (Nat.min l dLen)) w
                | some a => ((storeCells a vs).run T.P w).andThen fun _ w' => .ok (goInt (Nat.min l dLen)) w') := by
              cases cbase <;> simp [Builtin.copy_, run_under _ _ hu, g0, sizeA_run H hs, g2]
            split at hf
            · cases hf
              cases hd with
              | sliceN => exact ⟨φ, _, w, run, r, Post.refl _ _ _, .int _ _⟩
            · rename_i b o
              cases hd with
              | slice _ _ _ _ _ p off _ q1 q2 q3 q4 q5 q6 =>
                unfold intO at hf
                split at hf
                · cases hf
                · rename_i h2 hw
                  cases hf
                  obtain ⟨w', s1, s2, s3⟩ := write_ok (T := T) r q1 g1 (show writeB h b o cs (h.get b) = some h' from hw)
                  refine ⟨φ, _, w', ?_, s2, s3, .int _ _⟩
                  rw [run]
                  rcases q2 with q2 | q2
                  · have hn0 : min l dLen = 0 := by
                      have : dLen = 0 := by omega
                      rw [this]; exact Nat.min_zero _
                    have hv0 : vs = [] := by
                      have g2 : (Builtin.firstCells size (min l dLen) xv).run T.P w = .ok ⟨vs⟩ w := g2
                      rw [hn0] at g2
                      rcases count_shape hx hl with ⟨bb, cc, rfl⟩ | ⟨ss, rfl⟩
                      · cases bb <;> simpa [Builtin.firstCells, loadCells, loadCellsFrom, eq_comm] using g2
                      · simpa [Builtin.firstCells, eq_comm] using g2
                    subst hv0
                    simp [storeCells] at s1 ⊢
                    exact ⟨rfl, s1⟩
                  · subst q2
                    show ((storeCells ⟨p.blk, p.base + o, none⟩ vs).run T.P w).andThen _ = _
                    rw [s1]; rfl
  · cases hf

theorem liesAt_u8 {P : Program} {e u : TypeId} (hc : P.cellsOf e = 1) (he : P.underlying e = some (.int .u8)) (hu : P.underlying u = some (.int .u8)) (count off n : Nat) (hn : off + n ≤ count) : liesAt P P.depth e count off u n = true := by
  have hd : P.depth = (2 * (P.types.size + Made.depth) + 1) + 1 := rfl
  rw [hd]
  simp only [liesAt, Bool.or_eq_true]
  left
  rw [hd]
  simp [rowAt, hc, hn, sameLayout, he, hu, Nat.mod_one]

theorem run_loadNums {P : Program} : ∀ (l : List Int) (a : Addr) (acc : ByteArray), (∀ j x, l[j]? = some x → w.cell? (a.add j) = some (.int .u8 x)) →
    (loadBytes a acc l.length).run P w = .ok ⟨acc.data ++ (l.map fun n => UInt8.ofNat n.toNat).toArray⟩ w
  | [], a, acc, _ => by simp [loadBytes]
  | x :: l, a, acc, h => by
    have h0 : w.cell? a = some (.int .u8 x) := by
      have := h 0 x rfl
      simpa [Addr.add] using this
    have ih := run_loadNums (P := P) l (a.add 1) (acc.push x.toNat.toUInt8) (fun j y hy => by
      have := h (j + 1) y (by simpa using hy)
      have e : (a.add 1).add j = a.add (j + 1) := by
        unfold Addr.add
        by_cases hj : j = 0
        · subst hj; simp
        · simp [hj]; omega
      rw [e]; exact this)
    simp only [List.length_cons, loadBytes, Sem.run_bind, run_load, h0, Result.andThen]
    rw [ih]
    congr 1
    apply ByteArray.ext
    simp [ByteArray.push]

theorem freeze_heap {B o n : Nat} {ccs : Array Value} {e : TypeId} {fr : Nat × Nat} (h : w.heap[B]? = some (.cells ccs e fr)) (hn : n ≠ 0) :
    (∃ fr', (w.freeze ⟨B, o, none⟩ n).heap[B]? = some (.cells ccs e fr')) ∧ (∀ k, k ≠ B → (w.freeze ⟨B, o, none⟩ n).heap[k]? = w.heap[k]?) ∧ (w.freeze ⟨B, o, none⟩ n).heap.size = w.heap.size := by
  unfold World.freeze
  rw [if_neg hn]
  refine ⟨?_, ?_, ?_⟩
  · simp only []
    rw [Array.getElem?_modify, if_pos rfl, h]
    exact ⟨_, rfl⟩
  · intro k hk
    simp only []
    rw [Array.getElem?_modify, if_neg (fun e => hk e.symm)]
  · simp

theorem freeze_rest (w : World) (a : Addr) (n : Nat) : (w.freeze a n).os = w.os ∧ (w.freeze a n).tape = w.tape ∧ (w.freeze a n).output = w.output := by
  unfold World.freeze; split <;> exact ⟨rfl, rfl, rfl⟩

theorem unsafeStr_ok (H : T.Ok) (r : Rel N0 w0 φ h w) {pt pe ty : TypeId} {us : List TypeId} (hp : T.P.underlying pt = some (.pointer pe)) (hpe : isU8 T pe = true) {as : List AVal} {av nv : Value} (has : VRels φ as [av, nv]) {x : AVal} {h' : AHp}
    (hf : unsafeStrF T h as = some (x, h')) : EffOk T.P N0 w0 φ h h' w x (Builtin.unsafeString_ (pt :: us).toArray ty #[av, nv]) := by
  have hmax : IntKind.i64.max = 9223372036854775807 := rfl
  unfold unsafeStrF at hf
  split at hf
  · rename_i a k n
    cases has with
    | cons _ _ _ _ ha has => cases has with
      | cons _ _ _ _ hn _ =>
        cases hn
        cases hb0 : Nat.beq n 0 with
        | true =>
          rw [hb0] at hf; cases hf
          have := beq_true hb0; subst this
          refine ⟨φ, .string .empty, w, ?_, r, Post.refl _ _ _, .str ByteArray.empty⟩
          cases ha with
          | ptrN =>
            have hdef : Builtin.unsafeString_ (pt :: us).toArray ty #[.pointer none, .int k (Int.ofNat 0)] =
              (do
                let n ← asInt (.int k 0)
                if n < 0 then runtimePanic (.error "unsafe.String: len out of range")
                if n > IntKind.i64.max then unsupported (.unsafePointer "String: a length above the largest int")
                if n = 0 then pure (.string .empty)
                else runtimePanic (.error "unsafe.String: ptr is nil and len is not zero")) := rfl
            rw [hdef]
            simp [asInt, asIntOf, hmax]
          | ptr _ _ p hpp =>
            rename_i b o
            have hdef : Builtin.unsafeString_ (pt :: us).toArray ty #[.pointer (some ⟨p.blk, p.base + o, none⟩), .int k (Int.ofNat 0)] =
              (do
                let n ← asInt (.int k 0)
                if n < 0 then runtimePanic (.error "unsafe.String: len out of range")
                if n > IntKind.i64.max then unsupported (.unsafePointer "String: a length above the largest int")
                if n = 0 then pure (.string .empty)
                else if ← variablesAt ⟨p.blk, p.base + o, none⟩ (← elemOf pt) n.toNat then do
                  let s ← loadBytes ⟨p.blk, p.base + o, none⟩ .empty n.toNat
                  freeze ⟨p.blk, p.base + o, none⟩ n.toNat
                  pure (.string s)
                else unsupported (.unsafePointer "String: not so many bytes at ptr")) := rfl
            rw [hdef]
            simp [asInt, asIntOf, hmax]
        | false =>
          rw [hb0] at hf
          have hn0 := beq_false hb0
          simp only [cond_false] at hf
          unfold unsafeStrN at hf
          split at hf
          · cases hf
          · rename_i b o
            cases ha with
            | ptr _ _ p hpp =>
              unfold strDataB at hf
              split at hf
              · rename_i cs e frz soft hb
                replace hf := cond_some hf; obtain ⟨k1, hf⟩ := hf
                replace hf := cond_some hf; obtain ⟨k2, hf⟩ := hf
                replace hf := cond_some hf; obtain ⟨k3, hf⟩ := hf
                simp only [Bool.and_eq_true] at k1
                obtain ⟨k1, k1'⟩ := k1
                replace k2 := ble_true k2
                unfold strDataL at hf
                split at hf
                · cases hf
                · rename_i l hl
                  unfold freezeO at hf
                  split at hf
                  · cases hf
                  · rename_i s hs
                    cases hf
                    obtain ⟨j1, rfl⟩ := takeN_some _ _ _ _ hl
                    obtain ⟨ccs, fr, g1, g2⟩ := r.cells hb hpp
                    obtain ⟨vs, q1, q2, q3⟩ := g2.stretch o n j1
                    obtain ⟨ns, rfl, rfl⟩ := bytes_rel q1 hs
                    have hcells : T.P.cellsOf e = 1 := by
                      unfold sizeOne sizeA at k1'
                      cases hi : T.info? e with
                      | none => simp [hi] at k1'
                      | some ti =>
                        simp [hi] at k1'
                        simp [Program.cellsOf, H.info hi, k1']
                    have hsz := g2.room
                    have hln := g2.len
                    have hlies := liesAt_u8 hcells (isU8_under H k1) (isU8_under H hpe) (ccs.size / T.P.cellsOf e) (p.base + o) n (by rw [hcells, Nat.div_one]; omega)
                    have hnl : ns.length = n := by simpa using q2
                    have hlb := run_loadNums (P := T.P) (w := w) ns ⟨p.blk, p.base + o, none⟩ .empty (fun j y hy => by
                      rw [Addr.add_none, cell_of g1]
                      exact q3 j _ (by simp [hy]))
                    rw [hnl] at hlb
                    have hneg : ¬ (n : Int) < 0 := by omega
                    have h63 : ¬ (9223372036854775807 : Int) < (n : Int) := by omega
                    have hn1 : ¬ (n : Int) = 0 := by omega
                    have e0 : (pt :: us).toArray[0]? = some pt := by simp
                    obtain ⟨⟨fr', f1⟩, f2, f3⟩ := freeze_heap (o := p.base + o) g1 hn0
                    have f4 := freeze_rest w ⟨p.blk, p.base + o, none⟩ n
                    refine ⟨φ, .string ⟨(ns.map fun n => UInt8.ofNat n.toNat).toArray⟩, w.freeze ⟨p.blk, p.base + o, none⟩ n, ?_, ?_, ?_, ?_⟩
                    · have hdef : Builtin.unsafeString_ (pt :: us).toArray ty #[.pointer (some ⟨p.blk, p.base + o, none⟩), .int k (Int.ofNat n)] =
                        (do
                          let n ← asInt (.int k n)
                          if n < 0 then runtimePanic (.error "unsafe.String: len out of range")
                          if n > IntKind.i64.max then unsupported (.unsafePointer "String: a length above the largest int")
                          if n = 0 then pure (.string .empty)
                          else if ← variablesAt ⟨p.blk, p.base + o, none⟩ (← elemOf pt) n.toNat then do
                            let s ← loadBytes ⟨p.blk, p.base + o, none⟩ .empty n.toNat
                            freeze ⟨p.blk, p.base + o, none⟩ n.toNat
                            pure (.string s)
                          else unsupported (.unsafePointer "String: not so many bytes at ptr")) := rfl
                      rw [hdef]
                      have hempty : (ByteArray.empty.data ++ (List.map (fun n : Int => UInt8.ofNat n.toNat) ns).toArray) = (List.map (fun n : Int => UInt8.ofNat n.toNat) ns).toArray := by
                        show (#[] : Array UInt8) ++ _ = _
                        simp
                      rw [hempty] at hlb
                      simp [asInt, asIntOf, hmax, h63, hneg, hn0, variablesAt, World.shape?, g1, elemOf, run_under _ _ hp, hlies, hlb]
                    · refine r.upd hb hpp rfl (by rw [f3]; exact Nat.le_refl _) ⟨f4.1, f4.2.1, f4.2.2, by rw [f3]; exact Nat.le_refl _, fun k hk => f2 k (fun e => ?_)⟩ (fun B _ hB => f2 B hB) ⟨ccs, fr', f1, ⟨g2.hard, g2.len, g2.room, g2.cell, fun e => Bool.noConfusion e⟩⟩
                      have := r.old b p hpp (roOk_le k3); omega
                    · exact Post.upd hpp (by rw [f3]; exact Nat.le_refl _) (fun B _ hB => f2 B hB)
                    · have := VRel.str (φ := φ) ⟨(ns.map fun n => UInt8.ofNat n.toNat).toArray⟩
                      simpa using this
              · cases hf
  · cases hf

end Go.AE

/- Each operation, as it is laid, against the model's own. -/
namespace Go.AE
set_option autoImplicit false
open Go.RowKit Go.Lib
variable {T : Tab} {φ : Phi} {w : World} {e : AEnv} {n : Nat} {ρ : Operand → Value}

/-- The operands' values stand for what the environment says. -/
def OpsRel (T : Tab) (φ : Phi) (n : Nat) (e : AEnv) (ρ : Operand → Value) (l : List Operand) : Prop := ∀ x ∈ l, ∀ xx, xa T n x = some xx → VRel φ (xx.eval e) (ρ x)

def ValOk (P : Program) (φ : Phi) (w : World) (s : Sem Next) (r : AVal) : Prop := ∃ u, s.run P w = .ok (.value u) w ∧ VRel φ r u

def XSpec (T : Tab) (φ : Phi) (w : World) (e : AEnv) (s : Sem Next) : XOp → Prop
  | .p1 f x => ∀ r, f (x.eval e) = some r → ValOk T.P φ w s r
  | .p2 f x y => ∀ r, f (x.eval e) (y.eval e) = some r → ValOk T.P φ w s r
  | .pn f xs => ∀ r, f (evalAs e xs) = some r → ValOk T.P φ w s r
  | .r1 f x => ∀ N0 w0 h r, Rel N0 w0 φ h w → f h (x.eval e) = some r → ValOk T.P φ w s r
  | .r2 f x y => ∀ N0 w0 h r, Rel N0 w0 φ h w → f h (x.eval e) (y.eval e) = some r → ValOk T.P φ w s r
  | .al f xs => ∀ b k, f (evalAs e xs) = some (b, k) → ∃ s' : Sem Value, s = (do pure (.value (← s'))) ∧ AllocOk T.P φ w b k s'
  | .ef f xs => ∀ N0 w0 h h' x, Rel N0 w0 φ h w → f h (evalAs e xs) = some (x, h') → ∃ φ' u w', s.run T.P w = .ok (.value u) w' ∧ Rel N0 w0 φ' h' w' ∧ Post φ φ' h h' w w' ∧ VRel φ' x u
  | .st f x y => ∀ N0 w0 h h', Rel N0 w0 φ h w → f h (x.eval e) (y.eval e) = some h' → ∃ w', s.run T.P w = .ok .skip w' ∧ Rel N0 w0 φ h' w' ∧ Post φ φ h h' w w'
  | .sk f xs => ∀ N0 w0 h h', Rel N0 w0 φ h w → f h (evalAs e xs) = some h' → ∃ w', s.run T.P w = .ok .skip w' ∧ Rel N0 w0 φ h' w' ∧ Post φ φ h h' w w'
  | .cl f xs => ∃ fv args, s = (do let d ← Deferred.ofValue fv args; invoke d.target d.args) ∧ VRel φ (f.eval e) fv ∧ VRels φ (evalAs e xs) args.toList
  | .df f xs => ∃ fv args, s = (do pure (.defer (← Deferred.ofValue fv args))) ∧ VRel φ (f.eval e) fv ∧ VRels φ (evalAs e xs) args.toList
  | .rc => s.run T.P w = .ok .recover w

theorem val_of {P : Program} {s : Sem Value} {r : AVal} (h : ∃ u, s.run P w = .ok u w ∧ VRel φ r u) : ValOk P φ w (do pure (.value (← s))) r := by
  obtain ⟨u, h1, h2⟩ := h
  exact ⟨u, by simp [h1], h2⟩

theorem map_some {α β : Type} {f : α → β} {o : Option α} {y : β} (h : o.map f = some y) : ∃ x, o = some x ∧ y = f x := by
  cases o with
  | none => cases h
  | some x => cases h; exact ⟨x, rfl, rfl⟩

theorem x1_some {F : Option (AVal → Option AVal)} {x : Operand} {xo : XOp} (h : x1 T n F x = some xo) : ∃ f xx, F = some f ∧ xa T n x = some xx ∧ xo = .p1 f xx := by
  unfold x1 at h
  split at h
  · cases h
  · obtain ⟨xx, h1, h2⟩ := map_some h; exact ⟨_, xx, rfl, h1, h2⟩

theorem mk2_some {α : Type} {k : XA → XA → α} {a b : Option XA} {r : α} (h : mk2 k a b = some r) : ∃ x y, a = some x ∧ b = some y ∧ r = k x y := by
  cases a <;> cases b <;> simp [mk2] at h
  exact ⟨_, _, rfl, rfl, h.symm⟩

theorem x2_some {F : Option BinF} {x y : Operand} {xo : XOp} (h : x2 T n F x y = some xo) : ∃ f xx yy, F = some f ∧ xa T n x = some xx ∧ xa T n y = some yy ∧ xo = .p2 f xx yy := by
  unfold x2 at h
  split at h
  · cases h
  · obtain ⟨xx, yy, h1, h2, h3⟩ := mk2_some h; exact ⟨_, xx, yy, rfl, h1, h2, h3⟩

theorem xs_some {k : List XA → XOp} {l : List Operand} {xo : XOp} (h : xs T n k l = some xo) : ∃ xx, mapA (xa T n) l = some xx ∧ xo = k xx := by
  unfold xs at h
  obtain ⟨xx, h1, h2⟩ := map_some h
  exact ⟨xx, h1, h2⟩

theorem OpsRel.one {l : List Operand} (hr : OpsRel T φ n e ρ l) {x : Operand} {xx : XA} (hm : x ∈ l) (h : xa T n x = some xx) : VRel φ (xx.eval e) (ρ x) := hr x hm xx h

theorem OpsRel.all : ∀ {l : List Operand} {xx : List XA}, OpsRel T φ n e ρ l → mapA (xa T n) l = some xx → VRels φ (evalAs e xx) (l.map ρ)
  | [], xx, _, h => by simp [mapA] at h; subst h; exact .nil
  | x :: l, xx, hr, h => by
    obtain ⟨y, ys, h1, h2, rfl⟩ := mapA_cons h
    exact .cons _ _ _ _ (hr x (by simp) y h1) (OpsRel.all (fun z hz => hr z (by simp [hz])) h2)

theorem OpsRel.sub {l m : List Operand} (hr : OpsRel T φ n e ρ l) (h : ∀ x ∈ m, x ∈ l) : OpsRel T φ n e ρ m := fun x hx => hr x (h x hx)

theorem nilCheck_ok {P : Program} {a r : AVal} {v : Value} (ha : VRel φ a v) (hf : nilCheckA a = some r) : (∀ (o : Oper) (x : Operand), o.op = .nilCheck x → ρ x = v → ValOk P φ w (execOp ρ o) r) := by
  intro o x ho hx
  unfold nilCheckA at hf
  unfold execOp
  rw [ho]
  simp only [hx]
  split at hf
  · cases hf; cases ha with
    | ptr b o p hp => exact ⟨_, rfl, .ptr b o p hp⟩
  · cases hf; cases ha with
    | func _ _ _ a' c' h1 h2 => exact ⟨_, rfl, .func _ _ _ a' c' h1 h2⟩
  · cases hf; cases ha with
    | iface _ _ v h => exact ⟨_, rfl, .iface _ _ v h⟩
  · cases hf

theorem pick_ok {P : Program} {as : List AVal} {r : AVal} {c a b : Value} (ha : VRels φ as [c, a, b]) (hf : pickF as = some r) : ValOk P φ w (do pure (.value (if ← asBool c then a else b))) r := by
  unfold pickF at hf
  split at hf
  · cases hf
    cases ha with
    | cons _ _ _ _ h1 ha => cases ha with
      | cons _ _ _ _ h2 ha => cases h1; exact ⟨a, by simp [asBool], h2⟩
  · cases hf
    cases ha with
    | cons _ _ _ _ h1 ha => cases ha with
      | cons _ _ _ _ h2 ha => cases ha with
        | cons _ _ _ _ h3 ha => cases h1; exact ⟨b, by simp [asBool], h3⟩
  · cases hf

theorem opt1_ok {o : Option Operand} {vs vs' : List AVal} {us : List Value} {a : Option AVal} (hr : VRels φ vs ((optL o).map ρ ++ us)) (h : opt1 o.isSome vs = some (a, vs')) : ORel φ a (o.map ρ) ∧ VRels φ vs' us ∧ a.isSome = o.isSome := by
  cases o with
  | none => simp [opt1] at h; obtain ⟨rfl, rfl⟩ := h; exact ⟨.none, by simpa [optL] using hr, rfl⟩
  | some x =>
    simp [optL] at hr
    cases hr with
    | cons b v bs us h1 h2 =>
      simp [opt1] at h; obtain ⟨rfl, rfl⟩ := h
      exact ⟨.some _ _ h1, h2, rfl⟩

theorem opt3_ok {lo hi mx : Option Operand} {vs : List AVal} {k : Option AVal → Option AVal → Option AVal → Option AVal} {r : AVal} (hr : VRels φ vs ((optL lo ++ (optL hi ++ optL mx)).map ρ)) (h : opt3 lo.isSome hi.isSome mx.isSome k vs = some r) :
    ∃ a b c, k a b c = some r ∧ ORel φ a (lo.map ρ) ∧ ORel φ b (hi.map ρ) ∧ ORel φ c (mx.map ρ) ∧ b.isSome = hi.isSome ∧ c.isSome = mx.isSome := by
  unfold opt3 at h
  simp only [List.map_append] at hr
  split at h
  · cases h
  · rename_i x vs1 h1
    obtain ⟨r1, r2, r3⟩ := opt1_ok hr h1
    split at h
    · cases h
    · rename_i y vs2 h2
      obtain ⟨s1, s2, s3⟩ := opt1_ok r2 h2
      split at h
      · cases h
      · rename_i z h3
        obtain ⟨t1, t2, t3⟩ := opt1_ok (us := []) (by simpa using s2) h3
        exact ⟨x, y, z, h, r1, s1, t1, s3, t3⟩
      · cases h

theorem slice_spec (H : T.Ok) {t : TypeId} {x : Operand} {lo hi mx : Option Operand} {xo : XOp} (h : xslice T n t x lo hi mx = some xo) (hr : OpsRel T φ n e ρ (x :: (optL lo ++ (optL hi ++ optL mx)))) :
    XSpec T φ w e (do pure (.value (← Instr.sliceAt t (ρ x) (lo.map ρ) (hi.map ρ) (mx.map ρ)))) xo := by
  unfold xslice at h
  replace h := cond_none h; obtain ⟨hmh, h⟩ := h
  have hmm : ∀ {b c : Option AVal}, b.isSome = hi.isSome → c.isSome = mx.isSome → (c.isSome && b.isNone) = false := by
    intro b c h1 h2
    rw [h2, ← Option.not_isSome b, h1, Option.not_isSome]; exact hmh
  split at h
  · rename_i hu
    replace h := cond_none h; obtain ⟨hm, h⟩ := h
    obtain ⟨xx, h1, rfl⟩ := xs_some h
    intro r hf
    have hv := OpsRel.all hr h1
    obtain ⟨y, ys, e1, e2, rfl⟩ := mapA_cons h1
    cases hv with
    | cons _ _ _ _ v1 v2 =>
      simp only [evalAs, headF] at hf
      obtain ⟨a, b, c, k1, k2, k3, k4, k5, k6⟩ := opt3_ok v2 hf
      have : mx = none := by cases mx <;> simp at hm ⊢
      subst this
      cases k4
      exact val_of (sliceStr_ok H w (H.under hu) v1 k2 k3 k1)
  · rename_i el hu
    split at h
    · cases h
    · rename_i size hs
      obtain ⟨xx, h1, rfl⟩ := xs_some h
      intro r hf
      have hv := OpsRel.all hr h1
      obtain ⟨y, ys, e1, e2, rfl⟩ := mapA_cons h1
      cases hv with
      | cons _ _ _ _ v1 v2 =>
        simp only [evalAs, headF] at hf
        obtain ⟨a, b, c, k1, k2, k3, k4, k5, k6⟩ := opt3_ok v2 hf
        rw [← k6] at k1
        exact val_of (sliceSl_ok H w (H.under hu) hs v1 k2 k3 k4 (hmm k5 k6) k1)
  · rename_i len el hu
    split at h
    · cases h
    · rename_i size hs
      obtain ⟨xx, h1, rfl⟩ := xs_some h
      intro r hf
      have hv := OpsRel.all hr h1
      obtain ⟨y, ys, e1, e2, rfl⟩ := mapA_cons h1
      cases hv with
      | cons _ _ _ _ v1 v2 =>
        simp only [evalAs, headF] at hf
        obtain ⟨a, b, c, k1, k2, k3, k4, k5, k6⟩ := opt3_ok v2 hf
        exact val_of (sliceArr_ok H w (H.under hu) hs v1 k2 k3 k4 (hmm k5 k6) k1)
  · cases h

end Go.AE

/- Each operation, as it is laid, against the model's own: all of them. -/
namespace Go.AE
set_option autoImplicit false
open Go.RowKit Go.Lib
variable {T : Tab} {φ : Phi} {w : World} {e : AEnv} {n : Nat} {ρ : Operand → Value}

theorem al_spec {f : AlF} {xs : List XA} {s : Sem Value} (h : ∀ b k, f (evalAs e xs) = some (b, k) → AllocOk T.P φ w b k s) : XSpec T φ w e (do pure (.value (← s))) (.al f xs) := fun b k hf => ⟨s, rfl, h b k hf⟩

theorem convert_spec (H : T.Ok) {src dst : TypeId} {x : Operand} {xo : XOp} (h : xconvert T n src dst x = some xo) (hr : OpsRel T φ n e ρ [x]) : XSpec T φ w e (do pure (.value (← convert src dst (ρ x)))) xo := by
  unfold xconvert at h
  split at h
  · rename_i j hs
    split at h
    · rename_i k hd
      obtain ⟨xx, h1, rfl⟩ := map_some h
      intro r hf
      exact val_of (convInt_ok H w (H.under hs) (H.under hd) (hr.one (by simp) h1) hf)
    · cases h
  · rename_i hs
    split at h
    · rename_i hd
      obtain ⟨xx, h1, rfl⟩ := map_some h
      intro r hf
      exact val_of (strId_ok H w (H.under hs) (H.under hd) (hr.one (by simp) h1) hf)
    · rename_i el hd
      replace h := cond_some h; obtain ⟨he, h⟩ := h
      obtain ⟨xx, h1, rfl⟩ := xs_some h
      refine al_spec fun b k hf => ?_
      exact toBytes_ok H (H.under hs) (H.under hd) he (by simpa using OpsRel.all hr h1) hf
    · cases h
  · rename_i el hs
    split at h
    · rename_i hd
      replace h := cond_some h; obtain ⟨he, h⟩ := h
      obtain ⟨xx, h1, rfl⟩ := map_some h
      intro N0 w0 hh r rel hf
      exact val_of (toStr_ok H rel (H.under hs) (H.under hd) he (hr.one (by simp) h1) hf)
    · cases h
  · rename_i t hs
    split at h
    · rename_i hd
      replace h := cond_none h; obtain ⟨he, h⟩ := h
      obtain ⟨xx, h1, rfl⟩ := map_some h
      intro N0 w0 hh r rel hf
      exact val_of (toUnsafe_ok H rel (H.under hs) (H.under hd) he (hr.one (by simp) h1) hf)
    · cases h
  · rename_i hs
    split at h
    · rename_i u hd
      replace h := cond_some h; obtain ⟨he, h⟩ := h
      obtain ⟨xx, h1, rfl⟩ := map_some h
      intro N0 w0 hh r rel hf
      exact val_of (ofUnsafe_ok H rel (H.under hs) (H.under hd) he (hr.one (by simp) h1) hf)
    · cases h
  · cases h

theorem foldF_max {P : Program} {ts : Array TypeId} {ty : TypeId} {as : List AVal} {vs : List Value} {r : AVal} (hv : VRels φ as vs) (hf : foldF maxI as = some r) : ∃ z, (Builtin.max_ ts ty vs.toArray).run P w = .ok z w ∧ VRel φ r z := by
  unfold foldF at hf
  split at hf
  · cases hv with
    | cons _ _ _ _ h1 h2 =>
      cases h1
      simpa [Builtin.max_] using foldA_max _ _ _ _ _ w P h2 hf
  · cases hf

theorem foldF_min {P : Program} {ts : Array TypeId} {ty : TypeId} {as : List AVal} {vs : List Value} {r : AVal} (hv : VRels φ as vs) (hf : foldF minI as = some r) : ∃ z, (Builtin.min_ ts ty vs.toArray).run P w = .ok z w ∧ VRel φ r z := by
  unfold foldF at hf
  split at hf
  · cases hv with
    | cons _ _ _ _ h1 h2 =>
      cases h1
      simpa [Builtin.min_] using foldA_min _ _ _ _ _ w P h2 hf
  · cases hf

theorem eff_spec {P : Program} {N0 : Nat} {w0 : World} {h h' : AHp} {x : AVal} {s : Sem Value} (hh : EffOk P N0 w0 φ h h' w x s) : ∃ φ' u w', (do pure (.value (← s)) : Sem Next).run P w = .ok (.value u) w' ∧ Rel N0 w0 φ' h' w' ∧ Post φ φ' h h' w w' ∧ VRel φ' x u := by
  obtain ⟨φ', u, w', h1, h2, h3, h4⟩ := hh
  exact ⟨φ', u, w', by simp [h1], h2, h3, h4⟩

theorem builtin_spec (H : T.Ok) {rok : Bool} {b : Builtin} {ts : List TypeId} {args : List Operand} {xo : XOp} {ty : TypeId} {consts : Array Bool} (h : xbuiltin T n rok b ts args = some xo) (hr : OpsRel T φ n e ρ args) :
    XSpec T φ w e (builtin b ts.toArray ty consts (args.map ρ).toArray) xo := by
  unfold xbuiltin at h
  split at h
  · -- len
    unfold xlen at h
    split at h
    · rename_i t x
      cases hm : isMapT T t with
      | true =>
        rw [hm] at h
        obtain ⟨xx, h1, rfl⟩ := map_some h
        intro N0 w0 hh r rel hf
        exact val_of (lenMap_ok H rel hm (hr.one (by simp) h1) hf)
      | false =>
        rw [hm] at h
        obtain ⟨f, xx, h1, h2, rfl⟩ := x1_some h
        intro r hf
        exact val_of (lenT_ok H w h1 (hr.one (by simp) h2) hf)
    · cases h
  · -- cap
    unfold xcap at h
    split at h
    · rename_i t x
      split at h
      · rename_i el hu
        obtain ⟨f, xx, h1, h2, rfl⟩ := x1_some h
        cases h1
        intro r hf
        exact val_of (capSl_ok w (H.under hu) (hr.one (by simp) h2) hf)
      · cases h
    · cases h
  · -- append
    unfold xappend at h
    split at h
    · rename_i t us s x
      replace h := cond_some h; obtain ⟨hz, h⟩ := h
      split at h
      · cases h
      · rename_i i hi
        obtain ⟨xx, h1, rfl⟩ := xs_some h
        intro N0 w0 hh h' r rel hf
        exact eff_spec (append_ok H rel hz hi (by simpa using OpsRel.all hr h1) hf)
    · cases h
  · -- copy
    unfold xcopy at h
    split at h
    · rename_i t us s x
      split at h
      · cases h
      · rename_i el hel
        split at h
        · cases h
        · rename_i size hs
          obtain ⟨xx, h1, rfl⟩ := xs_some h
          intro N0 w0 hh h' r rel hf
          exact eff_spec (copy_ok H rel (elemSl_under H hel) hs (by simpa using OpsRel.all hr h1) hf)
    · cases h
  · obtain ⟨xx, h1, rfl⟩ := xs_some h
    intro r hf
    exact val_of (foldF_max (OpsRel.all hr h1) hf)
  · obtain ⟨xx, h1, rfl⟩ := xs_some h
    intro r hf
    exact val_of (foldF_min (OpsRel.all hr h1) hf)
  · -- data
    unfold xdata at h
    split at h
    · rename_i x
      obtain ⟨f, xx, h1, h2, rfl⟩ := x1_some h
      cases h1
      intro r hf
      exact val_of (sliceData_ok T.P w (hr.one (by simp) h2) hf)
    · cases h
  · -- string
    unfold xunsafeStr at h
    split at h
    · rename_i pt us x y
      split at h
      · rename_i pe hp
        replace h := cond_some h; obtain ⟨hz, h⟩ := h
        obtain ⟨xx, h1, rfl⟩ := xs_some h
        intro N0 w0 hh h' r rel hf
        exact eff_spec (unsafeStr_ok H rel (H.under hp) hz (by simpa using OpsRel.all hr h1) hf)
      · cases h
    · cases h
  · -- recover
    replace h := cond_some h; obtain ⟨hz, h⟩ := h
    cases h
    rfl
  · cases h

end Go.AE

/- Each operation, as it is laid, against the model's own: the whole. -/
namespace Go.AE
set_option autoImplicit false
open Go.RowKit Go.Lib
variable {T : Tab} {φ : Phi} {w : World} {e : AEnv} {n : Nat} {ρ : Operand → Value}

theorem build_spec (H : T.Ok) {t : TypeId} {ps : Array (Nat × Operand)} {xo : XOp} (h : xbuild T n t ps.toList = some xo) (hr : OpsRel T φ n e ρ (ps.toList.map (·.2))) : XSpec T φ w e (do pure (.value (← Instr.build t (ps.map fun (i, x) => (i, ρ x))))) xo := by
  obtain ⟨ps⟩ := ps
  unfold xbuild at h
  split at h
  · cases h
  · rename_i z hz
    split at h
    · cases h
    · rename_i pf hpf
      split at h
      · cases h
      · rename_i pl hpl
        obtain ⟨xx, h1, rfl⟩ := xs_some h
        intro r hf
        have hv := OpsRel.all hr h1
        have e1 : (Array.mk ps).map (fun (x : Nat × Operand) => (x.1, ρ x.2)) = ⟨ps.map fun x => (x.1, ρ x.2)⟩ := by simp
        rw [show (Array.mk ps).map (fun x => match x with | (i, x) => (i, ρ x)) = ⟨ps.map fun x => (x.1, ρ x.2)⟩ from e1]
        have hpl' : mapA (fun p : Nat × Value => pf p.1) (ps.map fun x => (x.1, ρ x.2)) = some pl := by
          rw [← hpl]
          clear hpl hv h1 h hr hf e1
          induction ps with
          | nil => rfl
          | cons p ps ih => simp only [List.map_cons, mapA, ih]
        exact val_of (build_ok H hz hpf hpl' (by simpa [List.map_map, Function.comp_def] using hv) hf w)

theorem buildSlice_spec (H : T.Ok) {t : TypeId} {len : Nat} {ps : Array (Nat × Operand)} {xo : XOp} (h : xbuildSlice T n t len ps.toList = some xo) (hr : OpsRel T φ n e ρ (ps.toList.map (·.2))) :
    XSpec T φ w e (do pure (.value (← Instr.buildSlice t len (ps.map fun (i, x) => (i, ρ x))))) xo := by
  obtain ⟨ps⟩ := ps
  unfold xbuildSlice at h
  split at h
  · cases h
  · rename_i i hi
    replace h := cond_some h; obtain ⟨hl, h⟩ := h
    obtain ⟨xx, h1, rfl⟩ := xs_some h
    have hv := OpsRel.all hr h1
    have e1 : (Array.mk ps).map (fun (x : Nat × Operand) => (x.1, ρ x.2)) = ⟨ps.map fun x => (x.1, ρ x.2)⟩ := by simp
    rw [show (Array.mk ps).map (fun x => match x with | (i, x) => (i, ρ x)) = ⟨ps.map fun x => (x.1, ρ x.2)⟩ from e1]
    refine al_spec fun b k hf => ?_
    exact buildSlice_ok H hi hl (ps := ps.map fun x => (x.1, ρ x.2)) (by simpa [List.map_map, Function.comp_def] using hv) (by simpa [List.map_map, Function.comp_def] using hf)

theorem box1 {P : Program} {t : TypeId} {as : List AVal} {v : Value} (hv : VRels φ as [v]) {b : ABlk} {k : AKind} (hf : boxF t as = some (b, k)) : AllocOk P φ w b k (Instr.box t v) := by
  unfold boxF at hf
  split at hf
  · replace hf := cond_some hf; obtain ⟨ha, hf⟩ := hf
    cases hf
    cases hv with
    | cons _ _ _ _ h1 _ => exact box_ok P h1 ha t
  · cases hf

theorem alloc1 (H : T.Ok) {t : TypeId} {z : AVal} (hz : zeroA T t = some z) (hall : allOne z.cells = true) {as : List AVal} {b : ABlk} {k : AKind} (hf : allocF t z.cells as = some (b, k)) : AllocOk T.P φ w b k (Instr.alloc t true (.tuple #[])) := by
  unfold allocF at hf
  split at hf
  · cases hf; exact alloc_ok H hz hall
  · cases hf

theorem makeMap1 {P : Program} {t : TypeId} {as : List AVal} {b : ABlk} {k : AKind} (hf : makeMapF as = some (b, k)) : AllocOk P φ w b k (Instr.makeMap t none) := by
  unfold makeMapF at hf
  split at hf
  · cases hf; exact makeMap_ok P t
  · cases hf

set_option maxHeartbeats 1000000 in
theorem xop_ok (H : T.Ok) {rok : Bool} {o : Oper} {xo : XOp} (h : xop T n rok o.op = some xo) (hr : OpsRel T φ n e ρ o.op.operands.toList) : XSpec T φ w e (execOp ρ o) xo := by
  unfold xop at h
  split at h <;> rename_i ho <;> first | (rw [ho] at hr; unfold execOp; rw [ho]) | skip
  · obtain ⟨xx, h1, rfl⟩ := map_some h
    intro r hf; cases hf; exact ⟨_, rfl, hr.one (by simp [Op.operands]) h1⟩
  · obtain ⟨xx, h1, rfl⟩ := map_some h
    intro r hf; cases hf; exact ⟨_, rfl, hr.one (by simp [Op.operands]) h1⟩
  · obtain ⟨xx, h1, rfl⟩ := xs_some h
    intro r hf
    exact pick_ok (by simpa using OpsRel.all (by simpa [Op.operands] using hr) h1) hf
  · -- alloc
    unfold xalloc at h
    split at h
    · cases h
    · rename_i z hz
      replace h := cond_some h; obtain ⟨ha, h⟩ := h
      cases h
      exact al_spec fun b k hf => alloc1 H hz ha hf
  · obtain ⟨xx, h1, rfl⟩ := xs_some h
    exact al_spec fun b k hf => box1 (by simpa using OpsRel.all (by simpa [Op.operands] using hr) h1) hf
  · exact build_spec H h (by simpa [Op.operands] using hr)
  · exact buildSlice_spec H h (by simpa [Op.operands] using hr)
  · -- load
    unfold xload at h
    split at h
    · cases h
    · rename_i ha
      obtain ⟨xx, h1, rfl⟩ := map_some h
      intro N0 w0 hh r rel hf
      exact val_of (ld_ok H rel ha (hr.one (by simp [Op.operands]) h1) hf)
    · rename_i m ha
      obtain ⟨xx, h1, rfl⟩ := map_some h
      intro N0 w0 hh r rel hf
      exact val_of (ld_ok H rel ha (hr.one (by simp [Op.operands]) h1) hf)
  · -- store
    unfold xstore at h
    split at h
    · cases h
    · rename_i m hm
      replace h := cond_none h; obtain ⟨ha, h⟩ := h
      obtain ⟨xx, yy, h1, h2, rfl⟩ := mk2_some h
      intro N0 w0 hh h' rel hf
      obtain ⟨w', k1, k2, k3⟩ := st_ok H rel hm (hr.one (by simp [Op.operands]) h1) (hr.one (by simp [Op.operands]) h2) hf
      exact ⟨w', by simp [k1], k2, k3⟩
  · -- nilCheck
    rename_i x
    obtain ⟨f, xx, h1, h2, rfl⟩ := x1_some h
    cases h1
    intro r hf
    have := nilCheck_ok (P := T.P) (w := w) (hr.one (by simp [Op.operands]) h2) hf o x ho rfl
    unfold execOp at this
    rw [ho] at this
    exact this
  · obtain ⟨f, xx, yy, h1, h2, h3, rfl⟩ := x2_some h
    intro r hf
    exact val_of (binT_ok H w h1 (hr.one (by simp [Op.operands]) h2) (hr.one (by simp [Op.operands]) h3) hf)
  · obtain ⟨f, xx, h1, h2, rfl⟩ := x1_some h
    intro r hf
    exact val_of (unT_ok w h1 (hr.one (by simp [Op.operands]) h2) hf)
  · exact convert_spec H h (by simpa [Op.operands] using hr)
  · unfold xiface at h
    replace h := cond_none h; obtain ⟨hi, h⟩ := h
    obtain ⟨xx, h1, rfl⟩ := map_some h
    intro r hf
    exact val_of (iface_ok H w hi (hr.one (by simp [Op.operands]) h1) hf)
  · -- makeFunc
    rename_i fn a c
    unfold xmakeFunc at h
    split at h
    · rename_i f
      obtain ⟨xx, h1, rfl⟩ := xs_some h
      intro r hf
      have hv := OpsRel.all (φ := φ) (e := e) (ρ := ρ) (by simpa [Op.operands] using hr) h1
      cases hf
      have hl : (a.toList.map ρ).length = a.toList.length := by simp
      refine ⟨.func (.func f) (a.map ρ) (c.map ρ), rfl, ?_⟩
      have e1 : a.map ρ = ⟨a.toList.map ρ⟩ := by apply Array.ext'; simp
      have e2 : c.map ρ = ⟨c.toList.map ρ⟩ := by apply Array.ext'; simp
      rw [e1, e2]
      simp only [List.map_append] at hv
      refine .func _ _ _ _ _ ?_ ?_
      · have := hv.take a.toList.length
        have e3 : (List.map ρ a.toList ++ List.map ρ c.toList).take a.toList.length = List.map ρ a.toList := by rw [← hl]; exact List.take_left
        rw [e3] at this; exact this
      · have := hv.drop a.toList.length
        have e3 : (List.map ρ a.toList ++ List.map ρ c.toList).drop a.toList.length = List.map ρ c.toList := by rw [← hl]; exact List.drop_left
        rw [e3] at this; exact this
    · cases h
  · cases h
    exact al_spec fun b k hf => makeMap1 hf
  · -- makeSlice
    unfold xmakeSlice at h
    split at h
    · cases h
    · rename_i i hi
      obtain ⟨xx, h1, rfl⟩ := xs_some h
      exact al_spec fun b k hf => makeSlice_ok H hi (by simpa using OpsRel.all (by simpa [Op.operands] using hr) h1) hf
  · -- slice
    rename_i t x lo hi mx
    refine slice_spec H h (hr.sub fun y hy => ?_)
    cases lo <;> cases hi <;> cases mx <;> simpa [Op.operands, optL] using hy
  · obtain ⟨f, xx, h1, h2, rfl⟩ := x1_some h
    intro r hf
    exact val_of (fieldAt_ok H w h1 (hr.one (by simp [Op.operands]) h2) hf)
  · obtain ⟨f, xx, h1, h2, rfl⟩ := x1_some h
    intro r hf
    exact val_of (field_ok H w h1 (hr.one (by simp [Op.operands]) h2) hf)
  · obtain ⟨f, xx, yy, h1, h2, h3, rfl⟩ := x2_some h
    intro r hf
    exact val_of (indexAt_ok H w h1 (hr.one (by simp [Op.operands]) h2) (hr.one (by simp [Op.operands]) h3) hf)
  · obtain ⟨f, xx, yy, h1, h2, h3, rfl⟩ := x2_some h
    intro r hf
    exact val_of (index_ok H w h1 (hr.one (by simp [Op.operands]) h2) (hr.one (by simp [Op.operands]) h3) hf)
  · -- lookup
    unfold xlookup at h
    split at h
    · cases h
    · rename_i eq et ht
      split at h
      · cases h
      · rename_i z hz
        obtain ⟨xx, yy, h1, h2, rfl⟩ := mk2_some h
        intro N0 w0 hh r rel hf
        exact val_of (lookup_ok H rel ht hz (hr.one (by simp [Op.operands]) h1) (hr.one (by simp [Op.operands]) h2) hf)
  · -- update
    unfold xupdate at h
    split at h
    · cases h
    · rename_i eq et ht
      obtain ⟨xx, h1, rfl⟩ := xs_some h
      intro N0 w0 hh h' rel hf
      obtain ⟨w', k1, k2, k3⟩ := update_ok H rel ht (by simpa using OpsRel.all (by simpa [Op.operands] using hr) h1) hf
      exact ⟨w', by simp [k1], k2, k3⟩
  · unfold xupdate at h
    split at h
    · cases h
    · rename_i eq et ht
      obtain ⟨xx, h1, rfl⟩ := xs_some h
      intro N0 w0 hh h' rel hf
      obtain ⟨w', k1, k2, k3⟩ := update_ok H rel ht (by simpa using OpsRel.all (by simpa [Op.operands] using hr) h1) hf
      exact ⟨w', by simp [k1], k2, k3⟩
  · -- typeAssert
    unfold xassert at h
    replace h := cond_none h; obtain ⟨hi, h⟩ := h
    split at h
    · cases h
    · rename_i z hz
      obtain ⟨xx, h1, rfl⟩ := map_some h
      intro r hf
      exact val_of (assert_ok H w hi hz (hr.one (by simp [Op.operands]) h1) hf)
  · obtain ⟨f, xx, h1, h2, rfl⟩ := x1_some h
    cases h1
    intro r hf
    exact val_of (extract_ok T.P w (hr.one (by simp [Op.operands]) h2) hf)
  · -- call
    rename_i c
    unfold xcall at h
    split at h
    · rename_i f hc
      unfold xcl at h
      split at h
      · cases h
      · rename_i ff hff
        obtain ⟨xx, h1, rfl⟩ := xs_some h
        refine ⟨ρ f, c.args.map ρ, by simp only [resolve, hc], hr.one (by simp [Op.operands, Call.operands, hc]) hff, ?_⟩
        have := OpsRel.all (φ := φ) (e := e) (ρ := ρ) (hr.sub (by intro x hx; simp [Op.operands, Call.operands, hc]; exact .inr (by simpa using hx))) h1
        simpa using this
    · rename_i b hc
      have := builtin_spec (φ := φ) (w := w) (e := e) (ρ := ρ) H (ty := o.type) (consts := c.args.map fun | .const _ => true | _ => false) h (hr.sub (by intro x hx; simp [Op.operands, Call.operands, hc]; simpa using hx))
      have e1 : (c.args.toList.map ρ).toArray = c.args.map ρ := by apply Array.ext'; simp
      have e2 : c.argTypes.toList.toArray = c.argTypes := by simp
      rw [e1, e2] at this
      simp only [resolve, hc]
      exact this
    · cases h
  · -- defer
    rename_i c
    unfold xdefer at h
    split at h
    · rename_i f hc
      replace h := cond_some h; obtain ⟨hi, h⟩ := h
      unfold xcl at h
      split at h
      · cases h
      · rename_i ff hff
        obtain ⟨xx, h1, rfl⟩ := xs_some h
        refine ⟨ρ f, c.args.map ρ, by simp only [resolve, hc], hr.one (by simp [Op.operands, Call.operands, hc]) hff, ?_⟩
        have := OpsRel.all (φ := φ) (e := e) (ρ := ρ) (hr.sub (by intro x hx; simp [Op.operands, Call.operands, hc]; exact .inr (by simpa using hx))) h1
        simpa using this
    · cases h
  · cases h

end Go.AE
