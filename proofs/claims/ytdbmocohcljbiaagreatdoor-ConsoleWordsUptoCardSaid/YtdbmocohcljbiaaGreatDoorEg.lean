/- The evaluator over plain recursors is equal to the elder one. -/
import Derived.Test.YtdbmocohcljbiaaGreatDoorEb
/- The hot recursions of the evaluator once more, by the recursors themselves: the kernel runs them in fewer steps. Each is shown equal to the elder one. -/
namespace Go.AE
set_option autoImplicit false

/-- A choice: one step that the kernel must unfold (so that its loops do not nest), and one recursor. -/
noncomputable def sel {α : Type} (b : Bool) (x y : α) : α := Bool.rec (motive := fun _ => α) y x b
theorem sel_eq {α : Type} (b : Bool) (x y : α) : sel b x y = cond b x y := by cases b <;> rfl

section
variable {α : Type}
noncomputable def getR (p : List Bool) : Tr α → Option α :=
  List.rec (motive := fun _ => Tr α → Option α)
    (fun t => Tr.rec (motive := fun _ => Option α) none (fun v _ _ _ _ => v) t)
    (fun b _ ih t => Tr.rec (motive := fun _ => Option α) none (fun _ l r _ _ => Bool.rec (motive := fun _ => Option α) (ih r) (ih l) b) t) p
theorem getR_eq : ∀ (p : List Bool) (t : Tr α), getR p t = t.getP p
  | [], .leaf => rfl
  | [], .node _ _ _ => rfl
  | _ :: _, .leaf => rfl
  | true :: p, .node _ l _ => getR_eq p l
  | false :: p, .node _ _ r => getR_eq p r

noncomputable def setR (p : List Bool) (x : α) : Tr α → Tr α :=
  List.rec (motive := fun _ => Tr α → Tr α)
    (fun t => Tr.rec (motive := fun _ => Tr α) (.node (some x) .leaf .leaf) (fun _ l r _ _ => .node (some x) l r) t)
    (fun b _ ih t => Tr.rec (motive := fun _ => Tr α)
      (Bool.rec (motive := fun _ => Tr α) (.node none .leaf (ih .leaf)) (.node none (ih .leaf) .leaf) b)
      (fun v l r _ _ => Bool.rec (motive := fun _ => Tr α) (.node v l (ih r)) (.node v (ih l) r) b) t) p
theorem setR_eq (x : α) : ∀ (p : List Bool) (t : Tr α), setR p x t = Tr.setP p t x
  | [], .leaf => rfl
  | [], .node _ _ _ => rfl
  | true :: p, .leaf => by show Tr.node none (setR p x .leaf) .leaf = Tr.node none (Tr.setP p .leaf x) .leaf; rw [setR_eq x p]
  | false :: p, .leaf => by show Tr.node none .leaf (setR p x .leaf) = Tr.node none .leaf (Tr.setP p .leaf x); rw [setR_eq x p]
  | true :: p, .node v l r => by show Tr.node v (setR p x l) r = Tr.node v (Tr.setP p l x) r; rw [setR_eq x p]
  | false :: p, .node v l r => by show Tr.node v l (setR p x r) = Tr.node v l (Tr.setP p r x); rw [setR_eq x p]

theorem half_odd {f i : Nat} (h : i + 1 < 2 ^ (f + 1)) (h1 : Nat.beq (Nat.mod i 2) 1 = true) : Nat.div i 2 + 1 < 2 ^ f := by
  have h2 : i % 2 = 1 := Nat.eq_of_beq_eq_true h1
  show i / 2 + 1 < 2 ^ f
  have : 2 ^ (f + 1) = 2 ^ f + 2 ^ f := by rw [Nat.pow_succ]; omega
  omega
theorem half_even {f i : Nat} (h : i + 1 < 2 ^ (f + 1)) (h0 : Nat.beq i 0 = false) (h1 : Nat.beq (Nat.mod i 2) 1 = false) : Nat.sub (Nat.div i 2) 1 + 1 < 2 ^ f := by
  have hi : i ≠ 0 := fun e => by subst e; cases h0
  have h2 : i % 2 ≠ 1 := fun e => by rw [show Nat.mod i 2 = i % 2 from rfl, e] at h1; cases h1
  show i / 2 - 1 + 1 < 2 ^ f
  have : 2 ^ (f + 1) = 2 ^ f + 2 ^ f := by rw [Nat.pow_succ]; omega
  omega

theorem get_path : ∀ (f i : Nat) (t : Tr α), i + 1 < 2 ^ f → t.get i = t.getP (path f i)
  | 0, i, t, h => by simp at h
  | f + 1, i, .leaf, h => by rw [Tr.getP_leaf]; rfl
  | f + 1, i, .node v l r, h => by
    cases h0 : Nat.beq i 0 with
    | true => simp only [path, Tr.get, h0, cond_true, Tr.getP]
    | false =>
      cases h1 : Nat.beq (Nat.mod i 2) 1 with
      | true => simp only [path, Tr.get, h0, h1, cond_true, cond_false, Tr.getP]; exact get_path f _ l (half_odd h h1)
      | false => simp only [path, Tr.get, h0, h1, cond_false, Tr.getP]; exact get_path f _ r (half_even h h0 h1)

theorem set_path : ∀ (f i : Nat) (t : Tr α) (x : α), i + 1 < 2 ^ f → Tr.set f t i x = Tr.setP (path f i) t x
  | 0, i, t, x, h => by simp at h
  | f + 1, i, t, x, h => by
    cases h0 : Nat.beq i 0 with
    | true => cases t <;> simp only [path, Tr.set, h0, cond_true, Tr.setP]
    | false =>
      cases h1 : Nat.beq (Nat.mod i 2) 1 with
      | true => cases t <;> simp only [path, Tr.set, h0, h1, cond_true, cond_false, Tr.setP] <;> rw [set_path f _ _ x (half_odd h h1)]
      | false => cases t <;> simp only [path, Tr.set, h0, h1, cond_false, Tr.setP] <;> rw [set_path f _ _ x (half_even h h0 h1)]

noncomputable def tget (t : Tr α) (i : Nat) : Option α := Bool.rec (motive := fun _ => Option α) (t.get i) (getR (path fuelT i) t) (Nat.ble i maxT)
theorem tget_eq (t : Tr α) (i : Nat) : tget t i = t.get i := by
  unfold tget
  cases h : Nat.ble i maxT with
  | false => rfl
  | true =>
    have := Nat.le_of_ble_eq_true h
    show getR (path fuelT i) t = _
    rw [getR_eq, get_path fuelT i t (by unfold maxT at this; unfold fuelT; omega)]
noncomputable def tset (t : Tr α) (i : Nat) (x : α) : Tr α := Bool.rec (motive := fun _ => Tr α) (t.set fuelT i x) (setR (path fuelT i) x t) (Nat.ble i maxT)
theorem tset_eq (t : Tr α) (i : Nat) (x : α) : tset t i x = Tr.set fuelT t i x := by
  unfold tset
  cases h : Nat.ble i maxT with
  | false => rfl
  | true =>
    have := Nat.le_of_ble_eq_true h
    show setR (path fuelT i) x t = _
    rw [setR_eq, set_path fuelT i t x (by unfold maxT at this; unfold fuelT; omega)]
end

noncomputable def atR (cs : List AVal) : Nat → Option AVal :=
  List.rec (motive := fun _ => Nat → Option AVal) (fun _ => none) (fun c _ ih o => sel (Nat.beq o 0) (some c) (ih (Nat.sub o 1))) cs
theorem atR_eq : ∀ (cs : List AVal) (o : Nat), atR cs o = at? cs o
  | [], _ => rfl
  | c :: cs, o => by
    show sel (Nat.beq o 0) (some c) (atR cs (Nat.sub o 1)) = cond (Nat.beq o 0) (some c) (at? cs (Nat.sub o 1))
    rw [atR_eq cs, sel_eq]

/-- Of a value, if it is of the kind asked. -/
noncomputable def onPtr {β : Type} (n : β) (k : Option (Nat × Nat) → β) (v : AVal) : β :=
  AVal.rec (motive_1 := fun _ => β) (motive_2 := fun _ => PUnit) (fun _ => n) (fun _ _ => n) (fun _ => n) k (fun _ _ _ _ => n) (fun _ => n) (fun _ _ _ _ _ => n) n (fun _ _ _ => n) n (fun _ _ => n) (fun _ _ => n) n ⟨⟩ (fun _ _ _ _ => ⟨⟩) v
noncomputable def onInt {β : Type} (n : β) (k : IntKind → Int → β) (v : AVal) : β :=
  AVal.rec (motive_1 := fun _ => β) (motive_2 := fun _ => PUnit) (fun _ => n) k (fun _ => n) (fun _ => n) (fun _ _ _ _ => n) (fun _ => n) (fun _ _ _ _ _ => n) n (fun _ _ _ => n) n (fun _ _ => n) (fun _ _ => n) n ⟨⟩ (fun _ _ _ _ => ⟨⟩) v
/-- A block of cells. -/
noncomputable def onCells {β : Type} (n : β) (k : List AVal → TypeId → Bool → Bool → β) (x : ABlk) : β :=
  ABlk.rec (motive := fun _ => β) k (fun _ _ => n) (fun _ _ => n) (fun _ _ _ _ _ _ => n) n n x

end Go.AE

/- The evaluator once more, over the recursions of AF1: each function is shown equal to the elder one. -/
namespace Go.AE
set_option autoImplicit false

noncomputable def AEnv.getF (e : AEnv) (p : List Bool) : AVal := AEnv.rec (motive := fun _ => AVal) (fun tmps _ => Option.rec (motive := fun _ => AVal) undefA (fun v => v) (getR p tmps)) e
theorem AEnv.getF_eq (e : AEnv) (p : List Bool) : e.getF p = e.get p := by
  obtain ⟨tmps, ds⟩ := e
  show Option.rec (motive := fun _ => AVal) undefA (fun v => v) (getR p tmps) = orUndef (tmps.getP p)
  rw [getR_eq]; cases tmps.getP p <;> rfl

noncomputable def AEnv.putF (e : AEnv) (d : Option (List Bool)) (v : AVal) : AEnv := Option.rec (motive := fun _ => AEnv) e (fun p => AEnv.rec (motive := fun _ => AEnv) (fun tmps ds => ⟨setR p v tmps, ds⟩) e) d
theorem AEnv.putF_eq (e : AEnv) (d : Option (List Bool)) (v : AVal) : e.putF d v = e.put d v := by
  obtain ⟨tmps, ds⟩ := e
  cases d with
  | none => rfl
  | some d => show (⟨setR d v tmps, ds⟩ : AEnv) = ⟨Tr.setP d tmps v, ds⟩; rw [setR_eq]

noncomputable def XA.evalF (e : AEnv) (x : XA) : AVal := XA.rec (motive := fun _ => AEnv → AVal) (fun p e => e.getF p) (fun v _ => v) x e
theorem XA.evalF_eq (e : AEnv) (x : XA) : x.evalF e = x.eval e := by
  cases x with
  | tmp p => exact AEnv.getF_eq e p
  | cst v => rfl

noncomputable def evalAsF (e : AEnv) (l : List XA) : List AVal := List.rec (motive := fun _ => List AVal) [] (fun x _ ih => x.evalF e :: ih) l
theorem evalAsF_eq (e : AEnv) : ∀ l : List XA, evalAsF e l = evalAs e l
  | [] => rfl
  | x :: l => by show x.evalF e :: evalAsF e l = x.eval e :: evalAs e l; rw [evalAsF_eq e l, XA.evalF_eq]

noncomputable def oneF (v : AVal) : Bool :=
  AVal.rec (motive_1 := fun _ => Bool) (motive_2 := fun _ => PUnit) (fun _ => true) (fun _ _ => true) (fun _ => true) (fun _ => true) (fun _ _ _ _ => true) (fun _ => true) (fun _ _ _ _ _ => true) true (fun _ _ _ => true) true (fun _ _ => false) (fun _ _ => false) true ⟨⟩ (fun _ _ _ _ => ⟨⟩) v
theorem oneF_eq (v : AVal) : oneF v = v.one := by cases v <;> rfl
noncomputable def cellsF (v : AVal) : List AVal :=
  AVal.rec (motive_1 := fun _ => List AVal → List AVal) (motive_2 := fun _ => PUnit) (fun _ m => m) (fun _ _ m => m) (fun _ m => m) (fun _ m => m) (fun _ _ _ _ m => m) (fun _ m => m) (fun _ _ _ _ _ m => m) (fun m => m) (fun _ _ _ m => m) (fun m => m) (fun l _ _ => l) (fun _ _ m => m) (fun m => m) ⟨⟩ (fun _ _ _ _ => ⟨⟩) v [v]
theorem cellsF_eq (v : AVal) : cellsF v = v.cells := by cases v <;> rfl
noncomputable def allOneF (l : List AVal) : Bool := List.rec (motive := fun _ => Bool) true (fun a _ ih => sel (oneF a) ih false) l
theorem allOneF_eq : ∀ l : List AVal, allOneF l = allOne l
  | [] => rfl
  | a :: l => by show sel (oneF a) (allOneF l) false = cond a.one (allOne l) false; rw [allOneF_eq l, sel_eq, oneF_eq]

noncomputable def lenF {α : Type} (l : List α) : Nat := List.rec (motive := fun _ => Nat) 0 (fun _ _ ih => Nat.succ ih) l
theorem lenF_eq {α : Type} : ∀ l : List α, lenF l = l.length
  | [] => rfl
  | _ :: l => by show Nat.succ (lenF l) = l.length + 1; rw [lenF_eq l]

noncomputable def appF {α : Type} (l m : List α) : List α := List.rec (motive := fun _ => List α) m (fun a _ ih => a :: ih) l
theorem appF_eq {α : Type} (m : List α) : ∀ l : List α, appF l m = l ++ m
  | [] => rfl
  | a :: l => by show a :: appF l m = a :: (l ++ m); rw [appF_eq m l]

noncomputable def mapF {α β : Type} (f : α → Option β) (l : List α) : Option (List β) :=
  List.rec (motive := fun _ => Option (List β)) (some []) (fun x _ ih =>
    match f x with
    | none => none
    | some a =>
      match ih with
      | none => none
      | some as => some (a :: as)) l
theorem mapF_eq {α β : Type} (f : α → Option β) : ∀ l : List α, mapF f l = mapA f l
  | [] => rfl
  | x :: l => by
    rw [mapA, ← mapF_eq f l]; rfl

noncomputable def consF (c : AVal) (o : Option (List AVal)) : Option (List AVal) := Option.rec (motive := fun _ => Option (List AVal)) none (fun l => some (c :: l)) o
theorem consF_eq (c : AVal) (o : Option (List AVal)) : consF c o = takeN.consO c o := by cases o <;> rfl
noncomputable def overFF (vs : List AVal) : List AVal → Option (List AVal) :=
  List.rec (motive := fun _ => List AVal → Option (List AVal)) (fun cs => some cs) (fun v _ ih cs => List.rec (motive := fun _ => Option (List AVal)) none (fun _ cs _ => consF v (ih cs)) cs) vs
theorem overFF_eq : ∀ (vs cs : List AVal), overFF vs cs = overN.overF cs vs
  | [], cs => by cases cs <;> rfl
  | v :: vs, [] => rfl
  | v :: vs, _ :: cs => by rw [overN.overF, ← overFF_eq vs cs, ← consF_eq]; rfl

noncomputable def overNF (vs : List AVal) (cs : List AVal) : Nat → Option (List AVal) :=
  List.rec (motive := fun _ => Nat → Option (List AVal)) (fun o => sel (Nat.beq o 0) (overFF vs []) none)
    (fun c cs ih o => sel (Nat.beq o 0) (overFF vs (c :: cs)) (consF c (ih (Nat.sub o 1)))) cs
theorem overNF_eq (vs : List AVal) : ∀ (cs : List AVal) (o : Nat), overNF vs cs o = overN cs o vs
  | [], o => by show sel (Nat.beq o 0) (overFF vs []) none = _; rw [overFF_eq, sel_eq]; rfl
  | c :: cs, o => by
    show sel (Nat.beq o 0) (overFF vs (c :: cs)) (consF c (overNF vs cs (Nat.sub o 1))) = _
    rw [overFF_eq, overNF_eq vs cs, sel_eq, consF_eq]; rfl

noncomputable def takeFF (cs : List AVal) : Nat → Option (List AVal) :=
  List.rec (motive := fun _ => Nat → Option (List AVal)) (fun n => sel (Nat.beq n 0) (some []) none) (fun c _ ih n => sel (Nat.beq n 0) (some []) (consF c (ih (Nat.sub n 1)))) cs
theorem takeFF_eq : ∀ (cs : List AVal) (n : Nat), takeFF cs n = takeN.takeF cs n
  | [], n => sel_eq _ _ _
  | c :: cs, n => by
    show sel (Nat.beq n 0) (some []) (consF c (takeFF cs (Nat.sub n 1))) = _
    rw [takeFF_eq cs, sel_eq, consF_eq]; rfl

noncomputable def takeNF (n : Nat) (cs : List AVal) : Nat → Option (List AVal) :=
  List.rec (motive := fun _ => Nat → Option (List AVal)) (fun o => sel (Nat.beq o 0) (sel (Nat.beq n 0) (some []) none) none)
    (fun c cs ih o => sel (Nat.beq o 0) (takeFF (c :: cs) n) (ih (Nat.sub o 1))) cs
theorem takeNF_eq (n : Nat) : ∀ (cs : List AVal) (o : Nat), takeNF n cs o = takeN cs o n
  | [], o => by show sel (Nat.beq o 0) (sel (Nat.beq n 0) (some []) none) none = _; rw [sel_eq, sel_eq]; rfl
  | c :: cs, o => by
    show sel (Nat.beq o 0) (takeFF (c :: cs) n) (takeNF n cs (Nat.sub o 1)) = _
    rw [takeFF_eq, takeNF_eq n cs, sel_eq]; rfl

noncomputable def AHp.getF (h : AHp) (b : Nat) : Option ABlk := AHp.rec (motive := fun _ => Option ABlk) (fun tr _ _ => tget tr b) h
theorem AHp.getF_eq (h : AHp) (b : Nat) : h.getF b = h.get b := by cases h; exact tget_eq _ _
noncomputable def AHp.putF (h : AHp) (b : Nat) (x : ABlk) : AHp := AHp.rec (motive := fun _ => AHp) (fun tr n ro => ⟨tset tr b x, n, ro⟩) h
theorem AHp.putF_eq (h : AHp) (b : Nat) (x : ABlk) : h.putF b x = h.put b x := by
  cases h with
  | mk tr n ro => show (⟨tset tr b x, n, ro⟩ : AHp) = ⟨tr.set fuelT b x, n, ro⟩; rw [tset_eq]
noncomputable def AHp.newF : AHp → ABlk → Option (Nat × AHp)
  | ⟨tr, n, ro⟩, x => cond (Nat.ble n maxT) (some (n, ⟨tset tr n x, Nat.succ n, ro⟩)) none
theorem AHp.newF_eq (h : AHp) (x : ABlk) : h.newF x = h.new x := by cases h; simp only [AHp.newF, AHp.new, tset_eq]

noncomputable def ldOneBF (o : Nat) (x : Option ABlk) : Option AVal := Option.rec (motive := fun _ => Option AVal) none (onCells none fun cs _ _ _ => atR cs o) x
theorem ldOneBF_eq (o : Nat) (x : Option ABlk) : ldOneBF o x = ldOneB o x := by
  cases x with
  | none => rfl
  | some x => cases x <;> first | rfl | exact atR_eq _ _
noncomputable def ldOneF (h : AHp) (a : AVal) : Option AVal :=
  onPtr none (fun a => Option.rec (motive := fun _ => Option AVal) none (fun p => Prod.rec (motive := fun _ => Option AVal) (fun b o => ldOneBF o (h.getF b)) p) a) a
theorem ldOneF_eq : ldOneF = ldOne := by
  funext h a
  cases a with
  | ptr a => cases a with
    | none => rfl
    | some a => obtain ⟨b, o⟩ := a; show ldOneBF o (h.getF b) = ldOneB o (h.get b); rw [AHp.getF_eq, ldOneBF_eq]
  | _ => rfl

noncomputable def ldAggBF (n o : Nat) : Option ABlk → Option AVal
  | some (.cells cs _ _ _) => aggO (takeNF n cs o)
  | _ => none
theorem ldAggBF_eq (n o : Nat) (x : Option ABlk) : ldAggBF n o x = ldAggB n o x := by
  cases x with
  | none => rfl
  | some x => cases x <;> first | rfl | simp only [ldAggBF, ldAggB, takeNF_eq]
noncomputable def ldAggF (n : Nat) (h : AHp) (a : AVal) : Option AVal :=
  match a with
  | .ptr (some (b, o)) => ldAggBF n o (h.getF b)
  | _ => none
theorem ldAggF_eq : ldAggF = ldAgg := by
  funext n h a
  cases a with
  | ptr a => cases a with
    | none => rfl
    | some a => obtain ⟨b, o⟩ := a; simp only [ldAggF, ldAgg, AHp.getF_eq, ldAggBF_eq]
  | _ => rfl

noncomputable def readBF (o n : Nat) : Option ABlk → Option (List AVal)
  | some (.cells cs _ _ _) => takeNF n cs o
  | _ => none
theorem readBF_eq (o n : Nat) (x : Option ABlk) : readBF o n x = readB o n x := by
  cases x with
  | none => rfl
  | some x => cases x <;> first | rfl | simp only [readBF, readB, takeNF_eq]
noncomputable def readAF (h : AHp) (a : Option (Nat × Nat)) (n : Nat) : Option (List AVal) :=
  cond (Nat.beq n 0) (some []) <|
  match a with
  | none => none
  | some (b, o) => readBF o n (h.getF b)
theorem readAF_eq (h : AHp) (a : Option (Nat × Nat)) (n : Nat) : readAF h a n = readA h a n := by
  cases a with
  | none => rfl
  | some a => obtain ⟨b, o⟩ := a; simp only [readAF, readA, AHp.getF_eq, readBF_eq]

noncomputable def putOF (h : AHp) (b : Nat) (e : TypeId) (soft : Bool) : Option (List AVal) → Option AHp
  | none => none
  | some cs => some (h.putF b (.cells cs e false soft))
theorem putOF_eq (h : AHp) (b : Nat) (e : TypeId) (soft : Bool) (x : Option (List AVal)) : putOF h b e soft x = putO h b e soft x := by cases x <;> simp only [putOF, putO, AHp.putF_eq]
noncomputable def writeBF (h : AHp) (b o : Nat) (vs : List AVal) (x : Option ABlk) : Option AHp :=
  Option.rec (motive := fun _ => Option AHp) none (onCells none fun cs e frz soft => sel frz none (sel (roOk h b) (sel (allOneF vs) (putOF h b e soft (overNF vs cs o)) none) none)) x
theorem writeBF_eq (h : AHp) (b o : Nat) (vs : List AVal) (x : Option ABlk) : writeBF h b o vs x = writeB h b o vs x := by
  cases x with
  | none => rfl
  | some x =>
    cases x with
    | cells cs e f s =>
      show sel f none (sel (roOk h b) (sel (allOneF vs) (putOF h b e s (overNF vs cs o)) none) none) = _
      rw [allOneF_eq, overNF_eq, putOF_eq, sel_eq, sel_eq, sel_eq]
      cases f <;> rfl
    | _ => rfl
noncomputable def writeAF (h : AHp) (b o : Nat) (vs : List AVal) : Option AHp := writeBF h b o vs (h.getF b)
theorem writeAF_eq (h : AHp) (b o : Nat) (vs : List AVal) : writeAF h b o vs = writeA h b o vs := by simp only [writeAF, writeA, AHp.getF_eq, writeBF_eq]

noncomputable def stNF (n : Nat) (h : AHp) (a v : AVal) : Option AHp :=
  onPtr none (fun a => Option.rec (motive := fun _ => Option AHp) none (fun p => Prod.rec (motive := fun _ => Option AHp) (fun b o => sel (Nat.beq (lenF (cellsF v)) n) (writeAF h b o (cellsF v)) none) p) a) a
theorem stNF_eq : stNF = stN := by
  funext n h a v
  cases a with
  | ptr a => cases a with
    | none => rfl
    | some a =>
      obtain ⟨b, o⟩ := a
      show sel (Nat.beq (lenF (cellsF v)) n) (writeAF h b o (cellsF v)) none = cond (Nat.beq v.cells.length n) (writeA h b o v.cells) none
      rw [lenF_eq, writeAF_eq, sel_eq, cellsF_eq]
  | _ => rfl

noncomputable def sourceAF (h : AHp) (size : Nat) (x : AVal) : Option (Nat × List AVal) :=
  match x with
  | .slice a len _ _ => srcO len (readAF h a (Nat.mul len size))
  | .str s => some (s.length, cellsOfBytes s)
  | _ => none
theorem sourceAF_eq (h : AHp) (size : Nat) (x : AVal) : sourceAF h size x = sourceA h size x := by cases x <;> first | rfl | simp only [sourceAF, sourceA, readAF_eq]

noncomputable def growNewF (h : AHp) (elem : TypeId) (size need : Nat) (old new : List AVal) : HV :=
  cond (allOneF old) (sliceO need need size (h.newF (.cells (appF old new) elem false true))) none
theorem growNewF_eq (h : AHp) (elem : TypeId) (size need : Nat) (old new : List AVal) : growNewF h elem size need old new = growNew h elem size need old new := by
  simp only [growNewF, growNew, allOneF_eq, AHp.newF_eq, appF_eq]
noncomputable def growSoftF (h : AHp) (elem : TypeId) (size need : Nat) (old new : List AVal) : Option (Nat × Nat) → HV
  | none => none
  | some (b, _) => cond (deadB h elem b (h.getF b)) (growNewF (h.putF b .dead) elem size need old new) none
theorem growSoftF_eq (h : AHp) (elem : TypeId) (size need : Nat) (old new : List AVal) (x : Option (Nat × Nat)) : growSoftF h elem size need old new x = growSoft h elem size need old new x := by
  cases x with
  | none => rfl
  | some x => obtain ⟨b, o⟩ := x; simp only [growSoftF, growSoft, AHp.getF_eq, AHp.putF_eq, growNewF_eq]
noncomputable def growAF (h : AHp) (elem : TypeId) (size : Nat) (base : Option (Nat × Nat)) (soft need : Nat) (new : List AVal) : Option (List AVal) → HV
  | none => none
  | some old => cond (Nat.beq soft 0) (growNewF h elem size need old new) (cond (Nat.beq soft size) (growSoftF h elem size need old new base) none)
theorem growAF_eq (h : AHp) (elem : TypeId) (size : Nat) (base : Option (Nat × Nat)) (soft need : Nat) (new : List AVal) (x : Option (List AVal)) : growAF h elem size base soft need new x = growA h elem size base soft need new x := by
  cases x <;> simp only [growAF, growA, growNewF_eq, growSoftF_eq]
noncomputable def inPlaceF (h : AHp) (size : Nat) (base : Option (Nat × Nat)) (len need cap soft : Nat) (new : List AVal) : HV :=
  match base with
  | none => some (.slice none need cap soft, h)
  | some (b, o) => inPlaceO base need cap soft (writeAF h b (Nat.add o (Nat.mul len size)) new)
theorem inPlaceF_eq (h : AHp) (size : Nat) (base : Option (Nat × Nat)) (len need cap soft : Nat) (new : List AVal) : inPlaceF h size base len need cap soft new = inPlace h size base len need cap soft new := by
  cases base with
  | none => rfl
  | some x => obtain ⟨b, o⟩ := x; simp only [inPlaceF, inPlace, writeAF_eq]
noncomputable def appendNF (h : AHp) (elem : TypeId) (size bytes : Nat) (base : Option (Nat × Nat)) (len cap soft n : Nat) (new : List AVal) : HV :=
  cond (Nat.ble (Nat.mul (Nat.add len n) bytes) 1000000000) (cond (Nat.ble (Nat.add len n) 1000000000) (cond (Nat.beq (lenF new) (Nat.mul n size)) (cond (allOneF new)
    (cond (Nat.ble (Nat.add len n) cap) (inPlaceF h size base len (Nat.add len n) cap soft new)
      (growAF h elem size base soft (Nat.add len n) new (readAF h base (Nat.mul len size)))) none) none) none) none
theorem appendNF_eq (h : AHp) (elem : TypeId) (size bytes : Nat) (base : Option (Nat × Nat)) (len cap soft n : Nat) (new : List AVal) : appendNF h elem size bytes base len cap soft n new = appendN h elem size bytes base len cap soft n new := by
  simp only [appendNF, appendN, lenF_eq, allOneF_eq, inPlaceF_eq, growAF_eq, readAF_eq]
noncomputable def appendSF (h : AHp) (i : SInfo) (s : AVal) : Option (Nat × List AVal) → HV
  | none => none
  | some (n, new) =>
    match s with
    | .slice base len cap soft => appendNF h i.elem i.size i.bytes base len cap soft n new
    | _ => none
theorem appendSF_eq (h : AHp) (i : SInfo) (s : AVal) (x : Option (Nat × List AVal)) : appendSF h i s x = appendS h i s x := by
  cases x with
  | none => rfl
  | some x => obtain ⟨n, new⟩ := x; cases s <;> first | rfl | simp only [appendSF, appendS, appendNF_eq]
noncomputable def appendFF (i : SInfo) : EfF := fun h args =>
  match args with
  | [s, x] => appendSF h i s (sourceAF h i.size x)
  | _ => none
theorem appendFF_eq : appendFF = appendF := by
  funext i h args
  match args with
  | [] => rfl
  | [_] => rfl
  | [s, x] => simp only [appendFF, appendF, appendSF_eq, sourceAF_eq]
  | _ :: _ :: _ :: _ => rfl

/- THE LAYING. -/
variable (P : Tab)

noncomputable def xloadF (n : Nat) (t : TypeId) (a : Operand) : Option XOp :=
  match aggSize P t with
  | none => none
  | some none => (xa P n a).map (.r1 ldOneF)
  | some (some m) => (xa P n a).map (.r1 (ldAggF m))
theorem xloadF_eq (n : Nat) (t : TypeId) (a : Operand) : xloadF P n t a = xload P n t a := by simp only [xloadF, xload, ldOneF_eq, ldAggF_eq]; rfl
noncomputable def xstoreF (n : Nat) (t : TypeId) (a x : Operand) : Option XOp :=
  match sizeA P t with
  | none => none
  | some m => cond (Nat.beq m 0) none (mk2 (.st (stNF m)) (xa P n a) (xa P n x))
theorem xstoreF_eq (n : Nat) (t : TypeId) (a x : Operand) : xstoreF P n t a x = xstore P n t a x := by simp only [xstoreF, xstore, stNF_eq]; rfl
noncomputable def xappendF (n : Nat) (ts : List TypeId) (args : List Operand) : Option XOp :=
  match ts, args with
  | t :: u, [s, x] =>
    cond (notInt P u.head?)
      (match sinfo P t with
      | none => none
      | some i => xs P n (.ef (appendFF i)) [s, x]) none
  | _, _ => none
theorem xappendF_eq (n : Nat) (ts : List TypeId) (args : List Operand) : xappendF P n ts args = xappend P n ts args := by
  unfold xappendF xappend
  rw [appendFF_eq]
  rfl
noncomputable def xcallF (n : Nat) (rok : Bool) (c : Call) : Option XOp :=
  match c.callee with
  | .value f => xcl P n .cl f c.args.toList
  | .builtin .append => xappendF P n c.argTypes.toList c.args.toList
  | .builtin b => xbuiltin P n rok b c.argTypes.toList c.args.toList
  | .invoke _ _ => none
theorem xcallF_eq (n : Nat) (rok : Bool) (c : Call) : xcallF P n rok c = xcall P n rok c := by
  unfold xcallF xcall
  cases c.callee with
  | value f => rfl
  | invoke _ _ => rfl
  | builtin b => cases b <;> first | rfl | exact xappendF_eq P n _ _
noncomputable def xopF (n : Nat) (rok : Bool) (o : Op) : Option XOp :=
  match o with
  | .load t a => xloadF P n t a
  | .store t a x => xstoreF P n t a x
  | .call c => xcallF P n rok c
  | o => xop P n rok o
theorem xopF_eq (n : Nat) (rok : Bool) (o : Op) : xopF P n rok o = xop P n rok o := by
  cases o <;> first | rfl | exact xloadF_eq P n _ _ | exact xstoreF_eq P n _ _ _ | exact xcallF_eq P n rok _
noncomputable def xoperF (n : Nat) (rok : Bool) (ops : List Oper) (o : Oper) : Option XOper :=
  match xopF P n rok o.op with
  | none => none
  | some op =>
    match xdst n o.dst with
    | none => none
    | some d =>
      match xguard n ops o.guard with
      | none => none
      | some g => some ⟨op, d, g⟩
theorem xoperF_eq (n : Nat) (rok : Bool) (ops : List Oper) : xoperF P n rok ops = xoper P n rok ops := by
  funext o; simp only [xoperF, xoper, xopF_eq]; rfl
noncomputable def xopersF (n : Nat) (rok : Bool) (ops : List Oper) : Option (List XOper) := mapF (xoperF P n rok ops) ops
theorem xopersF_eq (n : Nat) (rok : Bool) (ops : List Oper) : xopersF P n rok ops = xopers P n rok ops := by
  simp only [xopersF, xopers, xoperF_eq, mapF_eq]

/- THE RUN. -/
noncomputable def rvF (e : AEnv) (d : Option (List Bool)) (h : AHp) (o : Option AVal) : St := Option.rec (motive := fun _ => St) none (fun v => some (e.putF d v, h)) o
noncomputable def ruF (e : AEnv) (d : Option (List Bool)) (o : HV) : St := Option.rec (motive := fun _ => St) none (fun p => Prod.rec (motive := fun _ => St) (fun v h => some (e.putF d v, h)) p) o
noncomputable def rsF (e : AEnv) (d : Option (List Bool)) (o : Option AHp) : St := Option.rec (motive := fun _ => St) none (fun h => some (e.putF d undefA, h)) o
theorem rvF_eq : rvF = rv := by funext e d h o; cases o <;> simp only [rvF, rv, AEnv.putF_eq]
theorem ruF_eq : ruF = ru := by
  funext e d o
  cases o with
  | none => rfl
  | some p => obtain ⟨v, h⟩ := p; simp only [ruF, ru, AEnv.putF_eq]
theorem rsF_eq : rsF = rs := by funext e d o; cases o <;> simp only [rsF, rs, AEnv.putF_eq]
noncomputable def alOF (h : AHp) : Option (ABlk × AKind) → HV
  | none => none
  | some (x, k) => newO k (h.newF x)
theorem alOF_eq : alOF = alO := by
  funext h o
  cases o with
  | none => rfl
  | some o => obtain ⟨x, k⟩ := o; simp only [alOF, alO, AHp.newF_eq]

noncomputable def opXF (x : XOp) : CallF → AEnv → AHp → Option (List Bool) → St :=
  XOp.rec (motive := fun _ => CallF → AEnv → AHp → Option (List Bool) → St)
    (fun f x _ e h d => rvF e d h (f (x.evalF e)))
    (fun f x y _ e h d => rvF e d h (f (x.evalF e) (y.evalF e)))
    (fun f xs _ e h d => rvF e d h (f (evalAsF e xs)))
    (fun f x _ e h d => rvF e d h (f h (x.evalF e)))
    (fun f x y _ e h d => rvF e d h (f h (x.evalF e) (y.evalF e)))
    (fun f xs _ e h d => ruF e d (alOF h (f (evalAsF e xs))))
    (fun f xs _ e h d => ruF e d (f h (evalAsF e xs)))
    (fun f x y _ e h d => rsF e d (f h (x.evalF e) (y.evalF e)))
    (fun f xs _ e h d => rsF e d (f h (evalAsF e xs)))
    (fun f xs call e h d => ruF e d (call h (f.evalF e) (evalAsF e xs)))
    (fun f xs _ e h d => cond (isFn (f.evalF e)) (rsF (e.push (f.evalF e) (evalAsF e xs)) d (some h)) none)
    (fun _ e h d => rvF e d h (some .nilIface)) x
theorem opXF_eq (x : XOp) (call : CallF) (e : AEnv) (h : AHp) (d : Option (List Bool)) : opXF x call e h d = opX call e h d x := by
  cases x <;> simp only [opXF, opX, rvF_eq, ruF_eq, rsF_eq, alOF_eq, XA.evalF_eq, evalAsF_eq]

noncomputable def wantedF (e : AEnv) : Option (List Bool × Bool) → Option Bool
  | none => some true
  | some (p, want) => wantedT want (e.getF p)
theorem wantedF_eq : wantedF = wantedA := by
  funext e g
  cases g with
  | none => rfl
  | some g => obtain ⟨p, w⟩ := g; simp only [wantedF, wantedA, AEnv.getF_eq]
noncomputable def stepWF (call : CallF) (e : AEnv) (h : AHp) (op : XOp) (d : Option (List Bool)) : Option Bool → St
  | none => none
  | some true => opXF op call e h d
  | some false => some (e.putF d undefA, h)
theorem stepWF_eq : stepWF = stepW := by
  funext call e h op d w
  cases w with
  | none => rfl
  | some w => cases w <;> simp only [stepWF, stepW, opXF_eq, AEnv.putF_eq]
noncomputable def stepXF (call : CallF) (e : AEnv) (h : AHp) (x : XOper) : St :=
  XOper.rec (motive := fun _ => St) (fun op d g => Option.rec (motive := fun _ => St) (opXF op call e h d) (fun g => stepWF call e h op d (wantedF e (some g))) g) x
theorem stepXF_eq : stepXF = stepX := by
  funext call e h x
  obtain ⟨op, d, g⟩ := x
  cases g with
  | none => exact opXF_eq op call e h d
  | some g => show stepWF call e h op d (wantedF e (some g)) = stepW call e h op d (wantedA e (some g)); rw [stepWF_eq, wantedF_eq]

noncomputable def opsXF (call : CallF) (l : List XOper) : AEnv → AHp → St :=
  List.rec (motive := fun _ => AEnv → AHp → St) (fun e h => some (e, h)) (fun o _ ih e h => Option.rec (motive := fun _ => St) none (fun p => Prod.rec (motive := fun _ => St) ih p) (stepXF call e h o)) l
theorem opsXF_eq (call : CallF) : ∀ (l : List XOper) (e : AEnv) (h : AHp), opsXF call l e h = opsX call l e h
  | [], e, h => rfl
  | o :: l, e, h => by
    show Option.rec (motive := fun _ => St) none (fun p => Prod.rec (motive := fun _ => St) (opsXF call l) p) (stepXF call e h o) = _
    rw [stepXF_eq, opsX]
    cases stepX call e h o with
    | none => rfl
    | some p => obtain ⟨e, h⟩ := p; exact opsXF_eq call l e h

noncomputable def drawGoF (call : CallF) (l : List XOper) : List DInfo → Nat → AEnv → AHp → List (AHp × Nat × Nat) → List RLog → St :=
  List.rec (motive := fun _ => List DInfo → Nat → AEnv → AHp → List (AHp × Nat × Nat) → List RLog → St) (fun _ _ e h views logs => drawEnd e h views logs)
    (fun o _ ih ds i e h views logs =>
      match ds with
      | [] => none
      | d :: ds =>
        match stepXF call e h o with
        | none => none
        | some (e', h') => cond (Nat.ble (sizeH h) (sizeH h')) (ih ds (Nat.succ i) e' h' (viewX h i d.anc o views) (logX e h i d.anc o logs)) none) l
theorem drawGoF_eq (call : CallF) : ∀ (l : List XOper) (ds : List DInfo) (i : Nat) (e : AEnv) (h : AHp) (views : List (AHp × Nat × Nat)) (logs : List RLog), drawGoF call l ds i e h views logs = drawGo call l ds i e h views logs
  | [], ds, i, e, h, views, logs => rfl
  | o :: l, [], i, e, h, views, logs => rfl
  | o :: l, d :: ds, i, e, h, views, logs => by
    show (match stepXF call e h o with | none => none | some (e', h') => cond (Nat.ble (sizeH h) (sizeH h')) (drawGoF call l ds (Nat.succ i) e' h' (viewX h i d.anc o views) (logX e h i d.anc o logs)) none) = _
    rw [stepXF_eq, drawGo]
    cases stepX call e h o with
    | none => rfl
    | some p => obtain ⟨e', h'⟩ := p; simp only [drawGoF_eq call l]

noncomputable def drawOF (call : CallF) (l : List XOper) (e : AEnv) (h : AHp) : Option (List DInfo) → St
  | none => none
  | some ds => drawGoF call l ds 0 e h [] []
noncomputable def regionXF (call : CallF) (ops : List Oper) (draw : Bool) (e : AEnv) (h : AHp) : Option (List XOper) → St
  | none => none
  | some l => cond draw (drawOF call l e h (drawInfos ops l)) (opsXF call l e h)
theorem regionXF_eq (call : CallF) (ops : List Oper) (draw : Bool) (e : AEnv) (h : AHp) (x : Option (List XOper)) : regionXF call ops draw e h x = regionX call ops draw e h x := by
  cases x with
  | none => rfl
  | some l =>
    simp only [regionXF, regionX, drawX, opsXF_eq]
    cases drawInfos ops l with
    | none => rfl
    | some ds => simp only [drawOF, drawO, drawGoF_eq]

noncomputable def argsTrF (l : List AVal) : Nat → Tr AVal → Tr AVal :=
  List.rec (motive := fun _ => Nat → Tr AVal → Tr AVal) (fun _ t => t) (fun a _ ih i t => ih (Nat.succ i) (tset t i a)) l
theorem argsTrF_eq : ∀ (l : List AVal) (i : Nat) (t : Tr AVal), argsTrF l i t = argsTr t i l
  | [], _, _ => rfl
  | a :: l, i, t => by show argsTrF l (Nat.succ i) (tset t i a) = argsTr (t.set fuelT i a) (Nat.succ i) l; rw [argsTrF_eq l, tset_eq]

noncomputable def tmpAF (n : Nat) (e : AEnv) (t : Tmp) : Option AVal := cond (Nat.blt t n) (some (e.getF (path fuelT t))) none
noncomputable def resultAF (n : Nat) (h : AHp) (e : AEnv) : ResultVar → Option AVal
  | .tmp t => tmpAF n e t
  | .cell a t => ldR h (aggSize P t) (tmpAF n e a)
theorem resultAF_eq (n : Nat) (h : AHp) (e : AEnv) : resultAF P n h e = resultA P n h e := by
  funext r; cases r <;> simp only [resultAF, resultA, tmpAF, tmpA, AEnv.getF_eq]
noncomputable def finAF (n : Nat) (rs : List ResultVar) (e : AEnv) : Option AHp → HV
  | none => none
  | some h => resO h (mapF (resultAF P n h e) rs)
noncomputable def finDF (n : Nat) (call : CallF) (rs : List ResultVar) (h : AHp) : AEnv → HV
  | ⟨tmps, ds⟩ => finAF P n rs ⟨tmps, []⟩ (defersA P call ds h)
theorem finDF_eq (n : Nat) (call : CallF) (rs : List ResultVar) (h : AHp) (e : AEnv) : finDF P n call rs h e = finD P n call rs h e := by
  obtain ⟨tmps, ds⟩ := e
  simp only [finDF, finD]
  cases defersA P call ds h with
  | none => rfl
  | some h => simp only [finAF, finA, resultsA, mapF_eq, resultAF_eq]
noncomputable def retAF (n : Nat) (call : CallF) (rs : List ResultVar) : Out → HV
  | some (.normal, e, h) => finDF P n call rs h e
  | some (.ret, e, h) => finDF P n call rs h e
  | _ => none
theorem retAF_eq (n : Nat) (call : CallF) (rs : List ResultVar) (o : Out) : retAF P n call rs o = retA P n call rs o := by
  cases o with
  | none => rfl
  | some o => obtain ⟨x, e, h⟩ := o; cases x <;> first | rfl | simp only [retAF, retA, finDF_eq]

noncomputable def callAF (run : RunF) (call : CallF) (h : AHp) (args : List AVal) : Option Func → HV
  | none => none
  | some fn =>
    match fn.body with
    | none => externA P h fn args
    | some body => cond (cond (Nat.ble (lenF args) fn.ntmps) (Nat.ble fn.ntmps maxT) false) (retAF P fn.ntmps call fn.results.toList (run fn.ntmps true body ⟨argsTrF args 0 .leaf, []⟩ h)) none
theorem callAF_eq (run : RunF) (call : CallF) (h : AHp) (args : List AVal) (f : Option Func) : callAF P run call h args f = callA P run call h args f := by
  cases f with
  | none => rfl
  | some fn =>
    simp only [callAF, callA]
    cases fn.body with
    | none => rfl
    | some body =>
      simp only [retAF_eq, lenF_eq, argsTrF_eq, envOf]
      cases Nat.ble args.length fn.ntmps <;> rfl

noncomputable def callVF (run : RunF) (n : Nat) : CallF :=
  Nat.rec (motive := fun _ => CallF) (fun _ _ _ => none) (fun _ ih h f args =>
    match f with
    | .func (.func f) first captured => callAF P run ih h (appF first (appF args captured)) (tget P.fn f)
    | .func (.yield l) _ _ => roundB run h l args (h.getF l)
    | _ => none) n
theorem callVF_eq (run : RunF) : ∀ n, callVF P run n = callV P run n
  | 0 => rfl
  | n + 1 => by
    funext h f args
    show (match f with
    | .func (.func f) first captured => callAF P run (callVF P run n) h (appF first (appF args captured)) (tget P.fn f)
    | .func (.yield l) _ _ => roundB run h l args (h.getF l)
    | _ => none) = _
    rw [callVF_eq run n, callV]
    cases f with
    | func fn a c => cases fn <;> simp only [callAF_eq, appF_eq, tget_eq, AHp.getF_eq]
    | _ => rfl

noncomputable def condRF (run : Code → AEnv → AHp → Out) (a b : Code) (e : AEnv) (h : AHp) : Option XA → Out
  | some x =>
    match x.evalF e with
    | .bool true => run a e h
    | .bool false => run b e h
    | _ => none
  | none => none
theorem condRF_eq (run : Code → AEnv → AHp → Out) (a b : Code) (e : AEnv) (h : AHp) (x : Option XA) : condRF run a b e h x = condR run a b e h x := by
  cases x with
  | none => rfl
  | some x => simp only [condRF, condR, XA.evalF_eq]; rfl

noncomputable def thenAF (run : AEnv → AHp → Out) (o : Out) : Out :=
  Option.rec (motive := fun _ => Out) none (fun r => Prod.rec (motive := fun _ => Out) (fun x p =>
    AExit.rec (motive := fun _ => (AEnv → AHp → Out) → AEnv × AHp → Out) (fun run p => Prod.rec (motive := fun _ => Out) run p) (fun id _ p => some (.exit id, p)) (fun _ p => some (.ret, p)) x run p) r) o
theorem thenAF_eq (run : AEnv → AHp → Out) (o : Out) : thenAF run o = thenA run o := by
  cases o with
  | none => rfl
  | some r => obtain ⟨x, e, h⟩ := r; cases x <;> rfl

noncomputable def runStepF (ih : RunF) : RunF := fun n rok c e h =>
    (match c with
    | .skip => fun _ _ _ e h => some (AExit.normal, e, h)
    | .label _ => fun _ _ _ e h => some (AExit.normal, e, h)
    | .ret => fun _ _ _ e h => some (AExit.ret, e, h)
    | .exit id => fun _ _ _ e h => some (AExit.exit id, e, h)
    | .region _ ops draw => fun ih n rok e h => norm (regionXF (callVF P ih 3) ops.toList draw e h (xopersF P n rok ops.toList))
    | .seq a b => fun ih n rok e h => thenAF (ih n rok b) (ih n rok a e h)
    | .cond c a b => fun ih n rok e h => condRF (ih n rok) a b e h (xa P n c)
    | .block id b => fun ih n rok e h => blockA id (ih n rok b e h)
    | .loop b => fun ih n rok e h => thenAF (ih n rok (.loop b)) (ih n rok b e h)
    | .rangeFunc f ps assign body => fun ih n rok e h => rangeFuncA (callVF P ih 3) n rok e h ps.toList assign body (xa P n f)
    | _ => fun _ _ _ _ _ => none : RunF → Nat → Bool → AEnv → AHp → Out) ih n rok e h
noncomputable def runAF (m : Nat) : RunF := Nat.rec (motive := fun _ => RunF) (fun _ _ _ _ _ => none) (fun _ ih => runStepF P ih) m
theorem runAF_eq : ∀ m, runAF P m = runA P m
  | 0 => rfl
  | m + 1 => by
    show runStepF P (runAF P m) = _
    rw [runAF_eq m]
    funext n rok c e h
    unfold runStepF
    rw [runA]
    cases c <;> simp only [regionXF_eq, callVF_eq, xopersF_eq, condRF_eq, thenAF_eq]

theorem callVF_runAF (m n : Nat) : callVF P (runAF P m) n = callV P (runA P m) n := by rw [runAF_eq, callVF_eq]

end Go.AE
