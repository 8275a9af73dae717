/- Definitions alone: a deterministic evaluator of the model's code. -/
import Derived.Calls
/- An abstract evaluator of the model's code: definitions. Deterministic: it hides the drawn order of a region's operations and the capacity that an append leaves open. The code is laid once ('xcode'): what hangs on types alone is reckoned then; so the kernel runs it with small terms. -/
namespace Go.AE
set_option autoImplicit false

/-- A value of the abstract machine. 'soft': 0: the slice's capacity is the one that stands here; else: it is at least that, and this is an element's size. 'junk': one cell whose value is not known. -/
inductive AVal where
  | bool (b : Bool)
  | int (k : IntKind) (n : Int)
  | str (s : List UInt8)
  | ptr (a : Option (Nat × Nat))
  | slice (a : Option (Nat × Nat)) (len cap soft : Nat)
  | map (r : Option Nat)
  | func (fn : Fn) (first captured : List AVal)
  | nilFunc
  | iface (t : TypeId) (v : AVal)
  | nilIface
  | agg (l : List AVal)
  | tuple (l : List AVal)
  | junk
  deriving Inhabited

def AVal.cells : AVal → List AVal
  | .agg l => l
  | v => [v]

def AVal.one : AVal → Bool
  | .agg _ => false
  | .tuple _ => false
  | _ => true

def allOne : List AVal → Bool
  | [] => true
  | a :: as => cond a.one (allOne as) false

/-- A binary trie, by the digits of a number. -/
inductive Tr (α : Type) where
  | leaf
  | node (v : Option α) (l r : Tr α)
  deriving Inhabited

namespace Tr
variable {α : Type}
def get : Tr α → Nat → Option α
  | .leaf, _ => none
  | .node v l r, i => cond (Nat.beq i 0) v (cond (Nat.beq (Nat.mod i 2) 1) (l.get (Nat.div i 2)) (r.get (Nat.sub (Nat.div i 2) 1)))
def set : Nat → Tr α → Nat → α → Tr α
  | 0, t, _, _ => t
  | f + 1, .leaf, i, x => cond (Nat.beq i 0) (.node (some x) .leaf .leaf) (cond (Nat.beq (Nat.mod i 2) 1) (.node none (set f .leaf (Nat.div i 2) x) .leaf) (.node none .leaf (set f .leaf (Nat.sub (Nat.div i 2) 1) x)))
  | f + 1, .node v l r, i, x => cond (Nat.beq i 0) (.node (some x) l r) (cond (Nat.beq (Nat.mod i 2) 1) (.node v (set f l (Nat.div i 2) x) r) (.node v l (set f r (Nat.sub (Nat.div i 2) 1) x)))
/-- The same by the digits themselves, laid once. -/
def getP : Tr α → List Bool → Option α
  | .leaf, _ => none
  | .node v _ _, [] => v
  | .node _ l _, true :: p => l.getP p
  | .node _ _ r, false :: p => r.getP p
def setP : List Bool → Tr α → α → Tr α
  | [], .leaf, x => .node (some x) .leaf .leaf
  | [], .node _ l r, x => .node (some x) l r
  | true :: p, .leaf, x => .node none (setP p .leaf x) .leaf
  | true :: p, .node v l r, x => .node v (setP p l x) r
  | false :: p, .leaf, x => .node none .leaf (setP p .leaf x)
  | false :: p, .node v l r, x => .node v l (setP p r x)
end Tr

/-- The digits of a number. -/
def path : Nat → Nat → List Bool
  | 0, _ => []
  | f + 1, i => cond (Nat.beq i 0) [] (cond (Nat.beq (Nat.mod i 2) 1) (true :: path f (Nat.div i 2)) (false :: path f (Nat.sub (Nat.div i 2) 1)))

/-- An operand, laid once. -/
inductive XA where
  | tmp (p : List Bool)
  | cst (v : AVal)

/-- What an allocation makes: the block, and the value that leads to it. -/
inductive AKind where
  | ptr
  | map
  | slice (len cap soft : Nat)

/-- A block of the abstract memory. 'frz': its cells are bytes that a string shares. 'soft': made by an append. -/
inductive ABlk where
  | cells (cs : List AVal) (elem : TypeId) (frz soft : Bool)
  | map (es : List (AVal × AVal × Nat)) (clock : Nat)
  | siter (s : List UInt8) (pos : Nat)
  | loop (busy : Bool) (tmps : Tr AVal) (n : Nat) (params : List Tmp) (assign body : Code)
  | taken
  | dead

/-- The memory: its blocks, how many there are, how many of them are not written. -/
structure AHp where
  tr : Tr ABlk
  size : Nat
  ro : Nat

def fuelT : Nat := 24
def maxT : Nat := 8000000

def AHp.get : AHp → Nat → Option ABlk
  | ⟨tr, _, _⟩, b => tr.get b
def AHp.put : AHp → Nat → ABlk → AHp
  | ⟨tr, n, ro⟩, b, x => ⟨tr.set fuelT b x, n, ro⟩
def AHp.new : AHp → ABlk → Option (Nat × AHp)
  | ⟨tr, n, ro⟩, x => cond (Nat.ble n maxT) (some (n, ⟨tr.set fuelT n x, Nat.succ n, ro⟩)) none

/-- The temporaries and the deferred calls. -/
structure AEnv where
  tmps : Tr AVal
  defers : List (AVal × List AVal)

def undefA : AVal := .tuple []
def orUndef : Option AVal → AVal
  | some v => v
  | none => undefA
def AEnv.get : AEnv → List Bool → AVal
  | ⟨tmps, _⟩, p => orUndef (tmps.getP p)
def AEnv.set : AEnv → List Bool → AVal → AEnv
  | ⟨tmps, ds⟩, p, v => ⟨Tr.setP p tmps v, ds⟩
def AEnv.put (e : AEnv) (d : Option (List Bool)) (v : AVal) : AEnv :=
  match d with
  | none => e
  | some d => e.set d v
def AEnv.push : AEnv → AVal → List AVal → AEnv
  | ⟨tmps, ds⟩, f, args => ⟨tmps, (f, args) :: ds⟩

inductive AExit where
  | normal
  | exit (id : Nat)
  | ret

/-- A function at each of a list, if it answers at all of them. -/
def mapA {α β : Type} (f : α → Option β) : List α → Option (List β)
  | [] => some []
  | x :: xs =>
    match f x with
    | none => none
    | some a =>
      match mapA f xs with
      | none => none
      | some as => some (a :: as)

/-- Constants: no address in them. -/
def ofV : Nat → Value → Option AVal
  | 0, _ => none
  | n + 1, v =>
    match v with
    | .bool b => some (.bool b)
    | .int k i => some (.int k i)
    | .string s => some (.str s.data.toList)
    | .pointer none => some (.ptr none)
    | .slice none 0 0 => some (.slice none 0 0 0)
    | .map none => some (.map none)
    | .nilFunc => some .nilFunc
    | .nilIface => some .nilIface
    | .iface t v => (ofV n v).map (.iface t)
    | .agg cs => (mapA (ofV n) cs.toList).map .agg
    | .tuple cs => (mapA (ofV n) cs.toList).map .tuple
    | _ => none

def constA (v : Value) : Option AVal :=
  match v with
  | .int k i => some (.int k i)
  | .bool b => some (.bool b)
  | v => ofV 4 v

def XA.eval (e : AEnv) : XA → AVal
  | .tmp p => e.get p
  | .cst v => v

def evalAs (e : AEnv) : List XA → List AVal
  | [] => []
  | x :: xs => x.eval e :: evalAs e xs

/-- A program, with tables that are quick to ask: its functions, its types; the struct and array types whose values are compared plainly; what lies where. -/
structure Tab where
  P : Program
  ng : Nat
  fn : Tr Func
  ty : Tr TypeInfo
  plainEq : TypeId → Bool
  lies : TypeId → Nat → Nat → TypeId → Bool

def Tab.info? (T : Tab) (t : TypeId) : Option TypeInfo := T.ty.get t
def Tab.underlying (T : Tab) (t : TypeId) : Option TypeDesc :=
  match T.info? t with
  | none => none
  | some i =>
    match i.desc with
    | .named _ u => (T.info? u).map (·.desc)
    | d => some d

variable (P : Tab)

def sizeA (t : TypeId) : Option Nat := (P.info? t).map (·.size)
def bytesA (t : TypeId) : Option Nat := (P.info? t).map (·.bytes)
def zeroA (t : TypeId) : Option AVal := ((P.info? t).bind (·.zero)).bind (ofV 4)
def isAggA (t : TypeId) : Option Bool :=
  match P.underlying t with
  | some (.struct _) => some true
  | some (.array _ _) => some true
  | some _ => some false
  | none => none

/-- What stands at a type: all that the operations ask of it. -/
def aggSize (t : TypeId) : Option (Option Nat) :=
  match isAggA P t with
  | none => none
  | some false => some none
  | some true =>
    match sizeA P t with
    | none => none
    | some n => some (some n)

def at? (cs : List AVal) (o : Nat) : Option AVal :=
  match cs with
  | [] => none
  | c :: cs => cond (Nat.beq o 0) (some c) (at? cs (Nat.sub o 1))

/-- n cells from place o on. -/
def takeN (cs : List AVal) (o n : Nat) : Option (List AVal) :=
  match cs with
  | [] => cond (Nat.beq o 0) (cond (Nat.beq n 0) (some []) none) none
  | c :: cs => cond (Nat.beq o 0) (takeF (c :: cs) n) (takeN cs (Nat.sub o 1) n)
where
  takeF (cs : List AVal) (n : Nat) : Option (List AVal) :=
    match cs with
    | [] => cond (Nat.beq n 0) (some []) none
    | c :: cs => cond (Nat.beq n 0) (some []) (consO c (takeF cs (Nat.sub n 1)))
  consO (c : AVal) : Option (List AVal) → Option (List AVal)
    | none => none
    | some l => some (c :: l)

/-- The cells from place o on written over: all of them must be there. -/
def overN (cs : List AVal) (o : Nat) (vs : List AVal) : Option (List AVal) :=
  match cs with
  | [] => cond (Nat.beq o 0) (overF [] vs) none
  | c :: cs => cond (Nat.beq o 0) (overF (c :: cs) vs) (takeN.consO c (overN cs (Nat.sub o 1) vs))
where
  overF (cs : List AVal) (vs : List AVal) : Option (List AVal) :=
    match vs with
    | [] => some cs
    | v :: vs =>
      match cs with
      | [] => none
      | _ :: cs => takeN.consO v (overF cs vs)


/- THE OPERATIONS, EACH WITH WHAT ITS TYPES SAY TOLD AHEAD. -/

def ldOneB (o : Nat) : Option ABlk → Option AVal
  | some (.cells cs _ _ _) => at? cs o
  | _ => none
def aggO : Option (List AVal) → Option AVal
  | none => none
  | some l => some (.agg l)
def ldAggB (n o : Nat) : Option ABlk → Option AVal
  | some (.cells cs _ _ _) => aggO (takeN cs o n)
  | _ => none
def ldOne (h : AHp) (a : AVal) : Option AVal :=
  match a with
  | .ptr (some (b, o)) => ldOneB o (h.get b)
  | _ => none
def ldAgg (n : Nat) (h : AHp) (a : AVal) : Option AVal :=
  match a with
  | .ptr (some (b, o)) => ldAggB n o (h.get b)
  | _ => none

/-- n cells from an address on. -/
def readB (o n : Nat) : Option ABlk → Option (List AVal)
  | some (.cells cs _ _ _) => takeN cs o n
  | _ => none
def readA (h : AHp) (a : Option (Nat × Nat)) (n : Nat) : Option (List AVal) :=
  cond (Nat.beq n 0) (some []) <|
  match a with
  | none => none
  | some (b, o) => readB o n (h.get b)

def putO (h : AHp) (b : Nat) (e : TypeId) (soft : Bool) : Option (List AVal) → Option AHp
  | none => none
  | some cs => some (h.put b (.cells cs e false soft))

def roOk : AHp → Nat → Bool
  | ⟨_, _, ro⟩, b => Nat.ble ro b

def writeB (h : AHp) (b o : Nat) (vs : List AVal) : Option ABlk → Option AHp
  | some (.cells cs e false soft) => cond (roOk h b) (cond (allOne vs) (putO h b e soft (overN cs o vs)) none) none
  | _ => none

def writeA (h : AHp) (b o : Nat) (vs : List AVal) : Option AHp := writeB h b o vs (h.get b)

def stN (n : Nat) (h : AHp) (a v : AVal) : Option AHp :=
  match a with
  | .ptr (some (b, o)) => cond (Nat.beq v.cells.length n) (writeA h b o v.cells) none
  | _ => none

/-- Part of an aggregate: 'ag' is its size if it is one itself. -/
def partR (ag : Option Nat) (off : Nat) (cs : List AVal) : Option AVal :=
  match ag with
  | none => at? cs off
  | some n => aggO (takeN cs off n)

def partA (t : TypeId) (cs : List AVal) (off : Nat) : Option AVal :=
  match aggSize P t with
  | none => none
  | some ag => partR ag off cs

def fillO (f : List AVal → Option (List AVal)) : Option (List AVal) → Option (List AVal)
  | none => none
  | some cells => f cells

def nth {α : Type} (l : List α) (i : Nat) : Option α :=
  match l with
  | [] => none
  | x :: l => cond (Nat.beq i 0) (some x) (nth l (Nat.sub i 1))

/-- The parts laid into the cells, each at its place: how far on, how many cells. -/
def fillA : List (Nat × Nat) → List AVal → List AVal → Option (List AVal)
  | [], [], cells => some cells
  | (off, size) :: ps, v :: vs, cells => cond (Nat.beq v.cells.length size) (fillO (fillA ps vs) (overN cells off v.cells)) none
  | _, _, _ => none

def fieldPlace1 (f : Field) : Option (Nat × Nat) :=
  match sizeA P f.type with
  | none => none
  | some n => some (f.offset, n)

/-- Where an aggregate's parts lie: how far on, how many cells. -/
def placesOf (t : TypeId) : Option (Nat → Option (Nat × Nat)) :=
  match P.underlying t with
  | some (.struct fields) =>
    match mapA (fieldPlace1 P) fields.toList with
    | none => none
    | some l => some (nth l)
  | some (.array _ elem) =>
    match sizeA P elem with
    | none => none
    | some size => some fun i => some (Nat.mul i size, size)
  | _ => none

def buildF (zero : List AVal) (places : List (Nat × Nat)) (vs : List AVal) : Option AVal := aggO (fillA places vs zero)

def repA (z : List AVal) : Nat → List AVal
  | 0 => []
  | n + 1 => z ++ repA z n

def elemOfSlice (t : TypeId) : Option TypeId :=
  match P.underlying t with
  | some (.slice e) => some e
  | _ => none

/-- An element's type, its size, its bytes, its zero cells. -/
structure SInfo where
  elem : TypeId
  size : Nat
  bytes : Nat
  zero : List AVal

def sinfo (t : TypeId) : Option SInfo :=
  match elemOfSlice P t with
  | none => none
  | some e =>
    match P.info? e with
    | none => none
    | some i =>
      match zeroA P e with
      | none => none
      | some z => cond (Nat.beq i.size 0) none (cond (Nat.beq z.cells.length i.size) (cond (allOne z.cells) (some ⟨e, i.size, i.bytes, z.cells⟩) none) none)

/-- What an allocation lays, and what leads to it. -/
abbrev AlF := List AVal → Option (ABlk × AKind)

def boxF (t : TypeId) : AlF
  | [v] => cond (allOne v.cells) (some (.cells v.cells t false false, .ptr)) none
  | _ => none

def allocF (t : TypeId) (z : List AVal) : AlF
  | [] => some (.cells z t false false, .ptr)
  | _ => none

def sliceBlk (elem : TypeId) (len cap : Nat) : Option (List AVal) → Option (ABlk × AKind)
  | none => none
  | some cells => cond (allOne cells) (some (.cells cells elem false false, .slice len cap 0)) none

def buildSliceF (elem : TypeId) (len : Nat) (zero : List AVal) (places : List (Nat × Nat)) : AlF :=
  fun vs => sliceBlk elem len len (fillA places vs zero)

def makeSliceN (s : SInfo) (l c : Nat) : Option (ABlk × AKind) :=
  cond (Nat.ble l c) (cond (Nat.ble (Nat.mul c s.bytes) 1000000000) (cond (Nat.ble c 1000000000) (some (.cells (repA s.zero c) s.elem false false, .slice l c 0)) none) none) none

def makeSliceF (s : SInfo) : AlF
  | [.int _ (.ofNat l), .int _ (.ofNat c)] => makeSliceN s l c
  | _ => none

def makeMapF : AlF
  | [] => some (.map [] 0, .map)
  | _ => none

def boundA (x : Option AVal) (d y : Nat) : Option Nat :=
  match x with
  | none => some d
  | some (.int _ (.ofNat i)) => cond (Nat.ble i y) (some i) none
  | some _ => none

def cut (s : List UInt8) (l h : Nat) : List UInt8 := (s.take h).drop l

def shiftO (d : Nat) : Option (Nat × Nat) → Option (Nat × Nat)
  | none => none
  | some (b, o) => some (b, Nat.add o d)

/-- The bounds of a slice expression: low, high, the capacity's end. -/
def bounds3 (len cap : Nat) (low high max : Option AVal) : Option (Nat × Nat × Nat) :=
  match boundA max cap cap with
  | none => none
  | some m =>
    match boundA high len m with
    | none => none
    | some h =>
      match boundA low 0 h with
      | none => none
      | some l => some (l, h, m)

def cutO (s : List UInt8) : Option (Nat × Nat × Nat) → Option AVal
  | none => none
  | some (l, h, _) => some (.str (cut s l h))

def sliceSl (size : Nat) (a : Option (Nat × Nat)) (soft' : Nat) : Option (Nat × Nat × Nat) → Option AVal
  | none => none
  | some (l, h, m) => some (.slice (shiftO (Nat.mul l size) a) (Nat.sub h l) (Nat.sub m l) soft')

def softOk (soft size : Nat) : Bool := cond (Nat.beq soft 0) true (Nat.beq soft size)

/-- Which of low, high and max stand there: they come in that order. -/
def opt1 (is : Bool) (vs : List AVal) : Option (Option AVal × List AVal) :=
  match is with
  | false => some (none, vs)
  | true =>
    match vs with
    | [] => none
    | v :: vs => some (some v, vs)

def opt3 (a b c : Bool) (k : Option AVal → Option AVal → Option AVal → Option AVal) (vs : List AVal) : Option AVal :=
  match opt1 a vs with
  | none => none
  | some (x, vs) =>
    match opt1 b vs with
    | none => none
    | some (y, vs) =>
      match opt1 c vs with
      | none => none
      | some (z, []) => k x y z
      | some (_, _ :: _) => none

def sliceStrK (x : AVal) (low high max : Option AVal) : Option AVal :=
  match x with
  | .str s => cutO s (bounds3 s.length s.length low high max)
  | _ => none

def sliceSlK (size : Nat) (m : Bool) (x : AVal) (low high max : Option AVal) : Option AVal :=
  match x with
  | .slice a len cap soft => cond (softOk soft size) (sliceSl size a (cond m 0 soft) (bounds3 len cap low high max)) none
  | _ => none

def sliceArrK (n size : Nat) (x : AVal) (low high max : Option AVal) : Option AVal :=
  match x with
  | .ptr (some a) => sliceSl size (some a) 0 (bounds3 n n low high max)
  | _ => none

def headF (k : AVal → List AVal → Option AVal) : List AVal → Option AVal
  | [] => none
  | x :: vs => k x vs

def elemPtr (b o i len size : Nat) : Option AVal := cond (Nat.blt i len) (some (.ptr (some (b, Nat.add o (Nat.mul i size))))) none

def ixSlN (size i : Nat) : AVal → Option AVal
  | .slice (some (b, o)) len _ _ => elemPtr b o i len size
  | _ => none
def ixArrN (len size i : Nat) : AVal → Option AVal
  | .ptr (some (b, o)) => elemPtr b o i len size
  | _ => none
def ixSl (size : Nat) (x i : AVal) : Option AVal :=
  match i with
  | .int _ (.ofNat i) => ixSlN size i x
  | _ => none
def ixArr (len size : Nat) (x i : AVal) : Option AVal :=
  match i with
  | .int _ (.ofNat i) => ixArrN len size i x
  | _ => none

def byteA : Option UInt8 → Option AVal
  | none => none
  | some b => some (.int .u8 (.ofNat b.toNat))
def ixStrN (i : Nat) : AVal → Option AVal
  | .str s => byteA (nth s i)
  | _ => none
def ixStr (x i : AVal) : Option AVal :=
  match i with
  | .int _ (.ofNat i) => ixStrN i x
  | _ => none
def ixAggN (len size : Nat) (ag : Option Nat) (i : Nat) : AVal → Option AVal
  | .agg cs => cond (Nat.blt i len) (partR ag (Nat.mul i size) cs) none
  | _ => none
def ixAgg (len size : Nat) (ag : Option Nat) (x i : AVal) : Option AVal :=
  match i with
  | .int _ (.ofNat i) => ixAggN len size ag i x
  | _ => none

def fieldOf (t : TypeId) (f : Nat) : Option Field :=
  match P.underlying t with
  | some (.struct fs) => nth fs.toList f
  | _ => none

/-- A field's offset, if it has a size. -/
def fieldOff (t : TypeId) (f : Nat) : Option Nat :=
  match fieldOf P t f with
  | none => none
  | some fd =>
    match sizeA P fd.type with
    | none => none
    | some n => cond (Nat.beq n 0) none (some fd.offset)

def addOff (d : Nat) : AVal → Option AVal
  | .ptr (some (b, o)) => some (.ptr (some (b, Nat.add o d)))
  | _ => none

def fldAt (ag : Option Nat) (off : Nat) : AVal → Option AVal
  | .agg cs => partR ag off cs
  | _ => none

def beqBytes : List UInt8 → List UInt8 → Bool
  | [], [] => true
  | [], _ :: _ => false
  | _ :: _, [] => false
  | a :: x, b :: y => cond (Nat.beq a.toNat b.toNat) (beqBytes x y) false

def bytesLess : List UInt8 → List UInt8 → Bool
  | _, [] => false
  | [], _ :: _ => true
  | a :: x, b :: y => cond (Nat.blt a.toNat b.toNat) true (cond (Nat.beq a.toNat b.toNat) (bytesLess x y) false)

def eqInt : Int → Int → Bool
  | .ofNat a, .ofNat b => Nat.beq a b
  | .ofNat _, .negSucc _ => false
  | .negSucc _, .ofNat _ => false
  | .negSucc a, .negSucc b => Nat.beq a b

def ltInt : Int → Int → Bool
  | .ofNat a, .ofNat b => Nat.blt a b
  | .ofNat _, .negSucc _ => false
  | .negSucc _, .ofNat _ => true
  | .negSucc a, .negSucc b => Nat.blt b a

def eqBool : Bool → Bool → Bool
  | true, b => b
  | false, b => !b

def kidx : IntKind → Nat
  | .i8 => 0 | .i16 => 1 | .i32 => 2 | .i64 => 3 | .u8 => 4 | .u16 => 5 | .u32 => 6 | .u64 => 7

abbrev EqF := AVal → AVal → Option Bool

def eqBoolF : EqF
  | .bool a, .bool b => some (eqBool a b)
  | _, _ => none
def eqIntF : EqF
  | .int k a, .int k' b => cond (Nat.beq (kidx k) (kidx k')) (some (eqInt a b)) none
  | _, _ => none
def eqStrF : EqF
  | .str a, .str b => some (beqBytes a b)
  | _, _ => none
def eqPtrO : Option (Nat × Nat) → Option (Nat × Nat) → Option Bool
  | none, none => some true
  | none, some _ => some false
  | some _, none => some false
  | some (a, i), some (b, j) => cond (Nat.beq a b) (some (Nat.beq i j)) none
def eqPtrF : EqF
  | .ptr a, .ptr b => eqPtrO a b
  | _, _ => none
def eqNilO {α : Type} : Option α → Option α → Option Bool
  | none, none => some true
  | none, some _ => some false
  | some _, none => some false
  | some _, some _ => none
def eqSliceF : EqF
  | .slice a _ _ _, .slice b _ _ _ => eqNilO a b
  | _, _ => none
def eqMapF : EqF
  | .map a, .map b => eqNilO a b
  | _, _ => none
def eqFuncF : EqF
  | .nilFunc, .nilFunc => some true
  | .nilFunc, .func _ _ _ => some false
  | .func _ _ _, .nilFunc => some false
  | _, _ => none
def eqIfaceF (eq : TypeId → Option EqF) : EqF
  | .nilIface, .nilIface => some true
  | .nilIface, .iface _ _ => some false
  | .iface _ _, .nilIface => some false
  | .iface t v, .iface u w => cond (Nat.beq t u) (match eq t with | none => none | some f => f v w) (some false)
  | _, _ => none

/-- Part by part: each with how far on it lies, its size if it is an aggregate, its own '=='. -/
def eqParts (xs ys : List AVal) : List (Nat × Option Nat × EqF) → Option Bool
  | [] => some true
  | (off, ag, eq) :: ps =>
    match partR ag off xs with
    | none => none
    | some a =>
      match partR ag off ys with
      | none => none
      | some b =>
        match eq a b with
        | some true => eqParts xs ys ps
        | r => r
def eqAggF (ps : List (Nat × Option Nat × EqF)) : EqF
  | .agg xs, .agg ys => eqParts xs ys ps
  | _, _ => none

def someF (off : Nat) : Option (Option Nat) → Option EqF → Option (Option (Nat × Option Nat × EqF))
  | some ag, some f => some (some (off, ag, f))
  | _, _ => none

def eqField1 (eq : TypeId → Option EqF) (f : Field) : Option (Option (Nat × Option Nat × EqF)) :=
  if f.name ≠ "_" then someF f.offset (aggSize P f.type) (eq f.type) else some none

def allSome {α : Type} : List (Option α) → List α
  | [] => []
  | none :: l => allSome l
  | some a :: l => a :: allSome l

def eqStructF (eq : TypeId → Option EqF) (fs : List Field) : Option EqF :=
  match mapA (eqField1 P eq) fs with
  | none => none
  | some l => some (eqAggF (allSome l))

def elemParts (size : Nat) (ag : Option Nat) (f : EqF) : Nat → Nat → List (Nat × Option Nat × EqF)
  | 0, _ => []
  | n + 1, i => (Nat.mul i size, ag, f) :: elemParts size ag f n (Nat.succ i)

def eqArrF (eq : TypeId → Option EqF) (len : Nat) (e : TypeId) : Option EqF :=
  match sizeA P e with
  | none => none
  | some size =>
    match aggSize P e with
    | none => none
    | some ag =>
      match eq e with
      | none => none
      | some f => some (eqAggF (elemParts size ag f len 0))

def ptrOk (e : TypeId) : Option EqF :=
  match sizeA P e with
  | none => none
  | some n => cond (Nat.beq n 0) none (some eqPtrF)

def eqDyn (eq : TypeId → Option EqF) (t : TypeId) : Option EqF :=
  match P.info? t with
  | none => none
  | some i => cond i.comparable (eq t) none

/-- '==' at a type. -/
def eqT : Nat → TypeId → Option EqF
  | 0, _ => none
  | d + 1, t =>
    match P.underlying t with
    | some .bool => some eqBoolF
    | some (.int _) => some eqIntF
    | some .string => some eqStrF
    | some (.pointer e) => ptrOk P e
    | some (.interface _) => some (eqIfaceF (eqDyn P (eqT d)))
    | some (.struct fields) => cond (P.plainEq t) (eqStructF P (eqT d) fields.toList) none
    | some (.array len e) => eqArrF P (eqT d) len e
    | some (.slice _) => some eqSliceF
    | some (.map _ _) => some eqMapF
    | some (.func _ _ _) => some eqFuncF
    | _ => none

def isConst : Operand → Bool
  | .const _ => true
  | _ => false

def nilNil : AVal → AVal → Bool
  | .nilIface, .nilIface => true
  | _, _ => false
def aggAgg : AVal → AVal → Bool
  | .agg _, .agg _ => true
  | _, _ => false

def boolO (neg : Bool) : Option Bool → Option AVal
  | none => none
  | some b => some (.bool (eqBool (!neg) b))

/-- '==' and '!=' of what is neither a number nor a string: with the model's own guard. -/
def eqF (neg nilOk aggOk : Bool) (f : EqF) (a b : AVal) : Option AVal :=
  cond (nilOk || !nilNil a b) (cond (aggOk || !aggAgg a b) (boolO neg (f a b)) none) none

def wrapK (half : Nat) (k : IntKind) (n : Int) : Int :=
  match n with
  | .ofNat m => cond (Nat.blt m half) (.ofNat m) (k.wrap (.ofNat m))
  | n => k.wrap n

def halfOf (k : IntKind) : Nat := Nat.pow 2 (Nat.sub k.bits 1)

/-- Two numbers of kind k. -/
def intF (k : IntKind) (f : Int → Int → Option AVal) (a b : AVal) : Option AVal :=
  match a with
  | .int i x =>
    match b with
    | .int j y => cond (Nat.beq (kidx i) (kidx k)) (cond (Nat.beq (kidx j) (kidx k)) (f x y) none) none
    | _ => none
  | _ => none

def bitsNat (k : IntKind) : Int → Nat
  | .ofNat m => Nat.mod m (Nat.pow 2 k.bits)
  | n => (n % (2 ^ k.bits : Int)).toNat

def addI (k : IntKind) (x y : Int) : Option AVal := some (.int k (wrapK (halfOf k) k (Int.add x y)))
def subI (k : IntKind) (x y : Int) : Option AVal := some (.int k (wrapK (halfOf k) k (Int.sub x y)))
def mulI (k : IntKind) (x y : Int) : Option AVal := some (.int k (wrapK (halfOf k) k (Int.mul x y)))
def quoI (k : IntKind) (x y : Int) : Option AVal := cond (eqInt y 0) none (some (.int k (wrapK (halfOf k) k (Int.tdiv x y))))
def remI (k : IntKind) (x y : Int) : Option AVal := cond (eqInt y 0) none (some (.int k (Int.tmod x y)))
def andI (k : IntKind) (x y : Int) : Option AVal := some (.int k (wrapK (halfOf k) k (.ofNat (Nat.land (bitsNat k x) (bitsNat k y)))))
def orI (k : IntKind) (x y : Int) : Option AVal := some (.int k (wrapK (halfOf k) k (.ofNat (Nat.lor (bitsNat k x) (bitsNat k y)))))
def xorI (k : IntKind) (x y : Int) : Option AVal := some (.int k (wrapK (halfOf k) k (.ofNat (Nat.xor (bitsNat k x) (bitsNat k y)))))
def andNotI (k : IntKind) (x y : Int) : Option AVal := some (.int k (wrapK (halfOf k) k (.ofNat (Nat.land (bitsNat k x) (Nat.sub (Nat.sub (Nat.pow 2 k.bits) 1) (bitsNat k y))))))
def shlI (k : IntKind) (x : Int) : Int → Option AVal
  | .ofNat y => some (.int k (wrapK (halfOf k) k (Int.mul x (.ofNat (Nat.pow 2 (Nat.min y k.bits))))))
  | _ => none
def shrI (k : IntKind) (x : Int) : Int → Option AVal
  | .ofNat y =>
    match x with
    | .ofNat x => some (.int k (.ofNat (Nat.div x (Nat.pow 2 (Nat.min y k.bits)))))
    | x => some (.int k (Int.fdiv x (.ofNat (Nat.pow 2 (Nat.min y k.bits)))))
  | _ => none
def eqI (x y : Int) : Option AVal := some (.bool (eqInt x y))
def neI (x y : Int) : Option AVal := some (.bool (!eqInt x y))
def ltI (x y : Int) : Option AVal := some (.bool (ltInt x y))
def leI (x y : Int) : Option AVal := some (.bool (!ltInt y x))
def gtI (x y : Int) : Option AVal := some (.bool (ltInt y x))
def geI (x y : Int) : Option AVal := some (.bool (!ltInt x y))

/-- A shift: the count may be of another kind. -/
def shiftF (k : IntKind) (f : Int → Int → Option AVal) (a b : AVal) : Option AVal :=
  match a with
  | .int i x =>
    match b with
    | .int _ y => cond (Nat.beq (kidx i) (kidx k)) (f x y) none
    | _ => none
  | _ => none

abbrev BinF := AVal → AVal → Option AVal

def binIntT (op : BinOp) (k : IntKind) : BinF :=
  match op with
  | .add => intF k (addI k)
  | .sub => intF k (subI k)
  | .mul => intF k (mulI k)
  | .quo => intF k (quoI k)
  | .rem => intF k (remI k)
  | .and => intF k (andI k)
  | .or => intF k (orI k)
  | .xor => intF k (xorI k)
  | .shl => shiftF k (shlI k)
  | .shr => shiftF k (shrI k)
  | .andNot => intF k (andNotI k)
  | .eql => intF k eqI
  | .neq => intF k neI
  | .lss => intF k ltI
  | .leq => intF k leI
  | .gtr => intF k gtI
  | .geq => intF k geI

def strF (f : List UInt8 → List UInt8 → Option AVal) (a b : AVal) : Option AVal :=
  match a with
  | .str x =>
    match b with
    | .str y => f x y
    | _ => none
  | _ => none

def catS (a b : List UInt8) : Option AVal := cond (Nat.ble (Nat.add a.length b.length) 1000000000) (some (.str (a ++ b))) none
def eqS (a b : List UInt8) : Option AVal := some (.bool (beqBytes a b))
def neS (a b : List UInt8) : Option AVal := some (.bool (!beqBytes a b))
def ltS (a b : List UInt8) : Option AVal := some (.bool (bytesLess a b))
def leS (a b : List UInt8) : Option AVal := some (.bool (bytesLess a b || beqBytes a b))
def gtS (a b : List UInt8) : Option AVal := some (.bool (!(bytesLess a b || beqBytes a b)))
def geS (a b : List UInt8) : Option AVal := some (.bool (!bytesLess a b))

def binStrT (op : BinOp) : Option BinF :=
  match op with
  | .add => some (strF catS)
  | .eql => some (strF eqS)
  | .neq => some (strF neS)
  | .lss => some (strF ltS)
  | .leq => some (strF leS)
  | .gtr => some (strF gtS)
  | .geq => some (strF geS)
  | _ => none

def eqGen (neg : Bool) (t : TypeId) (x y : Operand) : Option BinF :=
  match eqT P 30 t with
  | none => none
  | some f => some (eqF neg (isConst x || isConst y) (P.plainEq t) f)

def binT (op : BinOp) (t : TypeId) (x y : Operand) : Option BinF :=
  match P.underlying t with
  | some (.int k) => some (binIntT op k)
  | some .string => binStrT op
  | _ =>
    match op with
    | .eql => eqGen P false t x y
    | .neq => eqGen P true t x y
    | _ => none

def notA : AVal → Option AVal
  | .bool b => some (.bool (!b))
  | _ => none
def negA (k : IntKind) : AVal → Option AVal
  | .int i n => cond (Nat.beq (kidx i) (kidx k)) (subI k 0 n) none
  | _ => none
def complA (k : IntKind) : AVal → Option AVal
  | .int i n => cond (Nat.beq (kidx i) (kidx k)) (xorI k (if k.signed then -1 else k.max) n) none
  | _ => none

def unT (op : UnOp) (t : TypeId) : Option (AVal → Option AVal) :=
  match op with
  | .not => some notA
  | .neg =>
    match P.underlying t with
    | some (.int k) => some (negA k)
    | _ => none
  | .xor =>
    match P.underlying t with
    | some (.int k) => some (complA k)
    | _ => none
  | _ => none

def byteOf : AVal → Option UInt8
  | .int .u8 (.ofNat n) => some (UInt8.ofNat n)
  | _ => none

def bytesOfCells (cs : List AVal) : Option (List UInt8) := mapA byteOf cs

def cellsOfBytes : List UInt8 → List AVal
  | [] => []
  | b :: s => .int .u8 (.ofNat b.toNat) :: cellsOfBytes s

def isU8 (e : TypeId) : Bool :=
  match P.underlying e with
  | some (.int .u8) => true
  | _ => false

def convIntF (k : IntKind) : AVal → Option AVal
  | .int _ n => some (.int k (wrapK (halfOf k) k n))
  | _ => none
def strId : AVal → Option AVal
  | .str s => some (.str s)
  | _ => none
def toBytesF (e : TypeId) : AlF
  | [.str s] => cond (Nat.ble s.length 1000000000) (some (.cells (cellsOfBytes s) e false true, .slice s.length s.length 1)) none
  | _ => none
def strO : Option (List UInt8) → Option AVal
  | none => none
  | some s => some (.str s)
def bytesO : Option (List AVal) → Option AVal
  | none => none
  | some cs => strO (bytesOfCells cs)
def toStrF (h : AHp) (x : AVal) : Option AVal :=
  match x with
  | .slice a len _ _ => bytesO (readA h a len)
  | _ => none

def unsafeB (b o : Nat) : Option ABlk → Option AVal
  | some (.cells cs _ _ false) => cond (Nat.blt o cs.length) (some (.ptr (some (b, o)))) none
  | _ => none
def toUnsafeF (h : AHp) (x : AVal) : Option AVal :=
  match x with
  | .ptr (some (b, o)) => unsafeB b o (h.get b)
  | _ => none
def ofUnsafeB (u : TypeId) (b o : Nat) : Option ABlk → Option AVal
  | some (.cells cs e _ false) => cond (P.lies e cs.length o u) (some (.ptr (some (b, o)))) none
  | _ => none
def ofUnsafeF (u : TypeId) (h : AHp) (x : AVal) : Option AVal :=
  match x with
  | .ptr (some (b, o)) => ofUnsafeB P u b o (h.get b)
  | _ => none

/-- How many elements, and their cells. -/
def srcO (n : Nat) : Option (List AVal) → Option (Nat × List AVal)
  | none => none
  | some cs => some (n, cs)
def sourceA (h : AHp) (size : Nat) (x : AVal) : Option (Nat × List AVal) :=
  match x with
  | .slice a len _ _ => srcO len (readA h a (Nat.mul len size))
  | .str s => some (s.length, cellsOfBytes s)
  | _ => none

abbrev HV := Option (AVal × AHp)

def sliceO (len cap soft : Nat) : Option (Nat × AHp) → HV
  | none => none
  | some (b, h) => some (.slice (some (b, 0)) len cap soft, h)

/-- A new block for an append: what stood, and what is appended. -/
def growNew (h : AHp) (elem : TypeId) (size need : Nat) (old new : List AVal) : HV :=
  cond (allOne old) (sliceO need need size (h.new (.cells (old ++ new) elem false true))) none

def deadB (h : AHp) (elem : TypeId) (b : Nat) : Option ABlk → Bool
  | some (.cells _ e false _) => cond (Nat.beq e elem) (roOk h b) false
  | _ => false

def growSoft (h : AHp) (elem : TypeId) (size need : Nat) (old new : List AVal) : Option (Nat × Nat) → HV
  | none => none
  | some (b, _) => cond (deadB h elem b (h.get b)) (growNew (h.put b .dead) elem size need old new) none

def growA (h : AHp) (elem : TypeId) (size : Nat) (base : Option (Nat × Nat)) (soft need : Nat) (new : List AVal) : Option (List AVal) → HV
  | none => none
  | some old => cond (Nat.beq soft 0) (growNew h elem size need old new) (cond (Nat.beq soft size) (growSoft h elem size need old new base) none)

def inPlaceO (base : Option (Nat × Nat)) (need cap soft : Nat) : Option AHp → HV
  | none => none
  | some h => some (.slice base need cap soft, h)

def inPlace (h : AHp) (size : Nat) (base : Option (Nat × Nat)) (len need cap soft : Nat) (new : List AVal) : HV :=
  match base with
  | none => some (.slice none need cap soft, h)
  | some (b, o) => inPlaceO base need cap soft (writeA h b (Nat.add o (Nat.mul len size)) new)

def appendN (h : AHp) (elem : TypeId) (size bytes : Nat) (base : Option (Nat × Nat)) (len cap soft n : Nat) (new : List AVal) : HV :=
  cond (Nat.ble (Nat.mul (Nat.add len n) bytes) 1000000000) (cond (Nat.ble (Nat.add len n) 1000000000) (cond (Nat.beq new.length (Nat.mul n size)) (cond (allOne new)
    (cond (Nat.ble (Nat.add len n) cap) (inPlace h size base len (Nat.add len n) cap soft new)
      (growA h elem size base soft (Nat.add len n) new (readA h base (Nat.mul len size)))) none) none) none) none

def appendS (h : AHp) (i : SInfo) (s : AVal) : Option (Nat × List AVal) → HV
  | none => none
  | some (n, new) =>
    match s with
    | .slice base len cap soft => appendN h i.elem i.size i.bytes base len cap soft n new
    | _ => none

/-- Effects with a value. -/
abbrev EfF := AHp → List AVal → HV

def appendF (i : SInfo) : EfF := fun h args =>
  match args with
  | [s, x] => appendS h i s (sourceA h i.size x)
  | _ => none

def countOf : AVal → Option Nat
  | .slice _ l _ _ => some l
  | .str l => some l.length
  | _ => none

def cellsOfN (h : AHp) (n size : Nat) : AVal → Option (List AVal)
  | .slice a _ _ _ => readA h a (Nat.mul n size)
  | .str l => some (cellsOfBytes (l.take n))
  | _ => none

def intO (n : Nat) : Option AHp → HV
  | none => none
  | some h => some (.int .i64 (.ofNat n), h)

def copyTo (h : AHp) (n : Nat) (base : Option (Nat × Nat)) : Option (List AVal) → HV
  | none => none
  | some cs =>
    match base with
    | none => some (.int .i64 (.ofNat n), h)
    | some (b, o) => intO n (writeA h b o cs)

def copyL (h : AHp) (size : Nat) (base : Option (Nat × Nat)) (dLen : Nat) (s : AVal) : Option Nat → HV
  | none => none
  | some l => copyTo h (Nat.min l dLen) base (cellsOfN h (Nat.min l dLen) size s)

def copyF (size : Nat) : EfF := fun h args =>
  match args with
  | [.slice base dLen _ _, s] => copyL h size base dLen s (countOf s)
  | _ => none

def lenMapB : Option ABlk → Option AVal
  | some (.map es _) => some (.int .i64 (.ofNat es.length))
  | _ => none
def lenMapF (h : AHp) (x : AVal) : Option AVal :=
  match x with
  | .map none => some (.int .i64 0)
  | .map (some r) => lenMapB (h.get r)
  | _ => none
def lenStrF : AVal → Option AVal
  | .str s => some (.int .i64 (.ofNat s.length))
  | _ => none
def lenSlF : AVal → Option AVal
  | .slice _ n _ _ => some (.int .i64 (.ofNat n))
  | _ => none
def lenArrF (n : Nat) : AVal → Option AVal := fun _ => some (.int .i64 (.ofNat n))
def capSlF : AVal → Option AVal
  | .slice _ _ n s => cond (Nat.beq s 0) (some (.int .i64 (.ofNat n))) none
  | _ => none

def foldA (f : Int → Int → Int) (k : IntKind) (n : Int) : List AVal → Option AVal
  | [] => some (.int k n)
  | .int _ m :: xs => foldA f k (f n m) xs
  | _ => none
def foldF (f : Int → Int → Int) : List AVal → Option AVal
  | .int k n :: xs => foldA f k n xs
  | _ => none

def maxI (x y : Int) : Int := cond (ltInt x y) y x
def minI (x y : Int) : Int := cond (ltInt y x) y x

def findKeyA (eq : EqF) (k : AVal) : List (AVal × AVal × Nat) → Nat → Option (Option (Nat × AVal))
  | [], _ => some none
  | e :: es, i =>
    match eq k e.1 with
    | some true => some (some (i, e.2.1))
    | some false => findKeyA eq k es (Nat.succ i)
    | none => none

def plainT (t : TypeId) : Bool :=
  match P.underlying t with
  | some (.int _) => true
  | some .string => true
  | some .bool => true
  | _ => false

def plainKey (t : TypeId) : Bool :=
  match P.underlying t with
  | some (.struct fs) => fs.toList.all fun f => plainT P f.type
  | _ => plainT P t

/-- A map's '==' on keys, and its elements' type. -/
def mapTypes (t : TypeId) : Option (EqF × TypeId) :=
  match P.underlying t with
  | some (.map k e) =>
    cond (plainKey P k)
      (match eqT P 30 k with
      | none => none
      | some f => some (f, e)) none
  | _ => none

def entriesB : Option ABlk → Option (List (AVal × AVal × Nat))
  | some (.map es _) => some es
  | _ => none
def entriesA (h : AHp) : AVal → Option (List (AVal × AVal × Nat))
  | .map none => some []
  | .map (some r) => entriesB (h.get r)
  | _ => none

def okO (ok : Bool) (v : AVal) (b : Bool) : AVal := cond ok (.tuple [v, .bool b]) v

def foundO (z : AVal) (ok : Bool) : Option (Option (Nat × AVal)) → Option AVal
  | none => none
  | some (some (_, v)) => some (okO ok v true)
  | some none => some (okO ok z false)

/-- A key is equal to itself: it has all its parts. -/
def keyOk (eq : EqF) (k : AVal) : Bool :=
  match eq k k with
  | some true => true
  | _ => false

def lookIn (eq : EqF) (z : AVal) (ok : Bool) (k : AVal) : Option (List (AVal × AVal × Nat)) → Option AVal
  | none => none
  | some es => cond (keyOk eq k) (foundO z ok (findKeyA eq k es 0)) none

def lookupF (eq : EqF) (z : AVal) (ok : Bool) (h : AHp) (m k : AVal) : Option AVal := lookIn eq z ok k (entriesA h m)

def setVal (k v : AVal) : List (AVal × AVal × Nat) → Nat → List (AVal × AVal × Nat)
  | [], _ => []
  | e :: es, i => cond (Nat.beq i 0) ((k, v, e.2.2) :: es) (e :: setVal k v es (Nat.sub i 1))

def eqAddr : Option (Nat × Nat) → Option (Nat × Nat) → Bool
  | none, none => true
  | some (a, i), some (b, j) => cond (Nat.beq a b) (Nat.beq i j) false
  | _, _ => false
def eqRef : Option Nat → Option Nat → Bool
  | none, none => true
  | some a, some b => Nat.beq a b
  | _, _ => false

mutual
def eqV : AVal → AVal → Bool
  | .bool a, .bool b => eqBool a b
  | .int k a, .int j b => cond (Nat.beq (kidx k) (kidx j)) (eqInt a b) false
  | .str a, .str b => beqBytes a b
  | .ptr a, .ptr b => eqAddr a b
  | .slice a l c s, .slice b m d t => cond (eqAddr a b) (cond (Nat.beq l m) (cond (Nat.beq c d) (Nat.beq s t) false) false) false
  | .map a, .map b => eqRef a b
  | .func (.func f) a c, .func (.func g) b d => cond (Nat.beq f g) (cond (eqVs a b) (eqVs c d) false) false
  | .func (.yield l) a c, .func (.yield m) b d => cond (Nat.beq l m) (cond (eqVs a b) (eqVs c d) false) false
  | .nilFunc, .nilFunc => true
  | .iface t a, .iface u b => cond (Nat.beq t u) (eqV a b) false
  | .nilIface, .nilIface => true
  | .agg a, .agg b => eqVs a b
  | .tuple a, .tuple b => eqVs a b
  | .junk, .junk => true
  | _, _ => false
def eqVs : List AVal → List AVal → Bool
  | [], [] => true
  | a :: as, b :: bs => cond (eqV a b) (eqVs as bs) false
  | _, _ => false
end

def flat1 : AVal → Bool
  | .int _ _ => true
  | .bool _ => true
  | .str _ => true
  | _ => false
def flatA : AVal → Bool
  | .agg l => l.all flat1
  | v => flat1 v

/-- A key that stands there already: the same to the bit. -/
def bitsOk (k : AVal) : Option (AVal × AVal × Nat) → Bool
  | none => false
  | some e => cond (flatA k) (eqV k e.1) false

def updateM (h : AHp) (r : Nat) (k v : AVal) (es : List (AVal × AVal × Nat)) (clock : Nat) : Option (Option (Nat × AVal)) → Option AHp
  | none => none
  | some (some (i, _)) => cond (bitsOk k (nth es i)) (some (h.put r (.map (setVal k v es i) clock))) none
  | some none => some (h.put r (.map (es ++ [(k, v, clock)]) (Nat.succ clock)))

def updateB (eq : EqF) (h : AHp) (r : Nat) (k v : AVal) : Option ABlk → Option AHp
  | some (.map es clock) => cond (roOk h r) (cond (keyOk eq k) (updateM h r k v es clock (findKeyA eq k es 0)) none) none
  | _ => none

/-- Effects without a value. -/
abbrev SkF := AHp → List AVal → Option AHp

def updateF (eq : EqF) : SkF := fun h args =>
  match args with
  | [.map (some r), k, v] => updateB eq h r k v (h.get r)
  | _ => none

def isIfaceT (t : TypeId) : Bool :=
  match P.underlying t with
  | some (.interface _) => true
  | some _ => false
  | none => true

def assertF (asserted : TypeId) (z : AVal) (ok : Bool) : AVal → Option AVal
  | .iface t v => cond (Nat.beq t asserted) (some (okO ok v true)) (cond ok (some (okO true z false)) none)
  | .nilIface => cond ok (some (okO true z false)) none
  | _ => none

def ifaceF (t : TypeId) (x : AVal) : Option AVal := some (.iface t x)

def nilCheckA : AVal → Option AVal
  | .ptr (some a) => some (.ptr (some a))
  | .func (.func f) a c => some (.func (.func f) a c)
  | .iface t x => some (.iface t x)
  | _ => none

def extractA (i : Nat) : AVal → Option AVal
  | .tuple l => nth l i
  | _ => none

def freezeO (h : AHp) (b : Nat) (cs : List AVal) (e : TypeId) (soft : Bool) : Option (List UInt8) → HV
  | none => none
  | some s => some (.str s, h.put b (.cells cs e true soft))

def strDataL (h : AHp) (b : Nat) (cs : List AVal) (e : TypeId) (soft : Bool) : Option (List AVal) → HV
  | none => none
  | some l => freezeO h b cs e soft (bytesOfCells l)

def sizeOne : Option Nat → Bool
  | some n => Nat.beq n 1
  | none => false

def strDataB (h : AHp) (b o n : Nat) : Option ABlk → HV
  | some (.cells cs e _ soft) => cond (isU8 P e && sizeOne (sizeA P e)) (cond (Nat.ble n 1000000000) (cond (roOk h b) (strDataL h b cs e soft (takeN cs o n)) none) none) none
  | _ => none

def unsafeStrN (h : AHp) (n : Nat) : Option (Nat × Nat) → HV
  | none => none
  | some (b, o) => strDataB P h b o n (h.get b)

def unsafeStrF : EfF := fun h args =>
  match args with
  | [.ptr a, .int _ (.ofNat n)] => cond (Nat.beq n 0) (some (.str [], h)) (unsafeStrN P h n a)
  | _ => none

def sliceDataF : AVal → Option AVal
  | .slice none _ _ _ => some (.ptr none)
  | .slice (some a) _ c _ => cond (Nat.beq c 0) none (some (.ptr (some a)))
  | _ => none

def pickF : List AVal → Option AVal
  | [.bool true, a, _] => some a
  | [.bool false, _, b] => some b
  | _ => none

def idF (x : AVal) : Option AVal := some x

/- THE CODE, LAID ONCE. -/

/-- An operation by what it may do: nothing but reckon (p), read memory (r), lay one new block (al), change memory with a value (ef) or without (st, sk), call (cl), defer (df). -/
inductive XOp where
  | p1 (f : AVal → Option AVal) (x : XA)
  | p2 (f : AVal → AVal → Option AVal) (x y : XA)
  | pn (f : List AVal → Option AVal) (xs : List XA)
  | r1 (f : AHp → AVal → Option AVal) (x : XA)
  | r2 (f : AHp → AVal → AVal → Option AVal) (x y : XA)
  | al (f : AlF) (xs : List XA)
  | ef (f : EfF) (xs : List XA)
  | st (f : AHp → AVal → AVal → Option AHp) (x y : XA)
  | sk (f : SkF) (xs : List XA)
  | cl (f : XA) (xs : List XA)
  | df (f : XA) (xs : List XA)
  | rc

/-- 'n': how many temporaries there are. -/
def xa (n : Nat) : Operand → Option XA
  | .tmp t => cond (Nat.blt t n) (some (.tmp (path fuelT t))) none
  | .const v => (constA v).map .cst
  | .global g => cond (Nat.blt g P.ng) (some (.cst (.ptr (some (g, 0))))) none
  | .func f => some (.cst (.func (.func f) [] []))

def x1 (n : Nat) (f : Option (AVal → Option AVal)) (x : Operand) : Option XOp :=
  match f with
  | none => none
  | some f => (xa P n x).map (.p1 f)

def mk2 {α : Type} (k : XA → XA → α) : Option XA → Option XA → Option α
  | some a, some b => some (k a b)
  | _, _ => none

def x2 (n : Nat) (f : Option BinF) (x y : Operand) : Option XOp :=
  match f with
  | none => none
  | some f => mk2 (.p2 f) (xa P n x) (xa P n y)

def xs (n : Nat) (k : List XA → XOp) (l : List Operand) : Option XOp := (mapA (xa P n) l).map k

def xload (n : Nat) (t : TypeId) (a : Operand) : Option XOp :=
  match aggSize P t with
  | none => none
  | some none => (xa P n a).map (.r1 ldOne)
  | some (some m) => (xa P n a).map (.r1 (ldAgg m))

def xstore (n : Nat) (t : TypeId) (a x : Operand) : Option XOp :=
  match sizeA P t with
  | none => none
  | some m => cond (Nat.beq m 0) none (mk2 (.st (stN m)) (xa P n a) (xa P n x))

def xalloc (t : TypeId) : Option XOp :=
  match zeroA P t with
  | none => none
  | some z => cond (allOne z.cells) (some (.al (allocF t z.cells) [])) none

def xbuild (n : Nat) (t : TypeId) (ps : List (Nat × Operand)) : Option XOp :=
  match zeroA P t with
  | none => none
  | some z =>
    match placesOf P t with
    | none => none
    | some pf =>
      match mapA (fun p => pf p.1) ps with
      | none => none
      | some pl => xs P n (.pn (buildF z.cells pl)) (ps.map (·.2))

def xbuildSlice (n : Nat) (t : TypeId) (len : Nat) (ps : List (Nat × Operand)) : Option XOp :=
  match sinfo P t with
  | none => none
  | some i => cond (Nat.ble (Nat.mul len i.size) 1000000) (xs P n (.al (buildSliceF i.elem len (repA i.zero len) (ps.map fun p => (Nat.mul p.1 i.size, i.size)))) (ps.map (·.2))) none

def fOff (t : TypeId) (f : Nat) : Option (AVal → Option AVal) := (fieldOff P t f).map addOff

def fFld (t : TypeId) (f : Nat) : Option (AVal → Option AVal) :=
  match fieldOf P t f with
  | none => none
  | some fd => (aggSize P fd.type).map fun ag => fldAt ag fd.offset

def fIxAt (t : TypeId) : Option BinF :=
  match P.underlying t with
  | some (.array len e) => (sizeA P e).map (ixArr len)
  | some (.slice e) => (sizeA P e).map ixSl
  | _ => none

def fIx (t : TypeId) : Option BinF :=
  match P.underlying t with
  | some .string => some ixStr
  | some (.array len e) =>
    match sizeA P e with
    | none => none
    | some size => (aggSize P e).map (ixAgg len size)
  | _ => none

def xconvInt (n : Nat) (k : IntKind) (x : Operand) : Option XOp := (xa P n x).map (.p1 (convIntF k))

def isIntD : Option TypeDesc → Bool
  | some (.int _) => true
  | _ => false

def xconvert (n : Nat) (src dst : TypeId) (x : Operand) : Option XOp :=
  match P.underlying src with
  | some (.int _) =>
    match P.underlying dst with
    | some (.int k) => xconvInt P n k x
    | _ => none
  | some .string =>
    match P.underlying dst with
    | some .string => (xa P n x).map (.p1 strId)
    | some (.slice e) => cond (isU8 P e) (xs P n (.al (toBytesF e)) [x]) none
    | _ => none
  | some (.slice e) =>
    match P.underlying dst with
    | some .string => cond (isU8 P e) ((xa P n x).map (.r1 toStrF)) none
    | _ => none
  | some (.pointer t) =>
    match P.underlying dst with
    | some .unsafePointer => cond (Nat.beq ((sizeA P t).getD 0) 0) none ((xa P n x).map (.r1 toUnsafeF))
    | _ => none
  | some .unsafePointer =>
    match P.underlying dst with
    | some (.pointer u) => cond (sizeA P u).isSome ((xa P n x).map (.r1 (ofUnsafeF P u))) none
    | _ => none
  | _ => none

def xmakeSlice (n : Nat) (t : TypeId) (l c : Operand) : Option XOp :=
  match sinfo P t with
  | none => none
  | some i => xs P n (.al (makeSliceF i)) [l, c]

def optL : Option Operand → List Operand
  | none => []
  | some x => [x]

def xslice (n : Nat) (t : TypeId) (x : Operand) (lo hi mx : Option Operand) : Option XOp :=
  let l := x :: (optL lo ++ (optL hi ++ optL mx))
  cond (mx.isSome && hi.isNone) none <|
  match P.underlying t with
  | some .string => cond mx.isSome none (xs P n (.pn (headF fun x => opt3 lo.isSome hi.isSome mx.isSome (sliceStrK x))) l)
  | some (.slice e) =>
    match sizeA P e with
    | none => none
    | some size => xs P n (.pn (headF fun x => opt3 lo.isSome hi.isSome mx.isSome (sliceSlK size mx.isSome x))) l
  | some (.array len e) =>
    match sizeA P e with
    | none => none
    | some size => xs P n (.pn (headF fun x => opt3 lo.isSome hi.isSome mx.isSome (sliceArrK len size x))) l
  | _ => none

def xlookup (n : Nat) (t : TypeId) (m k : Operand) (ok : Bool) : Option XOp :=
  match mapTypes P t with
  | none => none
  | some (eq, et) =>
    match zeroA P et with
    | none => none
    | some z => mk2 (.r2 (lookupF eq z ok)) (xa P n m) (xa P n k)

def xupdate (n : Nat) (t : TypeId) (m k x : Operand) : Option XOp :=
  match mapTypes P t with
  | none => none
  | some (eq, _) => xs P n (.sk (updateF eq)) [m, k, x]

def xassert (n : Nat) (x : Operand) (asserted : TypeId) (ok : Bool) : Option XOp :=
  cond (isIfaceT P asserted) none <|
  match zeroA P asserted with
  | none => none
  | some z => (xa P n x).map (.p1 (assertF asserted z ok))

def funcF (f k : Nat) (l : List AVal) : Option AVal := some (.func (.func f) (l.take k) (l.drop k))

def xmakeFunc (n : Nat) (fn : Fn) (a c : List Operand) : Option XOp :=
  match fn with
  | .func f => xs P n (.pn (funcF f a.length)) (a ++ c)
  | _ => none

def lenT (t : TypeId) : Option (AVal → Option AVal) :=
  match P.underlying t with
  | some .string => some lenStrF
  | some (.slice _) => some lenSlF
  | some (.array n _) => some (lenArrF n)
  | some (.pointer arr) =>
    match P.underlying arr with
    | some (.array n _) => some (lenArrF n)
    | _ => none
  | _ => none

def isMapT (t : TypeId) : Bool :=
  match P.underlying t with
  | some (.map _ _) => true
  | _ => false

def notInt : Option TypeId → Bool
  | none => true
  | some t =>
    match P.underlying t with
    | some (.int _) => false
    | some _ => true
    | none => false

def xlen (n : Nat) (ts : List TypeId) (args : List Operand) : Option XOp :=
  match ts, args with
  | [t], [x] => cond (isMapT P t) ((xa P n x).map (.r1 lenMapF)) (x1 P n (lenT P t) x)
  | _, _ => none

def xcap (n : Nat) (ts : List TypeId) (args : List Operand) : Option XOp :=
  match ts, args with
  | [t], [x] =>
    match P.underlying t with
    | some (.slice _) => x1 P n (some capSlF) x
    | _ => none
  | _, _ => none

def xappend (n : Nat) (ts : List TypeId) (args : List Operand) : Option XOp :=
  match ts, args with
  | t :: u, [s, x] =>
    cond (notInt P u.head?)
      (match sinfo P t with
      | none => none
      | some i => xs P n (.ef (appendF i)) [s, x]) none
  | _, _ => none

def xcopy (n : Nat) (ts : List TypeId) (args : List Operand) : Option XOp :=
  match ts, args with
  | t :: _, [d, s] =>
    match elemOfSlice P t with
    | none => none
    | some e => 
      match sizeA P e with
      | none => none
      | some size => xs P n (.ef (copyF size)) [d, s]
  | _, _ => none

def xdata (n : Nat) (args : List Operand) : Option XOp :=
  match args with
  | [x] => x1 P n (some sliceDataF) x
  | _ => none

def xunsafeStr (n : Nat) (ts : List TypeId) (args : List Operand) : Option XOp :=
  match ts, args with
  | pt :: _, [x, y] =>
    match P.underlying pt with
    | some (.pointer pe) => cond (isU8 P pe) (xs P n (.ef (unsafeStrF P)) [x, y]) none
    | _ => none
  | _, _ => none

/-- 'rok': recover and defer may stand here (no round of a range over a function). -/
def xbuiltin (n : Nat) (rok : Bool) (b : Builtin) (ts : List TypeId) (args : List Operand) : Option XOp :=
  match b with
  | .len => xlen P n ts args
  | .cap => xcap P n ts args
  | .append => xappend P n ts args
  | .copy => xcopy P n ts args
  | .max => xs P n (.pn (foldF maxI)) args
  | .min => xs P n (.pn (foldF minI)) args
  | .unsafeSliceData => xdata P n args
  | .unsafeString => xunsafeStr P n ts args
  | .recover => cond (rok && args.isEmpty) (some .rc) none
  | _ => none

def xcl (n : Nat) (k : XA → List XA → XOp) (f : Operand) (args : List Operand) : Option XOp :=
  match xa P n f with
  | none => none
  | some f => xs P n (k f) args

def xcall (n : Nat) (rok : Bool) (c : Call) : Option XOp :=
  match c.callee with
  | .value f => xcl P n .cl f c.args.toList
  | .builtin b => xbuiltin P n rok b c.argTypes.toList c.args.toList
  | .invoke _ _ => none

def xdefer (n : Nat) (rok : Bool) (c : Call) : Option XOp :=
  match c.callee with
  | .value f => cond rok (xcl P n .df f c.args.toList) none
  | _ => none

def xiface (n : Nat) (t : TypeId) (x : Operand) : Option XOp := cond (isIfaceT P t) none ((xa P n x).map (.p1 (ifaceF t)))

def xop (n : Nat) (rok : Bool) (o : Op) : Option XOp :=
  match o with
  | .move x => (xa P n x).map (.p1 idF)
  | .assign x => (xa P n x).map (.p1 idF)
  | .pick c a b => xs P n (.pn pickF) [c, a, b]
  | .alloc t => xalloc P t
  | .box t x => xs P n (.al (boxF t)) [x]
  | .build t ps => xbuild P n t ps.toList
  | .buildSlice t len ps => xbuildSlice P n t len ps.toList
  | .load t a => xload P n t a
  | .store t a x => xstore P n t a x
  | .nilCheck x => x1 P n (some nilCheckA) x
  | .binOp op t x y _ => x2 P n (binT P op t x y) x y
  | .unOp op t x => x1 P n (unT P op t) x
  | .convert a b x => xconvert P n a b x
  | .makeInterface t x => xiface P n t x
  | .makeFunc fn a c => xmakeFunc P n fn a.toList c.toList
  | .makeMap _ none => some (.al makeMapF [])
  | .makeSlice t l c => xmakeSlice P n t l c
  | .slice t x lo hi mx => xslice P n t x lo hi mx
  | .fieldAddr t x f => x1 P n (fOff P t f) x
  | .field t x f => x1 P n (fFld P t f) x
  | .indexAddr t x i => x2 P n (fIxAt P t) x i
  | .index t x i => x2 P n (fIx P t) x i
  | .lookup t m k ok => xlookup P n t m k ok
  | .mapUpdate t m k x => xupdate P n t m k x
  | .insert t m k x => xupdate P n t m k x
  | .typeAssert x _ a ok => xassert P n x a ok
  | .extract x i => x1 P n (some (extractA i)) x
  | .call c => xcall P n rok c
  | .defer c => xdefer P n rok c
  | _ => none

structure XOper where
  op : XOp
  dst : Option (List Bool)
  guard : Option (List Bool × Bool)

def xdst (n : Nat) : Option Tmp → Option (Option (List Bool))
  | none => some none
  | some d => cond (Nat.blt d n) (some (some (path fuelT d))) none

def xguardO (n : Nat) (want : Bool) : Option Oper → Option (Option (List Bool × Bool))
  | none => none
  | some o =>
    match o.dst with
    | none => none
    | some d => cond (Nat.blt d n) (some (some (path fuelT d, want))) none

def xguard (n : Nat) (ops : List Oper) : Option (Nat × Bool) → Option (Option (List Bool × Bool))
  | none => some none
  | some (j, want) => xguardO n want (nth ops j)

def xoper (n : Nat) (rok : Bool) (ops : List Oper) (o : Oper) : Option XOper :=
  match xop P n rok o.op with
  | none => none
  | some op =>
    match xdst n o.dst with
    | none => none
    | some d =>
      match xguard n ops o.guard with
      | none => none
      | some g => some ⟨op, d, g⟩

/-- The operations of a region. -/
def xopers (n : Nat) (rok : Bool) (ops : List Oper) : Option (List XOper) := mapA (xoper P n rok ops) ops

/- THE RUN. -/

/-- How a function value is called. -/
abbrev CallF := AHp → AVal → List AVal → HV

abbrev St := Option (AEnv × AHp)

def rv (e : AEnv) (d : Option (List Bool)) (h : AHp) : Option AVal → St
  | none => none
  | some v => some (e.put d v, h)
def ru (e : AEnv) (d : Option (List Bool)) : HV → St
  | none => none
  | some (v, h) => some (e.put d v, h)
def rs (e : AEnv) (d : Option (List Bool)) : Option AHp → St
  | none => none
  | some h => some (e.put d undefA, h)

def AKind.val (b : Nat) : AKind → AVal
  | .ptr => .ptr (some (b, 0))
  | .map => .map (some b)
  | .slice len cap soft => .slice (some (b, 0)) len cap soft

def newO (k : AKind) : Option (Nat × AHp) → HV
  | none => none
  | some (b, h) => some (k.val b, h)

def alO (h : AHp) : Option (ABlk × AKind) → HV
  | none => none
  | some (x, k) => newO k (h.new x)

def isFn : AVal → Bool
  | .func (.func _) _ _ => true
  | _ => false

def opX (call : CallF) (e : AEnv) (h : AHp) (d : Option (List Bool)) : XOp → St
  | .p1 f x => rv e d h (f (x.eval e))
  | .p2 f x y => rv e d h (f (x.eval e) (y.eval e))
  | .pn f xs => rv e d h (f (evalAs e xs))
  | .r1 f x => rv e d h (f h (x.eval e))
  | .r2 f x y => rv e d h (f h (x.eval e) (y.eval e))
  | .al f xs => ru e d (alO h (f (evalAs e xs)))
  | .ef f xs => ru e d (f h (evalAs e xs))
  | .st f x y => rs e d (f h (x.eval e) (y.eval e))
  | .sk f xs => rs e d (f h (evalAs e xs))
  | .cl f xs => ru e d (call h (f.eval e) (evalAs e xs))
  | .df f xs => cond (isFn (f.eval e)) (rs (e.push (f.eval e) (evalAs e xs)) d (some h)) none
  | .rc => rv e d h (some .nilIface)

def wantedT (want : Bool) : AVal → Option Bool
  | .bool b => some (eqBool b want)
  | .tuple _ => some false
  | _ => none

def wantedA (e : AEnv) : Option (List Bool × Bool) → Option Bool
  | none => some true
  | some (p, want) => wantedT want (e.get p)

def stepW (call : CallF) (e : AEnv) (h : AHp) (op : XOp) (d : Option (List Bool)) : Option Bool → St
  | none => none
  | some true => opX call e h d op
  | some false => some (e.put d undefA, h)

def stepX (call : CallF) (e : AEnv) (h : AHp) : XOper → St
  | ⟨op, d, g⟩ => stepW call e h op d (wantedA e g)

def opsX (call : CallF) : List XOper → AEnv → AHp → St
  | [], e, h => some (e, h)
  | o :: os, e, h =>
    match stepX call e h o with
    | none => none
    | some (e, h) => opsX call os e h

/- A REGION THAT DRAWS ITS ORDER: run as it stands in the text; what it reads must be the same at whatever order. -/

/-- Does an operation change memory, or the deferred calls? -/
def XOp.eff : XOp → Bool
  | .ef _ _ => true
  | .st _ _ _ => true
  | .sk _ _ => true
  | .cl _ _ => true
  | .df _ _ => true
  | _ => false

def bitOf (n : Nat) : Nat := Nat.shiftLeft 1 n
def hasBit (m n : Nat) : Bool := Nat.beq (Nat.land (Nat.shiftRight m n) 1) 1

def dstBits : Option Tmp → Nat
  | none => 0
  | some d => bitOf d
def operandBits : List Operand → Nat
  | [] => 0
  | .tmp t :: l => Nat.lor (bitOf t) (operandBits l)
  | _ :: l => operandBits l
def guardDst : Option Oper → Nat
  | none => 0
  | some o => dstBits o.dst
def guardBits (ops : List Oper) : Option (Nat × Bool) → Nat
  | none => 0
  | some (g, _) => guardDst (nth ops g)

/-- Of an operation: what must come before it, what it writes, what it looks at, whether it changes memory. -/
structure DInfo where
  anc : Nat
  dst : Nat
  sees : Nat
  eff : Bool

/-- The operations ahead of one, as far as its edges say; none: an edge to what does not lie ahead. 'acc': those laid already, the last one first, 'i' of them. -/
def ancOf (i : Nat) (acc : List DInfo) : List Edge → Option Nat
  | [] => some 0
  | e :: es =>
    cond (Region.binds .any e)
      (cond (Nat.blt e.on i)
        (match nth acc (Nat.sub (Nat.sub i 1) e.on) with
        | none => none
        | some d =>
          match ancOf i acc es with
          | none => none
          | some m => some (Nat.lor (Nat.lor (bitOf e.on) d.anc) m))
        none)
      (ancOf i acc es)

def apartD (x y : DInfo) : Bool :=
  cond (Nat.beq (Nat.land x.dst (Nat.lor y.sees y.dst)) 0) (cond (Nat.beq (Nat.land y.dst x.sees) 0) (!(x.eff && y.eff)) false) false

/-- Each one ahead of it in the text comes ahead of it, or is apart from it. -/
def apartAll (d : DInfo) : List DInfo → Nat → Bool
  | [], _ => true
  | a :: acc, j => cond (cond (hasBit d.anc (Nat.sub j 1)) true (apartD a d)) (apartAll d acc (Nat.sub j 1)) false

def drawInfo (ops : List Oper) : List Oper → List XOper → Nat → List DInfo → Option (List DInfo)
  | [], [], _, acc => some acc
  | o :: os, x :: xs, i, acc =>
    match ancOf i acc o.after.toList with
    | none => none
    | some m =>
      cond (apartAll ⟨m, dstBits o.dst, Nat.lor (operandBits o.op.operands.toList) (guardBits ops o.guard), x.op.eff⟩ acc i)
        (drawInfo ops os xs (Nat.succ i) (⟨m, dstBits o.dst, Nat.lor (operandBits o.op.operands.toList) (guardBits ops o.guard), x.op.eff⟩ :: acc)) none
  | _, _, _, _ => none

/-- Of all, the first one first. -/
def drawInfos (ops : List Oper) (l : List XOper) : Option (List DInfo) :=
  match drawInfo ops ops l 0 [] with
  | none => none
  | some acc => some acc.reverse

def sameO (v : AVal) : Option AVal → Bool
  | none => false
  | some u => eqV u v

/-- A read as it may fall: at which memories it must give what it gave. Memories are counted by how many changes came ahead. -/
structure RLog where
  read : AHp → Option AVal
  val : AVal
  args : List AVal
  size : Nat
  anc : Nat
  idx : Nat

mutual
/-- No block from number s on is named. -/
def lowV (s : Nat) : AVal → Bool
  | .ptr (some (b, _)) => Nat.blt b s
  | .slice (some (b, _)) _ _ _ => Nat.blt b s
  | .map (some r) => Nat.blt r s
  | .func (.func _) a c => cond (lowVs s a) (lowVs s c) false
  | .func (.yield l) a c => cond (Nat.blt l s) (cond (lowVs s a) (lowVs s c) false) false
  | .iface _ v => lowV s v
  | .agg l => lowVs s l
  | .tuple l => lowVs s l
  | .func _ _ _ => false
  | _ => true
def lowVs (s : Nat) : List AVal → Bool
  | [] => true
  | a :: as => cond (lowV s a) (lowVs s as) false
end

def sizeH : AHp → Nat
  | ⟨_, n, _⟩ => n

def sameAt (r : RLog) (h : AHp) : Bool := cond (lowVs (sizeH h) r.args) (sameO r.val (r.read h)) false

/-- 'views': each memory ahead of a change, with the change's place and what comes ahead of the change; the last: the memory at the end. A read may fall at a memory if the change before it need not come behind the read, and the change behind it need not come ahead. 'late': the change ahead comes behind the read. -/
def checkR (r : RLog) : List (AHp × Nat × Nat) → AHp → Bool → Bool
  | [], h, late => cond late true (sameAt r h)
  | (v, j, anc) :: vs, h, late =>
    cond late true
      (cond (cond (hasBit r.anc j) true (sameAt r v)) (checkR r vs h (hasBit anc r.idx)) false)

def checkRs (views : List (AHp × Nat × Nat)) (h : AHp) : List RLog → Bool
  | [] => true
  | r :: rs => cond (lowV r.size r.val) (cond (checkR r views h false) (checkRs views h rs) false) false

def readOf (e : AEnv) : XOp → Option ((AHp → Option AVal) × List AVal)
  | .r1 f x => some (fun h => f h (x.eval e), [x.eval e])
  | .r2 f x y => some (fun h => f h (x.eval e) (y.eval e), [x.eval e, y.eval e])
  | _ => none

def logR (i anc : Nat) (h : AHp) (logs : List RLog) : Option ((AHp → Option AVal) × List AVal) → List RLog
  | none => logs
  | some (g, args) =>
    match g h with
    | none => logs
    | some v => ⟨g, v, args, sizeH h, anc, i⟩ :: logs

def logX (e : AEnv) (h : AHp) (i anc : Nat) (o : XOper) (logs : List RLog) : List RLog :=
  match wantedA e o.guard with
  | some true => logR i anc h logs (readOf e o.op)
  | _ => logs

def viewX (h : AHp) (i anc : Nat) (o : XOper) (views : List (AHp × Nat × Nat)) : List (AHp × Nat × Nat) :=
  cond o.op.eff ((h, i, anc) :: views) views

def drawEnd (e : AEnv) (h : AHp) (views : List (AHp × Nat × Nat)) (logs : List RLog) : St :=
  cond (checkRs views.reverse h logs) (some (e, h)) none

def drawGo (call : CallF) : List XOper → List DInfo → Nat → AEnv → AHp → List (AHp × Nat × Nat) → List RLog → St
  | [], _, _, e, h, views, logs => drawEnd e h views logs
  | o :: os, ds, i, e, h, views, logs =>
    match ds with
    | [] => none
    | d :: ds =>
      match stepX call e h o with
      | none => none
      | some (e', h') => cond (Nat.ble (sizeH h) (sizeH h')) (drawGo call os ds (Nat.succ i) e' h' (viewX h i d.anc o views) (logX e h i d.anc o logs)) none

def drawO (call : CallF) (l : List XOper) (e : AEnv) (h : AHp) : Option (List DInfo) → St
  | none => none
  | some ds => drawGo call l ds 0 e h [] []

def drawX (call : CallF) (ops : List Oper) (l : List XOper) (e : AEnv) (h : AHp) : St := drawO call l e h (drawInfos ops l)

def regionX (call : CallF) (ops : List Oper) (draw : Bool) (e : AEnv) (h : AHp) : Option (List XOper) → St
  | none => none
  | some l => cond draw (drawX call ops l e h) (opsX call l e h)

def tmpA (n : Nat) (e : AEnv) (t : Tmp) : Option AVal := cond (Nat.blt t n) (some (e.get (path fuelT t))) none

def ldR (h : AHp) (ag : Option (Option Nat)) : Option AVal → Option AVal
  | none => none
  | some v =>
    match ag with
    | none => none
    | some none => ldOne h v
    | some (some m) => ldAgg m h v

def resultA (n : Nat) (h : AHp) (e : AEnv) : ResultVar → Option AVal
  | .tmp t => tmpA n e t
  | .cell a t => ldR h (aggSize P t) (tmpA n e a)

def resultsA (n : Nat) (h : AHp) (e : AEnv) (rs : List ResultVar) : Option (List AVal) := mapA (resultA P n h e) rs

def argsTr (t : Tr AVal) (i : Nat) : List AVal → Tr AVal
  | [] => t
  | a :: as => argsTr (t.set fuelT i a) (Nat.succ i) as

def envOf (args : List AVal) : AEnv := ⟨argsTr .leaf 0 args, []⟩

abbrev Out := Option (AExit × AEnv × AHp)
/-- How code is run: how many temporaries, whether recover and defer may stand there. -/
abbrev RunF := Nat → Bool → Code → AEnv → AHp → Out

def indexByteA (s : List UInt8) (c : Nat) (i : Nat) : Int :=
  match s with
  | [] => -1
  | b :: s => cond (Nat.beq b.toNat c) (.ofNat i) (indexByteA s c (Nat.succ i))

def countByteA (s : List UInt8) (c n : Nat) : Nat :=
  match s with
  | [] => n
  | b :: s => countByteA s c (cond (Nat.beq b.toNat c) (Nat.succ n) n)

def nameIs (fn : Func) (s : String) : Bool := decide (fn.name = s) && decide (fn.origin = "")

def escapeA (h : AHp) : List AVal → HV
  | [x] => some (x, h)
  | _ => none

def indexByteX (h : AHp) : List AVal → HV
  | [.str s, .int .u8 (.ofNat c)] => cond (Nat.blt c 256) (some (.int .i64 (indexByteA s c 0), h)) none
  | _ => none

def countX (h : AHp) : List AVal → HV
  | [.str s, .int .u8 (.ofNat c)] => cond (Nat.blt c 256) (some (.int .i64 (.ofNat (countByteA s c 0)), h)) none
  | _ => none

def makeNoZeroX (h : AHp) (ts : List TypeId) : List AVal → HV
  | [.int .i64 (.ofNat n)] =>
    match ts with
    | t :: _ =>
      match elemOfSlice P t with
      | none => none
      | some e => cond (Nat.ble n 1000000) (sliceO n n 1 (h.new (.cells (List.replicate n .junk) e false true))) none
    | _ => none
  | _ => none

/-- The functions without a body that are known here. -/
def externA (h : AHp) (fn : Func) (args : List AVal) : HV :=
  cond (nameIs fn "internal/abi.NoEscape") (escapeA h args) <|
  cond (nameIs fn "internal/bytealg.IndexByteString") (indexByteX h args) <|
  cond (nameIs fn "internal/bytealg.CountString") (countX h args) <|
  cond (nameIs fn "internal/bytealg.MakeNoZero") (makeNoZeroX P h fn.resultTypes.toList args) none

def takenB (h : AHp) (r : Nat) : Option ABlk → Option AHp
  | some .taken => cond (roOk h r) (some (h.put r .dead)) none
  | _ => none

def bodyIs : Option Func → Bool
  | some fn => fn.body.isSome
  | none => false

def heapO : HV → Option AHp
  | none => none
  | some (_, h) => some h

/-- One deferred call; an address: the mark of a range over a function. -/
def defer1 (call : CallF) (h : AHp) (f : AVal) (args : List AVal) : Option AHp :=
  match f with
  | .ptr (some (r, _)) => takenB h r (h.get r)
  | .func (.func f) a c => cond (bodyIs (P.fn.get f)) (heapO (call h (.func (.func f) a c) args)) none
  | _ => none

/-- The deferred calls, one behind the other. -/
def defersA (call : CallF) : List (AVal × List AVal) → AHp → Option AHp
  | [], h => some h
  | (f, args) :: ds, h =>
    match defer1 P call h f args with
    | none => none
    | some h => defersA call ds h

def oneA : List AVal → AVal
  | [v] => v
  | vs => .tuple vs

def resO (h : AHp) : Option (List AVal) → HV
  | none => none
  | some vs => some (oneA vs, h)

def finA (n : Nat) (rs : List ResultVar) (e : AEnv) : Option AHp → HV
  | none => none
  | some h => resO h (resultsA P n h e rs)

def finD (n : Nat) (call : CallF) (rs : List ResultVar) (h : AHp) : AEnv → HV
  | ⟨tmps, ds⟩ => finA P n rs ⟨tmps, []⟩ (defersA P call ds h)

def retA (n : Nat) (call : CallF) (rs : List ResultVar) : Out → HV
  | some (.normal, e, h) => finD P n call rs h e
  | some (.ret, e, h) => finD P n call rs h e
  | _ => none

def callA (run : RunF) (call : CallF) (h : AHp) (args : List AVal) : Option Func → HV
  | none => none
  | some fn =>
    match fn.body with
    | none => externA P h fn args
    | some body => cond (Nat.ble args.length fn.ntmps && Nat.ble fn.ntmps maxT) (retA P fn.ntmps call fn.results.toList (run fn.ntmps true body (envOf args) h)) none

def setParams (n : Nat) (e : AEnv) (ts : List Tmp) (as : List AVal) : Option AEnv :=
  match ts with
  | [] =>
    match as with
    | [] => some e
    | _ => none
  | t :: ts =>
    match as with
    | [] => none
    | a :: as => cond (Nat.blt t n) (setParams n (e.set (path fuelT t) a) ts as) none

def markB (h : AHp) (l : Nat) (b : Bool) : Option ABlk → Option AHp
  | some (.loop old tmps n ps a c) => cond (eqBool old b) none (cond (roOk h l) (some (h.put l (.loop b tmps n ps a c))) none)
  | _ => none
def markLoop (h : AHp) (l : Nat) (b : Bool) : Option AHp := markB h l b (h.get l)

def trueO : Option AHp → HV
  | none => none
  | some h => some (.bool true, h)

def roundEnd (l : Nat) : Out → HV
  | some (.normal, _, h) => trueO (markLoop h l false)
  | _ => none

def roundGo (run : RunF) (n l : Nat) (body : Code) (e : AEnv) : Option AHp → HV
  | none => none
  | some h => roundEnd l (run n false body e h)

def roundBody (run : RunF) (n l : Nat) (body : Code) : Out → HV
  | some (.normal, e, h) => roundGo run n l body e (markLoop h l true)
  | _ => none

def roundRun (run : RunF) (h : AHp) (n l : Nat) (assign body : Code) : Option AEnv → HV
  | none => none
  | some e => roundBody run n l body (run n false assign e h)

def roundB (run : RunF) (h : AHp) (l : Nat) (args : List AVal) : Option ABlk → HV
  | some (.loop false tmps n ps assign body) => roundRun run h n l assign body (setParams n ⟨tmps, []⟩ ps args)
  | _ => none

/-- A call of a function value: a function; the yield of a loop. -/
def callV (run : RunF) : Nat → CallF
  | 0 => fun _ _ _ => none
  | n + 1 => fun h f args =>
    match f with
    | .func (.func f) first captured => callA P run (callV run n) h (first ++ (args ++ captured)) (P.fn.get f)
    | .func (.yield l) _ _ => roundB run h l args (h.get l)
    | _ => none

def norm : St → Out
  | none => none
  | some (e, h) => some (.normal, e, h)

def thenA (run : AEnv → AHp → Out) : Out → Out
  | some (.normal, e, h) => run e h
  | r => r

def condR (run : Code → AEnv → AHp → Out) (a b : Code) (e : AEnv) (h : AHp) : Option XA → Out
  | some x =>
    match x.eval e with
    | .bool true => run a e h
    | .bool false => run b e h
    | _ => none
  | none => none

def blockA (id : Nat) : Out → Out
  | some (.exit id', e, h) => cond (Nat.beq id' id) (some (.normal, e, h)) (some (.exit id', e, h))
  | r => r

/-- The loop is over. -/
def overB (e : AEnv) (h : AHp) (l : Nat) : Option ABlk → Out
  | some (.loop false _ _ _ _ _) => cond (roOk h l) (some (.normal, e, h.put l .dead)) none
  | _ => none

def overA (e : AEnv) (l : Nat) : HV → Out
  | none => none
  | some (_, h) => overB e h l (h.get l)

def rangeFuncL (call : CallF) (e : AEnv) (g : AVal) : Option (Nat × AHp) → Out
  | none => none
  | some (l, h) => overA e l (call h g [.func (.yield l) [] []])

def rangeFuncR (call : CallF) (n : Nat) (e : AEnv) (ps : List Tmp) (assign body : Code) (g : AVal) : Option (Nat × AHp) → Out
  | none => none
  | some (r, h) => rangeFuncL call (e.push (.ptr (some (r, 0))) []) g (h.new (.loop false e.tmps n ps assign body))

def rangeFuncA (call : CallF) (n : Nat) (rok : Bool) (e : AEnv) (h : AHp) (ps : List Tmp) (assign body : Code) : Option XA → Out
  | none => none
  | some x => cond rok (rangeFuncR call n e ps assign body (x.eval e) (h.new .taken)) none

def runA : Nat → RunF
  | 0 => fun _ _ _ _ _ => none
  | m + 1 => fun n rok c e h =>
    match c with
    | .skip => some (.normal, e, h)
    | .label _ => some (.normal, e, h)
    | .ret => some (.ret, e, h)
    | .exit id => some (.exit id, e, h)
    | .region _ ops draw => norm (regionX (callV P (runA m) 3) ops.toList draw e h (xopers P n rok ops.toList))
    | .seq a b => thenA (runA m n rok b) (runA m n rok a e h)
    | .cond c a b => condR (runA m n rok) a b e h (xa P n c)
    | .block id b => blockA id (runA m n rok b e h)
    | .loop b => thenA (runA m n rok (.loop b)) (runA m n rok b e h)
    | .rangeFunc f ps assign body => rangeFuncA (callV P (runA m) 3) n rok e h ps.toList assign body (xa P n f)
    | _ => none

end Go.AE
