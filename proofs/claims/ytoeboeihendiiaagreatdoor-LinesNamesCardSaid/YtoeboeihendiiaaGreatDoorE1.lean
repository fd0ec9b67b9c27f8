import Derived.Test.YtoeboeihendiiaaGreatDoorE0
set_option linter.all false
namespace Go.E
open Go.X

/-! ## tries -/
inductive T (α : Type) where
  | leaf
  | node (v : Option α) (l r : T α)

def T.get {α : Type} : T α → Nat → Option α
  | .leaf, _ => none
  | .node v l r, n => match n with
    | 0 => v
    | m + 1 => match Nat.beq (m % 2) 0 with
      | true => l.get (m / 2)
      | false => r.get (m / 2)

def T.setF {α : Type} (v : α) : Nat → T α → Nat → T α
  | 0, t, _ => t
  | f + 1, t, n => match n with
    | 0 => match t with
      | .leaf => .node (some v) .leaf .leaf
      | .node _ l r => .node (some v) l r
    | m + 1 => match t with
      | .leaf => match Nat.beq (m % 2) 0 with
        | true => .node none (setF v f .leaf (m / 2)) .leaf
        | false => .node none .leaf (setF v f .leaf (m / 2))
      | .node u l r => match Nat.beq (m % 2) 0 with
        | true => .node u (setF v f l (m / 2)) r
        | false => .node u l (setF v f r (m / 2))

def T.set {α : Type} (t : T α) (n : Nat) (v : α) : T α := T.setF v (n + 1) t n

/-! ## values by name -/
inductive V where
  | int (k : IntKind) (n : Int)
  | bool (b : Bool)
  | str (l : List Nat)
  | lit (v : Value)
  | gl (v : Value)
  | mp (k : Nat)
  | yld (k : Nat)
  | ptr (k off : Nat)
  | sl (k off len cap : Nat)
  | osl (k off len lo : Nat)
  | tl (k off n lo d : Nat)
  | ifc (t : TypeId) (v : V)
  | fn (f : Fn) (first cap : List V)
  | agg (l : List V)
  | tup (l : List V)

/-- what is no row of cells: a map's entries; the record of a range over a function -/
inductive K where
  | map (es : List (V × V × Nat)) (ck : Nat)
  | loop (st : LoopState) (pe : Option Code) (n : Nat) (E : T V) (ps : Array Tmp) (assign body : Code)

/-- a block: known cells; so many cells (open: at least); no cell from fz on is frozen -/
structure O where
  cells : T V
  size : Nat
  e : TypeId
  fz : Option Nat
  op : Bool
  k : Option K

structure St where
  h : T (Option O)
  nx : Nat

def bytesOf (l : List Nat) : ByteArray := ⟨(l.map UInt8.ofNat).toArray⟩

/-- a value without names -/
def toV1 : Value → V
  | .int k n => .int k n
  | .bool b => .bool b
  | .string s => .str (s.data.toList.map UInt8.toNat)
  | v => .lit v
def toV : Value → V
  | .agg a => .agg (a.toList.map toV1)
  | .tuple a => .tup (a.toList.map toV1)
  | v => toV1 v

/-- ... and back -/
def ofV1 : V → Option Value
  | .int k n => some (.int k n)
  | .bool b => some (.bool b)
  | .str l => some (.string (bytesOf l))
  | .lit v => some v
  | .ifc t v => match ofV1 v with | some x => some (.iface t x) | none => none
  | _ => none

def optMap {α β : Type} (f : α → Option β) : List α → Option (List β)
  | [] => some []
  | a :: l => match f a with
    | none => none
    | some b => match optMap f l with
      | none => none
      | some m => some (b :: m)

def ofV : V → Option Value
  | .agg l => (optMap ofV1 l).map fun l => .agg l.toArray
  | v => ofV1 v

def runP (P : Program) {α : Type} : Sem α → Option α
  | .pure a => some a
  | .program k => runP P (k P)
  | .mark _ k => runP P k
  | _ => none

inductive OR where
  | fail (s : List String)
  | val (v : V) (s : St)
  | call (f : FuncId) (args : List V)
  | round (k : Nat) (args : List V)

def bnd {α : Type} (s : String) (x : Option α) (k : α → OR) : OR :=
  match x with
  | some a => k a
  | none => .fail [s]

def evV (E : T V) : Operand → Option V
  | .tmp t => E.get t
  | .const v => some (toV v)
  | .global g => some (.lit (.pointer (some ⟨g, 0, none⟩)))
  | .func f => some (.fn (.func f) [] [])

/-- the cells of a value, one by one -/
def oneV : V → Bool
  | .agg _ | .tup _ => false
  | .lit v => v.oneCell
  | _ => true
def cells1 (v : V) : Option (List V) :=
  match v with
  | .agg l => match l.all oneV with | true => some l | false => none
  | v => match oneV v with | true => some [v] | false => none

def asTup : V → Option (List V)
  | .tup l => some l
  | _ => none

/-- list into a trie -/
def putL (t : T V) (off : Nat) : List V → T V
  | [] => t
  | v :: l => putL (t.set off v) (off + 1) l

def getL (t : T V) : Nat → Nat → Option (List V)
  | 0, _ => some []
  | n + 1, off => match t.get off with
    | some v => match getL t n (off + 1) with
      | some l => some (v :: l)
      | none => none
    | none => none

def obj (S : St) (k : Nat) : Option O := match S.h.get k with | some (some o) => (match o.k with | none => some o | some _ => none) | _ => none
def kob (S : St) (k : Nat) : Option K := match S.h.get k with | some (some o) => o.k | _ => none
def mkK (c : K) : O := ⟨.leaf, 0, 0, none, false, some c⟩
def dropK (S : St) (k : Nat) : St := ⟨S.h.set k none, S.nx⟩
def setObj (S : St) (k : Nat) (o : O) : St := ⟨S.h.set k (some o), S.nx⟩
def newObj (S : St) (o : O) : St := ⟨S.h.set S.nx (some o), S.nx + 1⟩
/-- k is used up; a new name for it, or for its copy -/
def swapObj (S : St) (k : Nat) (o : O) : St := ⟨(S.h.set k none).set S.nx (some o), S.nx + 1⟩

def loadV (P : Program) (S : St) (t : TypeId) (k off : Nat) : Option V :=
  match isAggT P t with
  | some false => (obj S k).bind fun o => o.cells.get off
  | some true => (szT P t).bind fun n => (obj S k).bind fun o => (getL o.cells n off).map .agg
  | none => none

def freeAt (fz : Option Nat) (off : Nat) : Bool := match fz with | some n => Nat.ble n off | none => false

def storeV (S : St) (k off : Nat) (l : List V) : Option St :=
  (obj S k).bind fun o => match Nat.ble (off + l.length) o.size && freeAt o.fz off with
    | true => some (setObj S k { o with cells := putL o.cells off l })
    | false => none

def strEq : List Nat → List Nat → Bool
  | [], [] => true
  | a :: l, b :: m => match Nat.beq a b with | true => strEq l m | false => false
  | _, _ => false

def nilRef (P : Program) (t : TypeId) (a b : V) : Bool :=
  match P.underlying t, a, b with
  | some (.pointer _), .lit (.pointer none), .ptr .. => true
  | some .unsafePointer, .lit (.pointer none), .ptr .. => true
  | some (.interface _), .lit .nilIface, .ifc .. => true
  | some (.func _ _ _), .lit .nilFunc, .fn .. => true
  | some (.slice _), .lit (.slice none _ _), .sl .. => true
  | some (.slice _), .lit (.slice none _ _), .osl .. => true
  | _, _, _ => false

def small (l : List Nat) : Bool := l.all fun n => Nat.blt n 256

/-- equality, where it is told by the kinds alone -/
def eqS (P : Program) (t : TypeId) : V → V → Option Bool
  | .str a, .str b => match small a && small b with | true => some (strEq a b) | false => none
  | .ptr k a, .ptr k' b => match P.underlying t with
    | some (.pointer e) => match Nat.beq k k', szT P e with
      | true, some (_ + 1) => some (Nat.beq a b)
      | _, _ => none
    | _ => none
  | a, b => match nilRef P t a b || nilRef P t b a with
    | true => some false
    | false => none

def genV (P : Program) (op : BinOp) (t : TypeId) (x y : Operand) (a b : V) : Option V :=
  match ofV a, ofV b with
  | some va, some vb => (runP P (do eqGuard op t x y va vb; binOp op t va vb)).map toV
  | _, _ => none

def binV (P : Program) (op : BinOp) (t : TypeId) (x y : Operand) (a b : V) : Option V :=
  match op with
  | .eql => match eqS P t a b with | some r => some (.bool r) | none => genV P .eql t x y a b
  | .neq => match eqS P t a b with | some r => some (.bool !r) | none => genV P .neq t x y a b
  | .add => match a, b with
    | .str a, .str b => match Nat.ble (a.length + b.length) (2 ^ 40) with | true => some (.str (a ++ b)) | false => none
    | .int k a, .int k' b => match decide (k = k') with | true => some (.int k (k.wrap (a + b))) | false => none
    | _, _ => none
  | op => genV P op t x y a b

def slBound (E : T V) (d : Nat) : Option Operand → Option Nat
  | none => some d
  | some x => match evV E x with
    | some (.int _ (.ofNat n)) => some n
    | _ => none

def vfill (places : Nat → Option (Nat × Nat)) : List V → List (Nat × V) → Option (List V)
  | t, [] => some t
  | t, (i, v) :: l => match places i, cells1 v with
    | some (off, n), some c => match Nat.beq c.length n && Nat.ble (off + n) t.length with
      | true => vfill places (t.take off ++ (c ++ t.drop (off + n))) l
      | false => none
    | _, _ => none

def repL {α : Type} (z : List α) : Nat → List α
  | 0 => []
  | n + 1 => z ++ repL z n

def byteV (n : Nat) : V := .int .u8 n

/-- what append and copy read -/
def srcV (P : Program) (S : St) (sz : Nat) : V → Option (Nat × List V)
  | .str l => match small l && Nat.beq sz 1 with | true => some (l.length, l.map byteV) | false => none
  | .lit (.slice none 0 0) => some (0, [])
  | .sl k off n _ => (obj S k).bind fun o => (getL o.cells (n * sz) off).map fun l => (n, l)
  | .osl k off n _ => (obj S k).bind fun o => (getL o.cells (n * sz) off).map fun l => (n, l)
  | .tl .. => some (0, [])
  | _ => none

def bytesL : List V → Option (List Nat)
  | [] => some []
  | .int .u8 (.ofNat n) :: l => match Nat.blt n 256, bytesL l with
    | true, some m => some (n :: m)
    | _, _ => none
  | _ => none

/-- the element of a slice's type: it, its size, its zero -/
def elT (P : Program) (t : TypeId) : Option (TypeId × Nat × List V) :=
  (elemOfSl P t).bind fun e => (szT P e).bind fun sz => (zeroT P e).bind fun z => (cells1 (toV z)).bind fun zl =>
    (bytesT P e).bind fun b => match Nat.beq zl.length sz && Nat.blt 0 sz && Nat.blt 0 b && Nat.ble b 4096 with
      | true => some (e, sz, zl)
      | false => none

/-- append -/
def appV (P : Program) (S : St) (t : TypeId) (s : V) (x : V) : OR :=
  bnd "append: type" (elT P t) fun (e, sz, _) => bnd "append src" (srcV P S sz x) fun (m, new) =>
  match new.all oneV with
  | false => .fail ["append one"]
  | true =>
  let grow (old : List V) (n : Nat) : OR := match Nat.ble (n + m) (2 ^ 30) with
    | true => .val (.osl S.nx 0 (n + m) 0) (newObj S ⟨putL .leaf 0 (old ++ new), (n + m) * sz, e, some 0, true, none⟩)
    | false => .fail ["append big"]
  match s with
  | .lit (.slice none 0 0) => match m with
    | 0 => .val s S
    | _ + 1 => grow [] 0
  | .sl k off n cap => match Nat.ble (n + m) cap with
    | true => bnd "append: store" (storeV S k (off + n * sz) new) fun S => .val (.sl k off (n + m) cap) S
    | false => bnd "append: obj" (obj S k) fun o => bnd "append: cells" (getL o.cells (n * sz) off) fun old => grow old n
  | .osl k off n lo => bnd "append: obj" (obj S k) fun o => match Nat.beq off (lo * sz) && Nat.ble (off + (n + m) * sz) o.size && o.op && Nat.beq o.e e with
    | true => bnd "append: store" (storeV S k (off + n * sz) new) fun S => .val (.osl k off (n + m) lo) S
    | false => bnd "append: cells" (getL o.cells (n * sz) off) fun old => match Nat.beq off 0 && Nat.beq lo 0 && freeAt o.fz (n * sz) && o.op && Nat.beq o.e e && Nat.ble (n + m) (2 ^ 30) && Nat.ble 1 m with
      | true => .val (.osl S.nx 0 (n + m) 0) (swapObj S k ⟨putL .leaf 0 (old ++ new), (n + m) * sz, e, o.fz, true, none⟩)
      | false => .fail ["append: open"]
  | _ => .fail ["append: slice"]

/-- the numbers of abi.NoEscape and of bytealg.MakeNoZero -/
structure Ex where
  ne : Nat
  mn : Nat
  gl : Nat → Nat → Option Value
  orc : FuncId → List V → Option V
  orh : FuncId → List V → St → Option (V × St)

/-- blocks that a known call has made -/
def insAll : List (Nat × O) → T (Option O) → T (Option O)
  | [], h => h
  | (k, o) :: l, h => (insAll l h).set k (some o)

def builtinP (P : Program) (b : Builtin) (tys : List TypeId) (args : List V) : Option V :=
  match b, args, tys with
  | .len, [.str l], [t] => match isStrT P t with | true => some (.int .i64 l.length) | false => none
  | .len, [.lit (.slice none n _)], [t] => (elemOfSl P t).map fun _ => .int .i64 n
  | .len, [.sl _ _ n _], [t] => (elemOfSl P t).map fun _ => .int .i64 n
  | .len, [.osl _ _ n _], [t] => (elemOfSl P t).map fun _ => .int .i64 n
  | .cap, [.lit (.slice none _ n)], [t] => (elemOfSl P t).map fun _ => .int .i64 n
  | .cap, [.sl _ _ _ n], [t] => (elemOfSl P t).map fun _ => .int .i64 n
  | .min, [.int k a, .int k' b], _ => match decide (k = k') with | true => some (.int k (if b < a then b else a)) | false => none
  | .max, [.int k a, .int k' b], _ => match decide (k = k') with | true => some (.int k (if b > a then b else a)) | false => none
  | .unsafeSliceData, [.lit (.slice none _ _)], _ => some (.lit (.pointer none))
  | .unsafeSliceData, [.sl k off _ (_ + 1)], _ => some (.ptr k off)
  | .unsafeSliceData, [.osl k off (_ + 1) _], _ => some (.ptr k off)
  | .unsafeString, [.lit (.pointer none), .int _ (.ofNat 0)], _ :: _ => some (.str [])
  | _, _, _ => none

/-- a function without a body that looks at nothing -/
def externP (P : Program) (f : FuncId) (args : List V) : Option V :=
  match hasBody P f with
  | true => none
  | false => match optMap ofV args with
    | none => none
    | some vs => match runP P (callFunc f vs.toArray) with
      | some (.value v) => some (toV v)
      | _ => none

def shift (E : T V) (sz len cap k off : Nat) (lo hi mx : Option Operand) : Option V :=
  match slBound E cap mx, slBound E 0 lo, slBound E len hi with
  | some m, some a, some b => match Nat.ble a b && Nat.ble b m && Nat.ble m cap with
    | true => match Nat.beq m a with
      | true => some (.sl k off (b - a) (m - a))
      | false => some (.sl k (off + a * sz) (b - a) (m - a))
    | false => none
  | _, _, _ => none

def okMx (hi mx : Option Operand) : Bool := match mx with | none => true | some _ => hi.isSome

/-- what looks at no memory -/
def pureV (P : Program) (X : Ex) (o : Oper) (E : T V) : Option V :=
  match o.op with
  | .move x | .assign x => evV E x
  | .pick c a b => match evV E c with
    | some (.bool true) => evV E a
    | some (.bool false) => evV E b
    | _ => none
  | .build t ps => match zeroT P t, placesT P t, optMap (fun (i, x) => (evV E x).map fun v => (i, v)) ps.toList with
    | some z, some pl, some l => match allSz P t with
      | true => match toV z with
        | .agg zl => (vfill pl zl l).map .agg
        | _ => none
      | false => none
    | _, _, _ => none
  | .nilCheck x => match evV E x with
    | some (.ptr k off) => some (.ptr k off)
    | some (.fn (.func f) a b) => some (.fn (.func f) a b)
    | some (.ifc t v) => some (.ifc t v)
    | _ => none
  | .binOp op t x y _ => match evV E x, evV E y with
    | some a, some b => binV P op t x y a b
    | _, _ => none
  | .unOp op _ x => match (evV E x).bind ofV with
    | some v => (runP P (Op.unary op v)).map toV
    | none => none
  | .convert s d x => match (evV E x).bind ofV with
    | some v => (runP P (convert s d v)).map toV
    | none => none
  | .makeInterface t x => match evV E x, P.underlying t with
    | some _, some (.interface _) => none
    | some v, some _ => some (.ifc t v)
    | _, _ => none
  | .makeFunc f a b => match optMap (evV E) a.toList, optMap (evV E) b.toList with
    | some a, some b => some (.fn f a b)
    | _, _ => none
  | .slice t x lo hi mx => match evV E x, okMx hi mx with
    | some (.str l), true => match mx, isStrT P t, slBound E 0 lo, slBound E l.length hi with
      | none, true, some a, some b => match Nat.ble a b && Nat.ble b l.length with
        | true => some (.str ((l.drop a).take (b - a)))
        | false => none
      | _, _, _, _ => none
    | some (.lit (.slice none n c)), true => match (elemOfSl P t).bind (szT P), slBound E c mx, slBound E 0 lo, slBound E n hi with
      | some _, some m, some a, some b => match Nat.ble a b && Nat.ble b m && Nat.ble m c with
        | true => some (.lit (.slice none (b - a) (m - a)))
        | false => none
      | _, _, _, _ => none
    | some (.sl k off n c), true => match (elemOfSl P t).bind (szT P) with
      | some sz => shift E sz n c k off lo hi mx
      | none => none
    | some (.osl k off n l0), true => match mx, (elemOfSl P t).bind (szT P), slBound E 0 lo, slBound E n hi with
      | none, some sz, some a, some b => match Nat.ble a b && Nat.ble b n with
        | true => match Nat.beq a 0 with
          | true => some (.osl k off b l0)
          | false => match Nat.blt a n with
            | true => some (.osl k (off + a * sz) (b - a) (l0 + a))
            | false => some (.tl k off n l0 (n * sz))
        | false => none
      | some _, some sz, some a, some b => match slBound E 0 mx with
        | some m => match Nat.ble a b && Nat.ble b m && Nat.ble m n with
          | true => match Nat.beq m a with
            | true => some (.sl k off (b - a) (m - a))
            | false => some (.sl k (off + a * sz) (b - a) (m - a))
          | false => none
        | none => none
      | _, _, _, _ => none
    | some (.ptr k off), true => match arrT P t with
      | some (n, e) => match szT P e with
        | some sz => shift E sz n n k off lo hi mx
        | none => none
      | none => none
    | _, _ => none
  | .fieldAddr s x f => match evV E x with
    | some (.ptr k off) => (fldOff P s f).map fun d => .ptr k (off + d)
    | _ => none
  | .field s x f => match evV E x, P.underlying s with
    | some (.agg l), some (.struct fs) => match fs[f]? with
      | some fd => match isAggT P fd.type, szT P fd.type with
        | some true, some n => some (.agg ((l.drop fd.offset).take n))
        | some false, _ => l[fd.offset]?
        | _, _ => none
      | none => none
    | _, _ => none
  | .indexAddr t x ix => match evV E x, evV E ix with
    | some (.sl k off n _), some (.int _ (.ofNat i)) => match (elemOfSl P t).bind (szT P) with
      | some sz => match Nat.blt i n with
        | true => some (.ptr k (off + i * sz))
        | false => none
      | none => none
    | some (.osl k off n _), some (.int _ (.ofNat i)) => match (elemOfSl P t).bind (szT P) with
      | some sz => match Nat.blt i n with
        | true => some (.ptr k (off + i * sz))
        | false => none
      | none => none
    | some (.ptr k off), some (.int _ (.ofNat i)) => match arrT P t with
      | some (n, e) => match szT P e with
        | some sz => match Nat.blt i n with
          | true => some (.ptr k (off + i * sz))
          | false => none
        | none => none
      | none => none
    | _, _ => none
  | .index t x ix => match evV E x, evV E ix with
    | some (.str l), some (.int _ (.ofNat i)) => match isStrT P t && small l with
      | true => (l[i]?).map byteV
      | false => none
    | some (.agg l), some (.int _ (.ofNat i)) => match arrT P t with
      | some (n, e) => match szT P e, isAggT P e, Nat.blt i n with
        | some sz, some true, true => some (.agg ((l.drop (i * sz)).take sz))
        | some sz, some false, true => l[i * sz]?
        | _, _, _ => none
      | none => none
    | _, _ => none
  | .extract x i => match evV E x with
    | some (.tup l) => l[i]?
    | _ => none
  | .call c => match optMap (evV E) c.args.toList with
    | some args => match c.callee with
      | .builtin b => builtinP P b c.argTypes.toList args
      | .value f => match evV E f with
        | some (.fn (.func f) [] []) => match externP P f args with
          | some v => some v
          | none => match Nat.beq f X.ne && (P.funcs[f]?).isSome, args with
            | true, [v] => some v
            | _, _ => none
        | _ => none
      | .invoke .. => none
    | none => none
  | _ => none

def copyV (S : St) (k off n sz m : Nat) (new : List V) : OR :=
  match new.all oneV with
  | true => bnd "copy store" (storeV S k off (new.take (Nat.min m n * sz))) fun S => .val (.int .i64 (Nat.min m n)) S
  | false => .fail ["copy one"]

/-- what only makes a block: it, and the value, by its name -/
def allocV (P : Program) (o : Oper) (E : T V) : Option (O × (Nat → V)) :=
  match o.op with
  | .alloc t => (zeroT P t).bind fun z => (cells1 (toV z)).map fun l => (⟨putL .leaf 0 l, l.length, t, some 0, false, none⟩, fun k => .ptr k 0)
  | .box t x => (evV E x).bind fun v => (cells1 v).map fun l => (⟨putL .leaf 0 l, l.length, t, some 0, false, none⟩, fun k => .ptr k 0)
  | .buildSlice t n ps => match n with
    | 0 => match elemOfSl P t, ps.toList with
      | some e, [] => (szT P e).bind fun sz => (some (⟨.leaf, 0, e, some 0, false, none⟩, fun k => .sl k 0 0 0))
      | _, _ => none
    | _ + 1 => (elT P t).bind fun (e, sz, zl) => match Nat.ble (n * sz) (2 ^ 24) with
      | false => none
      | true => (optMap (fun (i, x) => (evV E x).map fun v => (i, v)) ps.toList).bind fun l => (vfill (fun i => some (i * sz, sz)) (repL zl n) l).bind fun t =>
          match t.all oneV with
          | true => some (⟨putL .leaf 0 t, n * sz, e, some 0, false, none⟩, fun k => .sl k 0 n n)
          | false => none
  | .makeSlice t x y => (elT P t).bind fun (e, sz, zl) => (evV E x).bind fun a => (evV E y).bind fun b => match a, b with
        | .int _ (.ofNat n), .int _ (.ofNat m) => match Nat.ble n m && Nat.ble m (2 ^ 30) with
          | true => some (⟨putL .leaf 0 (repL zl m), m * sz, e, some 0, false, none⟩, fun k => .sl k 0 n m)
          | false => none
        | _, _ => none
  | .makeMap _ none => some (mkK (.map [] 0), fun k => .mp k)
  | _ => none

/-! maps -/
def intEq : Int → Int → Bool
  | .ofNat a, .ofNat b => Nat.beq a b
  | .negSucc a, .negSucc b => Nat.beq a b
  | _, _ => false
def keyEq : V → V → Option Bool
  | .str a, .str b => match small a && small b with | true => some (strEq a b) | false => none
  | .int k a, .int k' b => match decide (k = k') with | true => some (intEq a b) | false => none
  | _, _ => none
def findK (k : V) : List (V × V × Nat) → Nat → Option (Option (Nat × V))
  | [], _ => some none
  | (k', v, _) :: l, i => match keyEq k k' with
    | some true => some (some (i, v))
    | some false => findK k l (i + 1)
    | none => none
def setE (v : V) : Nat → List (V × V × Nat) → List (V × V × Nat)
  | _, [] => []
  | 0, (k, _, b) :: l => (k, v, b) :: l
  | n + 1, e :: l => e :: setE v n l
def delE : Nat → List (V × V × Nat) → List (V × V × Nat)
  | _, [] => []
  | 0, _ :: l => l
  | n + 1, e :: l => e :: delE n l
/-- keys that may be looked for: ints, strings -/
def keyOk (P : Program) (t : TypeId) (k : V) : Bool :=
  match P.underlying t, k with
  | some (.int _), .int .. => true
  | some .string, .str _ => true
  | _, _ => false

def setM (P : Program) (t : TypeId) (m k x : V) (S : St) : OR :=
  match mapT P t, m with
  | some (kt, _), .mp j => match kob S j, keyOk P kt k, oneV x with
    | some (.map es ck), true, _ => bnd "map key" (findK k es 0) fun r => match r with
      | some (i, _) => .val (.lit undef) (setObj S j (mkK (.map (setE x i es) ck)))
      | none => .val (.lit undef) (setObj S j (mkK (.map (es ++ [(k, x, ck)]) (ck + 1))))
    | _, _, _ => .fail ["map set"]
  | _, _ => .fail ["map set type"]

def entsOf (S : St) : V → Option (List (V × V × Nat))
  | .mp j => match kob S j with
    | some (.map es _) => some es
    | _ => none
  | .lit (.map none) => some []
  | _ => none

def okV (ok : Bool) (v : V) (b : Bool) : V := match ok with | true => .tup [v, .bool b] | false => v

def getM (P : Program) (t : TypeId) (m k : V) (ok : Bool) (S : St) : OR :=
  bnd "lookup type" (mapT P t) fun (kt, et) => bnd "lookup zero" (zeroT P et) fun z => bnd "lookup map" (entsOf S m) fun es => match keyOk P kt k with
    | true => bnd "map key" (findK k es 0) fun r => match r with
      | some (_, v) => .val (okV ok v true) S
      | none => .val (okV ok (toV z) false) S
    | false => .fail ["lookup key"]

def heapV (P : Program) (X : Ex) (o : Oper) (E : T V) (S : St) : OR :=
  match o.op with
  | .load t a => bnd "load" (evV E a) fun a => match a with
    | .ptr k off => bnd "load cells" (loadV P S t k off) fun v => .val v S
    | .lit (.pointer (some ⟨g, off, none⟩)) => match isAggT P t with
      | some false => bnd "load global" (X.gl g off) fun v => .val (.gl v) S
      | _ => .fail ["load global agg"]
    | _ => .fail ["load ptr"]
  | .store t a x => bnd "store" (evV E a) fun a => bnd "store" (evV E x) fun v => bnd "store" (cells1 v) fun l => bnd "store" (szT P t) fun n => match a, Nat.beq n l.length with
    | .ptr k off, true => bnd "store cells" (storeV S k off l) fun S => .val (.lit undef) S
    | _, _ => .fail ["store ptr"]
  | .convert s d x => bnd "convert" (evV E x) fun v => match v with
    | .str l => match isStrT P s && small l, (elemOfSl P d) with
      | true, some e => match intT P e, szT P e with
        | some .u8, some 1 => .val (.osl S.nx 0 l.length 0) (newObj S ⟨putL .leaf 0 (l.map byteV), l.length, e, none, true, none⟩)
        | _, _ => .fail ["convert string"]
      | _, _ => .fail ["convert string"]
    | .sl k off n c => match Nat.beq s d, (elemOfSl P d).bind (intT P) with
      | true, some .u8 => bnd "convert slice" (obj S k) fun o => .val (.sl k off n c) (setObj S k { o with fz := none })
      | _, _ => .fail ["convert slice"]
    | .ptr k off => bnd "convert obj" (obj S k) fun o => match P.underlying s, P.underlying d with
      | some (.pointer t), some .unsafePointer => match szT P t, Nat.blt off o.size with
        | some (_ + 1), true => .val (.ptr k off) S
        | _, _ => .fail ["convert ptr"]
      | some .unsafePointer, some (.pointer u) => match szT P u, liesAt P P.depth o.e (o.size / P.cellsOf o.e) off u 1 with
        | some (_ + 1), true => .val (.ptr k off) S
        | _, _ => .fail ["convert unsafe"]
      | _, _ => .fail ["convert types"]
    | _ => .fail ["convert"]
  | .lookup t m k ok => bnd "lookup m" (evV E m) fun m => bnd "lookup k" (evV E k) fun k => getM P t m k ok S
  | .mapUpdate t m k x => bnd "set m" (evV E m) fun m => bnd "set k" (evV E k) fun k => bnd "set x" (evV E x) fun x => setM P t m k x S
  | .insert t m k x => bnd "set m" (evV E m) fun m => bnd "set k" (evV E k) fun k => bnd "set x" (evV E x) fun x => setM P t m k x S
  | .call c => bnd "call args" (optMap (evV E) c.args.toList) fun args => match c.callee with
    | .builtin .append => match c.argTypes.toList, args with
      | [t, t'], [s, x] => match srcT P t' with
        | true => appV P S t s x
        | false => .fail ["append type"]
      | _, _ => .fail ["append args"]
    | .builtin .unsafeString => match args with
      | [.ptr k off, .int .i64 (.ofNat (n + 1))] =>
          bnd "unsafeString" (obj S k) fun o => bnd "unsafeString type" (c.argTypes[0]?) fun pt => match P.underlying pt with
          | some (.pointer u) => match liesAt P P.depth o.e (o.size / P.cellsOf o.e) off u (n + 1), Nat.ble (n + 1) (2 ^ 40) with
            | true, true => bnd "unsafeString cells" (getL o.cells (n + 1) off) fun l => bnd "unsafeString bytes" (bytesL l) fun b =>
            .val (.str b) (setObj S k { o with fz := o.fz.map fun f => Nat.max f (off + (n + 1)) })
            | _, _ => .fail ["unsafeString at"]
          | _ => .fail ["unsafeString type"]
      | _ => .fail ["unsafeString"]
    | .builtin .copy => match c.argTypes.toList, args with
      | t :: _, [d, x] => bnd "copy e" (elT P t) fun (e, sz, _) => bnd "copy src" (srcV P S sz x) fun (m, new) =>
        match d with
        | .sl k off n _ => copyV S k off n sz m new
        | .osl k off n _ => copyV S k off n sz m new
        | .lit (.slice none 0 _) => .val (.int .i64 0) S
        | _ => .fail ["copy dst"]
      | _, _ => .fail ["copy args"]
    | .builtin .clear => match c.argTypes.toList, args with
      | t :: _, [d] => bnd "clear e" (elT P t) fun (e, sz, zl) => match d with
        | .sl k off n _ => bnd "clear" (storeV S k off (repL zl n)) fun S => .val (.tup []) S
        | .osl k off n _ => bnd "clear" (storeV S k off (repL zl n)) fun S => .val (.tup []) S
        | .lit (.slice none _ _) => .val (.tup []) S
        | _ => .fail ["clear what"]
      | _, _ => .fail ["clear args"]
    | .builtin .delete => match c.argTypes.toList, args with
      | t :: _, [.mp j, k] => match mapT P t, kob S j with
        | some (kt, _), some (.map es ck) => match keyOk P kt k with
          | true => bnd "map key" (findK k es 0) fun r => match r with
            | some (i, _) => .val (.tup []) (setObj S j (mkK (.map (delE i es) ck)))
            | none => .val (.tup []) (setObj S j (mkK (.map es ck)))
          | false => .fail ["delete key"]
        | _, _ => .fail ["delete"]
      | _, _ => .fail ["delete args"]
    | .builtin .len => match c.argTypes.toList, args with
      | [t], [.mp j] => match mapT P t, kob S j with
        | some _, some (.map es _) => .val (.int .i64 es.length) S
        | _, _ => .fail ["len map"]
      | _, _ => .fail ["len args"]
    | .builtin _ => .fail ["builtin"]
    | .value f => bnd "call f" (evV E f) fun f => match f with
      | .fn (.func f) first cap => match hasBody P f with
        | true => .call f (first ++ args ++ cap)
        | false => match Nat.beq f X.mn, first, args, cap with
          | true, [], [.int .i64 (.ofNat n)], [] => bnd "MakeNoZero" (P.funcs[f]?) fun fn => bnd "MakeNoZero" (fn.resultTypes[0]?) fun t => bnd "MakeNoZero" (elT P t) fun (e, sz, _) => match Nat.ble n (2 ^ 30) && Nat.beq sz 1 with
            | true => .val (.osl S.nx 0 n 0) (newObj S ⟨.leaf, n, e, some 0, true, none⟩)
            | false => .fail ["MakeNoZero big"]
          | _, _, _, _ => .fail ["extern"]
      | .yld k => .round k args
      | _ => .fail ["call what"]
    | .invoke .. => .fail ["invoke"]
  | _ => .fail ["op"]

def opV (P : Program) (X : Ex) (o : Oper) (E : T V) (S : St) : OR :=
  match pureV P X o E with
  | some v => .val v S
  | none => match allocV P o E with
    | some (ob, v) => .val (v S.nx) (newObj S ob)
    | none => heapV P X o E S

def boolV : V → Option Bool
  | .bool b => some b
  | .lit v => boolOf v
  | .gl v => boolOf v
  | _ => none

def wantV (ops : Array Oper) (E : T V) (o : Oper) : Option Bool :=
  match o.guard with
  | none => some true
  | some (j, want) => match (ops[j]?).bind (·.dst) with
    | some d => match E.get d with
      | some v => some (boolV v == some want)
      | none => none
    | none => some false

inductive Job where
  | code (n : Nat) (rd : Bool) (c : Code) (E : T V)
  | rounds (n : Nat) (rd : Bool) (c : Code) (E : T V)
  | call (f : FuncId) (args : List V)
  | round (k : Nat) (args : List V)

inductive Res where
  | fail (s : List String)
  | code (e : Exit) (E : T V) (S : St)
  | val (v : V) (S : St)

def putD (E : T V) (d : Option Nat) (v : V) : T V := match d with | none => E | some d => E.set d v

def evOp (P : Program) (X : Ex) (rec : Job → St → Res) (all : Array Oper) (o : Oper) (E : T V) (S : St) : Res :=
  match wantV all E o with
  | some true => match opV P X o E S with
    | .val v S => .code .normal (putD E o.dst v) S
    | .call f args => match X.orc f args with
      | some v => .code .normal (putD E o.dst v) S
      | none => match X.orh f args S with
        | some (v, S) => .code .normal (putD E o.dst v) S
        | none => match rec (.call f args) S with
          | .val v S => .code .normal (putD E o.dst v) S
          | .fail s => .fail s
          | _ => .fail ["call"]
    | .round k args => match rec (.round k args) S with
      | .val v S => .code .normal (putD E o.dst v) S
      | .fail s => .fail s
      | _ => .fail ["round"]
    | .fail s => .fail (o.pos :: s)
  | some false => .code .normal (putD E o.dst (.lit undef)) S
  | none => .fail ["guard"]

def evL (P : Program) (X : Ex) (rec : Job → St → Res) (all : Array Oper) : List Oper → T V → St → Res
  | [], E, S => .code .normal E S
  | o :: l, E, S => match evOp P X rec all o E S with
    | .code .normal E S => evL P X rec all l E S
    | r => r

/-! regions that draw -/
def quiet (o : Oper) : Nat :=
  match o.op with
  | .load .. => 1
  | .move _ | .assign _ | .pick .. | .build .. | .nilCheck _ | .binOp .. | .unOp .. | .convert .. | .makeInterface .. | .makeFunc .. | .slice .. | .fieldAddr .. | .field .. | .indexAddr .. | .index .. | .extract .. => 0
  | .call ⟨.builtin .len, _, _⟩ | .call ⟨.builtin .cap, _, _⟩ | .call ⟨.builtin .min, _, _⟩ | .call ⟨.builtin .max, _, _⟩ => 0
  | _ => 2

/-- does it only make a block? -/
def makes (o : Oper) : Bool :=
  match o.op, o.guard with
  | .alloc _, none | .box .., none | .buildSlice .., none | .makeSlice .., none | .makeMap _ none, none => true
  | _, _ => false

/-- 0, 1: quiet; 2: loud; 3: makes a block -/
def clsOf (o : Oper) : Nat := match makes o with | true => 3 | false => quiet o
def clss (ops : Array Oper) : List Nat := ops.toList.map clsOf

def findF (f : Nat → Bool) : List Nat → Option Nat
  | [] => none
  | i :: l => match f i with | true => some i | false => findF f l

def mkPlan (t : Tb) (cl : List Nat) : Nat → List Nat → Nat → Plan
  | 0, _, _ => .done
  | n + 1, dc, lm => match findF (fun i => Nat.blt (cl.getD i 2) 2 && freeF t lm i && allF (fun x => apF t x i) dc) (readyF t lm) with
    | some i => match cl.getD i 2 with
      | 0 => .u i (mkPlan t cl n dc (setF lm i))
      | _ => .q i (mkPlan t cl n dc (setF lm i))
    | none => match readyF t lm with
      | [] => .done
      | [i] => match memF i dc with
        | true => .al i (mkPlan t cl n (wo i dc) (setF lm i))
        | false => .l i (mkPlan t cl n dc (setF lm i))
      | r => match findF (fun i => !memF i dc && Nat.beq (cl.getD i 2) 3) r with
        | some i => .rd i (mkPlan t cl n (i :: dc) lm)
        | none => match findF (fun i => !memF i dc) r with
          | some i => .l i (mkPlan t cl n dc (setF lm i))
          | none => match r with
            | i :: _ => .al i (mkPlan t cl n (wo i dc) (setF lm i))
            | [] => .done

def planTry (ops : Array Oper) (t : Tb) (p : Plan) : Option Plan :=
  match drawF ops t p with
  | true => some p
  | false => none

def planOf (ops : Array Oper) : Option Plan := planTry ops (tbOf ops) (mkPlan (tbOf ops) (clss ops) (2 * ops.size + 2) [] 0)

/-- the same value: told of some only -/
def same1 : V → V → Bool
  | .int k a, .int k' b => decide (k = k') && intEq a b
  | .bool a, .bool b => match a, b with | true, true => true | false, false => true | _, _ => false
  | .str a, .str b => strEq a b
  | .ptr a b, .ptr c d => Nat.beq a c && Nat.beq b d
  | .sl a b c d, .sl a' b' c' d' => Nat.beq a a' && Nat.beq b b' && Nat.beq c c' && Nat.beq d d'
  | .osl a b c d, .osl a' b' c' d' => Nat.beq a a' && Nat.beq b b' && Nat.beq c c' && Nat.beq d d'
  | .lit (.pointer none), .lit (.pointer none) => true
  | .lit .nilIface, .lit .nilIface => true
  | .lit .nilFunc, .lit .nilFunc => true
  | .lit (.slice none a b), .lit (.slice none c d) => Nat.beq a c && Nat.beq b d
  | .mp a, .mp b => Nat.beq a b
  | _, _ => false
def sameL : List V → List V → Bool
  | [], [] => true
  | a :: l, b :: m => same1 a b && sameL l m
  | _, _ => false
def same : V → V → Bool
  | .agg a, .agg b => sameL a b
  | a, b => same1 a b

/-- what was read, and must stay -/
structure Pd where
  i : Nat
  t : TypeId
  k : Nat
  off : Nat
  v : V

def recheckV (P : Program) (ops : Array Oper) (lo : List Nat) (S : St) (pd : List Pd) : Bool :=
  pd.all fun p => match pendB ops p.i lo with
    | false => true
    | true => match loadV P S p.t p.k p.off with
      | some v => same v p.v
      | none => false

def acOf (i : Nat) : List (Nat × O × (Nat → V)) → Option (O × (Nat → V))
  | [] => none
  | (j, p) :: l => match Nat.beq i j with | true => some p | false => acOf i l

def evD (P : Program) (X : Ex) (rec : Job → St → Res) (all : Array Oper) : Plan → List (Nat × O × (Nat → V)) → List Nat → List Pd → T V → St → Res
  | .done, _, _, _, E, S => .code .normal E S
  | .u i p, ac, lo, pd, E, S => match all[i]? with
    | none => .fail ["plan"]
    | some o => match wantV all E o with
      | some true => match pureV P X o E with
        | some v => evD P X rec all p ac lo pd (putD E o.dst v) S
        | none => .fail ["draw u", o.pos]
      | some false => evD P X rec all p ac lo pd (putD E o.dst (.lit undef)) S
      | none => .fail ["guard"]
  | .q i p, ac, lo, pd, E, S => match all[i]? with
    | none => .fail ["plan"]
    | some o => match wantV all E o with
      | some true => match o.op with
        | .load t a => match evV E a with
          | some (.ptr k off) => match loadV P S t k off with
            | some v => evD P X rec all p ac lo (⟨i, t, k, off, v⟩ :: pd) (putD E o.dst v) S
            | none => .fail ["draw load", o.pos]
          | some (.lit (.pointer (some ⟨g, off, none⟩))) => match isAggT P t, X.gl g off with
            | some false, some v => evD P X rec all p ac lo pd (putD E o.dst (.gl v)) S
            | _, _ => .fail ["draw load global", o.pos]
          | _ => .fail ["draw load", o.pos]
        | _ => .fail ["draw q", o.pos]
      | some false => evD P X rec all p ac lo pd (putD E o.dst (.lit undef)) S
      | none => .fail ["guard"]
  | .l i p, ac, lo, pd, E, S => match all[i]? with
    | none => .fail ["plan"]
    | some o => match evOp P X rec all o E S with
      | .code .normal E S => match recheckV P all (i :: lo) S pd with
        | true => evD P X rec all p ac (i :: lo) pd E S
        | false => .fail ["recheck", o.pos]
      | r => r
  | .rd i p, ac, lo, pd, E, S => match all[i]? with
    | none => .fail ["plan"]
    | some o => match o.guard, allocV P o E with
      | none, some q => evD P X rec all p ((i, q) :: ac) lo pd E S
      | _, _ => .fail ["draw rd", o.pos]
  | .al i p, ac, lo, pd, E, S => match all[i]?, acOf i ac with
    | some o, some (ob, v) => match recheckV P all (i :: lo) (newObj S ob) pd with
      | true => evD P X rec all p ac (i :: lo) pd (putD E o.dst (v S.nx)) (newObj S ob)
      | false => .fail ["recheck", o.pos]
    | _, _ => .fail ["plan al"]

def args0 : List V → Nat → T V → T V
  | [], _, t => t
  | v :: l, i, t => args0 l (i + 1) (t.set i v)

def resV (P : Program) (n : Nat) (E : T V) (S : St) : ResultVar → Option V
  | .tmp t => match Nat.blt t n with | true => E.get t | false => none
  | .cell a t => match Nat.blt a n, E.get a with
    | true, some (.ptr k off) => loadV P S t k off
    | _, _ => none

def retV (P : Program) (fn : Func) (E : T V) (S : St) : Res :=
  match optMap (resV P fn.ntmps E S) fn.results.toList with
  | some [v] => .val v S
  | some l => .val (.tup l) S
  | none => .fail ["results", fn.name]

def putPs : List Tmp → List V → T V → Option (T V)
  | [], [], E => some E
  | p :: ps, v :: vs, E => putPs ps vs (E.set p v)
  | _, _, _ => none

def step (P : Program) (X : Ex) (rec : Job → St → Res) : Job → St → Res
  | .call f args, S => match P.funcs[f]? with
    | none => .fail ["no func"]
    | some fn => match fn.body with
      | none => .fail ["no body"]
      | some c => match Nat.ble args.length fn.ntmps with
        | false => .fail ["args"]
        | true => match rec (.code fn.ntmps false c (args0 args 0 .leaf)) S with
          | .code .normal E S => retV P fn E S
          | .code .ret E S => retV P fn E S
          | .fail s => .fail (fn.name :: s)
          | _ => .fail ["exit"]
  | .round k args, S => match kob S k with
    | some (.loop .ready _ n E ps assign body) => match Nat.ble ps.size n, ps.all (fun p => Nat.blt p n), putPs ps.toList args E with
      | _, true, some E0 => match rec (.code n true assign E0) S with
        | .code .normal E1 S1 => match kob S1 k with
          | some (.loop .ready pe1 n1 E' ps' as' bd') => match rec (.code n true body E1) (setObj S1 k (mkK (.loop .busy pe1 n1 E' ps' as' bd'))) with
            | .code e _ S3 => match kob S3 k with
              | some (.loop _ _ n3 E3 ps3 as3 bd3) => match e with
                | .normal => .val (.bool true) (setObj S3 k (mkK (.loop .ready none n3 E3 ps3 as3 bd3)))
                | .ret => .val (.bool false) (setObj S3 k (mkK (.loop .done (some .ret) n3 E3 ps3 as3 bd3)))
                | .exit id => .val (.bool false) (setObj S3 k (mkK (.loop .done (some (.exit id)) n3 E3 ps3 as3 bd3)))
                | .goto t => .val (.bool false) (setObj S3 k (mkK (.loop .done (some (.goto t)) n3 E3 ps3 as3 bd3)))
                | _ => .fail ["round end"]
              | _ => .fail ["round record"]
            | .fail s => .fail ("round" :: s)
            | _ => .fail ["round body"]
          | _ => .fail ["round not ready"]
        | .fail s => .fail s
        | _ => .fail ["round assign"]
      | _, _, _ => .fail ["round args"]
    | _ => .fail ["no record"]
  | .rounds n rd b E, S => match rec (.code n rd b E) S with
    | .code .normal E S => rec (.rounds n rd b E) S
    | r => r
  | .code n rd c E, S => match c with
    | .skip => .code .normal E S
    | .region _ ops draw => match opsOk n ops with
      | false => .fail ["opsOk"]
      | true => match draw with
        | false => evL P X rec ops ops.toList E S
        | true => match planOf ops with
          | some p => evD P X rec ops p [] [] [] E S
          | none => .fail ["no plan"]
    | .seq a b => match rec (.code n rd a E) S with
      | .code .normal E S => rec (.code n rd b E) S
      | r => r
    | .cond x a b => match okOpd n x, evV E x with
      | true, some (.bool true) => rec (.code n rd a E) S
      | true, some (.bool false) => rec (.code n rd b E) S
      | _, _ => .fail ["cond"]
    | .block id b => match rec (.code n rd b E) S with
      | .code (.exit i) E S => match Nat.beq i id with
        | true => .code .normal E S
        | false => .code (.exit i) E S
      | r => r
    | .loop b => rec (.rounds n rd b E) S
    | .exit id => .code (.exit id) E S
    | .ret => .code .ret E S
    | .label _ => .code .normal E S
    | .goto l => .code (.goto l) E S
    | .scope b => match rec (.code n rd b E) S with
      | .code (.goto _) _ _ => .fail ["goto"]
      | r => r
    | .rangeFunc g ps assign body => match rd, okOpd n g, evV E g with
      | false, true, some (.fn (.func gf) [] lb) => match hasBody P gf with
        | true => match rec (.call gf (.yld S.nx :: lb)) (newObj S (mkK (.loop .ready none n E ps assign body))) with
          | .val _ S2 => match kob S2 S.nx with
            | some (.loop st pe _ _ _ _ _) => match st with
              | .busy => .fail ["range busy"]
              | _ => match pe with
                | none => .code .normal E (dropK S2 S.nx)
                | some c => rec (.code n rd c E) (dropK S2 S.nx)
            | _ => .fail ["range record"]
          | .fail s => .fail s
          | _ => .fail ["range call"]
        | false => .fail ["range body"]
      | _, _, _ => .fail ["range"]
    | _ => .fail ["code"]

def ev (P : Program) (X : Ex) : Nat → Job → St → Res := Nat.rec (fun _ _ => .fail ["fuel"]) (fun _ ih => step P X ih)
end Go.E
