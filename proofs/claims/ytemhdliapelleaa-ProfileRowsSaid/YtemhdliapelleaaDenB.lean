/- The evaluator 'den': its states, and what one operation does to them. Definitions alone. -/
import Derived.Test.YtemhdliapelleaaDenA
namespace Go.Den
open Go Go.RowKit

/-- A value of one cell: a plain one; a nil slice; an empty slice without room; a nil pointer; a row of the call's own (its key, its age); a variable of the call's own (key, age, cell); a function with the variables that it has captured. -/
inductive CV (T : TypeId → Type) : Type where
  | v (x : PV T)
  | nil
  | e0
  | np
  | row (r g : Nat)
  | box (k g off : Nat)
  | fn (f : FuncId) (caps : List (Nat × Nat))
/-- What a slot of a frame holds that a loop's body looks at. -/
inductive KV (T : TypeId → Type) : Type where
  | c (x : CV T)
  | agg (cs : List (CV T))
  | cel (xs : List (PV T))
/-- What a slot holds. -/
inductive AV (T : TypeId → Type) : Type where
  | c (x : CV T)
  | agg (cs : List (CV T))
  | tup (l : List (CV T ⊕ List (CV T)))
  | mth (f : FuncId) (xs : List (CV T ⊕ List (CV T)))
  | cel (xs : List (PV T))
  | rel (r g : Nat) (i : Int) (sz off : Nat)
  | nilq (e : Bool)
  | yld (y : Nat) (l : List (KV T))
  | skip
  | undef
structure BoxS (T : TypeId → Type) : Type where
  gen : Nat
  ty : TypeId
  cells : List (CV T)
structure RowS (T : TypeId → Type) : Type where
  gen : Nat
  e : TypeId
  l : List (T e)
structure St (T : TypeId → Type) : Type where
  slots : List (AV T)
  boxes : List (Nat × BoxS T)
  rows : List (Nat × RowS T)

def look {B : Type} : List (Nat × B) → Nat → Option B
  | [], _ => none
  | (j, b) :: r, k => if j = k then some b else look r k
def keep {B : Type} : List (Nat × B) → Nat → B → List (Nat × B)
  | [], k, b => [(k, b)]
  | (j, c) :: r, k, b => if j = k then (j, b) :: r else (j, c) :: keep r k b
def drop1 {B : Type} : List (Nat × B) → Nat → List (Nat × B)
  | [], _ => []
  | (j, c) :: r, k => if j = k then drop1 r k else (j, c) :: drop1 r k

section
variable {T : TypeId → Type}
def St.at_ (s : St T) (t : Nat) : AV T := s.slots.getD t .undef
def St.put (s : St T) (d : Option Nat) (v : AV T) : St T := match d with
  | some d => { s with slots := s.slots.set d v }
  | none => s
/-- A constant's value. -/
def cvConst : Value → Option (CV T)
  | .int k n => some (.v (.int k n))
  | .bool b => some (.v (.bool b))
  | .string s => some (.v (.str s))
  | .slice none 0 0 => some .nil
  | .pointer none => some .np
  | _ => none
def St.ev (s : St T) : Operand → AV T
  | .tmp t => s.at_ t
  | .const v => match cvConst v with
    | some c => .c c
    | none => .undef
  | .func f => .c (.fn f [])
  | .global _ => .undef
/-- What a one-cell value is as a plain value of a kind. -/
def St.get (s : St T) (l : Leaf) : CV T → Option (l.Ty T)
  | .v x => l.get x
  | .nil => match l with
    | .sl _ => some []
    | _ => none
  | .e0 => match l with
    | .sl _ => some []
    | _ => none
  | .row r g => match look s.rows r with
    | some R => if R.gen = g then l.get (.sl R.e R.l) else none
    | none => none
  | _ => none
end

/-! ### Numbers, texts -/
def wr (k : IntKind) (n : Int) : Int := match k with
  | .i64 => wrap64 n
  | k => k.wrap n
def inB (i : Int) (n : Nat) : Bool := decide (0 ≤ i) && decide (i < (n : Int))
def bits2 (op : BinOp) (k : IntKind) (x y : Int) : Int :=
  let a := BitVec.ofInt k.bits x
  let b := BitVec.ofInt k.bits y
  match op with
  | .and => k.wrap (a &&& b).toNat
  | .or => k.wrap (a ||| b).toNat
  | .xor => k.wrap (a ^^^ b).toNat
  | _ => k.wrap (a &&& ~~~b).toNat
/-- x << y, x >> y, as Go has them. -/
def shl (k : IntKind) (x y : Int) : Int := wr k (x * 2 ^ (min y.toNat k.bits))
def shr (k : IntKind) (x y : Int) : Int := x.fdiv (2 ^ (min y.toNat k.bits))
def byteAt (s : ByteArray) (i : Int) : Int := ((s.data.getD i.toNat 0).toNat : Int)
def cut (s : ByteArray) (lo hi : Int) : ByteArray := s.extract lo.toNat hi.toNat
def strEq (a b : ByteArray) : Bool := a.toList == b.toList
def strLt (a b : ByteArray) : Bool := Op.bytesLess a.toList b.toList
def mx (a b : Int) : Int := if b > a then b else a
def mn (a b : Int) : Int := if b < a then b else a

section
variable {T : TypeId → Type}
/-- An operation on two numbers: what must hold of them, and its value. -/
def int2 (op : BinOp) (k : IntKind) (x y : Int) : Option (Bool × CV T) := match op with
  | .add => some (true, .v (.int k (wr k (x + y))))
  | .sub => some (true, .v (.int k (wr k (x - y))))
  | .mul => some (true, .v (.int k (wr k (x * y))))
  | .quo => some (!(y == 0), .v (.int k (wr k (x.tdiv y))))
  | .rem => some (!(y == 0), .v (.int k (x.tmod y)))
  | .and => some (true, .v (.int k (bits2 .and k x y)))
  | .or => some (true, .v (.int k (bits2 .or k x y)))
  | .xor => some (true, .v (.int k (bits2 .xor k x y)))
  | .andNot => some (true, .v (.int k (bits2 .andNot k x y)))
  | .eql => some (true, .v (.bool (x == y)))
  | .neq => some (true, .v (.bool (x != y)))
  | .lss => some (true, .v (.bool (decide (x < y))))
  | .leq => some (true, .v (.bool (decide (x ≤ y))))
  | .gtr => some (true, .v (.bool (decide (x > y))))
  | .geq => some (true, .v (.bool (decide (x ≥ y))))
  | _ => none
def shift2 (op : BinOp) (k : IntKind) (x y : Int) : Option (Bool × CV T) := match op with
  | .shl => some (decide (0 ≤ y), .v (.int k (shl k x y)))
  | .shr => some (decide (0 ≤ y), .v (.int k (shr k x y)))
  | _ => none
def str2 (op : BinOp) (x y : ByteArray) : Option (Bool × CV T) := match op with
  | .add => some (decide (((x.size + y.size : Nat) : Int) ≤ 9223372036854775807), .v (.str (x ++ y)))
  | .eql => some (true, .v (.bool (strEq x y)))
  | .neq => some (true, .v (.bool (!(strEq x y))))
  | .lss => some (true, .v (.bool (strLt x y)))
  | .leq => some (true, .v (.bool (strLt x y || strEq x y)))
  | .gtr => some (true, .v (.bool (!(strLt x y || strEq x y))))
  | .geq => some (true, .v (.bool (!(strLt x y))))
  | _ => none
def isShift : BinOp → Bool
  | .shl => true
  | .shr => true
  | _ => false
/-- '==' of cells that are all plain numbers, bools, texts. -/
def eqCells : List (CV T) → List (CV T) → Option Bool
  | [], [] => some true
  | .v (.int k a) :: r, .v (.int k' b) :: r' => if k = k' then (eqCells r r').map ((a == b) && ·) else none
  | .v (.bool a) :: r, .v (.bool b) :: r' => (eqCells r r').map ((a == b) && ·)
  | .v (.str a) :: r, .v (.str b) :: r' => (eqCells r r').map (strEq a b && ·)
  | _, _ => none
end

section
variable (P : Program)
/-- Is a cell of a field's type? -/
def kindC {T : TypeId → Type} (ft : TypeId) : CV T → Bool
  | .v (.int _ _) => match P.underlying ft with
    | some (.int _) => true
    | _ => false
  | .v (.bool _) => match P.underlying ft with
    | some .bool => true
    | _ => false
  | .v (.str _) => match P.underlying ft with
    | some .string => true
    | _ => false
  | _ => false
def kindsC {T : TypeId → Type} : List Field → List (CV T) → Bool
  | [], [] => true
  | f :: fs, c :: cs => kindC P f.type c && kindsC fs cs
  | _, _ => false
/-- Where a struct's field lies. -/
def fieldOff (t : TypeId) (f : Nat) : Option (Nat × TypeId × Nat) := match P.underlying t with
  | some (.struct fs) => match fs[f]? with
    | some d => match P.info? d.type with
      | some i => if i.size = 0 then none else some (d.offset, d.type, i.size)
      | none => none
    | none => none
  | _ => none
def sliceElem (t : TypeId) : Option TypeId := match P.underlying t with
  | some (.slice e) => some e
  | _ => none
def isAggT (t : TypeId) : Option Bool := match P.underlying t with
  | some (.struct _) => some true
  | some (.array _ _) => some true
  | some _ => some false
  | none => none
end

section
variable {T : TypeId → Type}
/-- A value of some cells of a type. -/
def ofCells (P : Program) (t : TypeId) (cs : List (CV T)) : Option (AV T) := match isAggT P t with
  | some true => some (.agg cs)
  | some false => match cs with
    | [c] => some (.c c)
    | _ => none
  | none => none
def cellsOfAV : AV T → Option (List (CV T))
  | .c x => some [x]
  | .agg cs => some cs
  | _ => none
def sizeT (P : Program) (t : TypeId) : Option Nat := (P.info? t).map (·.size)
end

/-- An element's cells, and an element out of cells. -/
def St.elemOf (Θ : Tab) (s : St Θ.T) (e : TypeId) (cs : List (CV Θ.T)) : Option (Θ.T e) := (HT.get s.get (Θ.E e).leaves cs).map (Θ.E e).of
def atI {A : Type} (d : A) (l : List A) (i : Int) : A := l.getD i.toNat d
def elAt (Θ : Tab) (e : TypeId) (l : List (Θ.T e)) (i : Int) : Θ.T e := atI (Θ.E e).dft l i

section
variable (P : Program) (Θ : Tab)
/-- What an address leads to: the cells from there on. -/
def St.cellsAt (s : St Θ.T) : AV Θ.T → Option (List (CV Θ.T))
  | .c (.box k g off) => match look s.boxes k with
    | some B => if B.gen = g then some (B.cells.drop off) else none
    | none => none
  | .cel xs => some (xs.map .v)
  | .rel r g i sz off => match look s.rows r with
    | some R => if R.gen = g then (if sz = Θ.sz R.e then some (((Θ.enc R.e (elAt Θ R.e R.l i)).drop off).map .v) else none) else none
    | none => none
  | _ => none
def moved {T : TypeId → Type} (n : Nat) : AV T → Option (AV T)
  | .c (.box k g off) => some (.c (.box k g (off + n)))
  | .cel xs => some (.cel (xs.drop n))
  | .rel r g i sz off => some (.rel r g i sz (off + n))
  | _ => none
def vUn {T : TypeId → Type} (op : UnOp) : AV T → Option (Bool × AV T)
  | .c (.v (.int k n)) => match op with
    | .neg => some (true, .c (.v (.int k (wr k (0 - n)))))
    | _ => none
  | .c (.v (.bool b)) => match op with
    | .not => some (true, .c (.v (.bool (!b))))
    | _ => none
  | _ => none
def vBin (eqs : List TypeId) (op : BinOp) (xT : TypeId) : AV Θ.T → AV Θ.T → Option (Bool × AV Θ.T)
  | .c (.v (.int k a)), .c (.v (.int k' b)) =>
    if isShift op then (shift2 op k a b).map fun r => (r.1, .c r.2)
    else if k = k' then (int2 op k a b).map fun r => (r.1, .c r.2) else none
  | .c (.v (.bool a)), .c (.v (.bool b)) => match P.underlying xT with
    | some .bool => match op with
      | .eql => some (true, .c (.v (.bool (a == b))))
      | .neq => some (true, .c (.v (.bool (!(a == b)))))
      | _ => none
    | _ => none
  | .c (.v (.str a)), .c (.v (.str b)) => (str2 op a b).map fun r => (r.1, .c r.2)
  | .c (.v (.sl _ l)), .c .nil => match P.underlying xT with
    | some (.slice _) => match op with
      | .eql => some (true, .nilq l.isEmpty)
      | _ => none
    | _ => none
  | .c .nil, .c .nil => match P.underlying xT with
    | some (.slice _) => match op with
      | .eql => some (true, .c (.v (.bool true)))
      | .neq => some (true, .c (.v (.bool false)))
      | _ => none
    | _ => none
  | .c .np, .c .np => match P.underlying xT with
    | some (.pointer _) => match op with
      | .eql => some (true, .c (.v (.bool true)))
      | .neq => some (true, .c (.v (.bool false)))
      | _ => none
    | _ => none
  | .c (.box _ _ _), .c .np => match P.underlying xT with
    | some (.pointer _) => match op with
      | .eql => some (true, .c (.v (.bool false)))
      | .neq => some (true, .c (.v (.bool true)))
      | _ => none
    | _ => none
  | .rel _ _ _ _ _, .c .np => match P.underlying xT with
    | some (.pointer _) => match op with
      | .eql => some (true, .c (.v (.bool false)))
      | .neq => some (true, .c (.v (.bool true)))
      | _ => none
    | _ => none
  | .agg a, .agg b => if (eqs.contains xT && kindsC P (P.fieldsOf xT).toList a) && sizeT P xT == some a.length then (match op with
      | .eql => (eqCells a b).map fun r => (true, .c (.v (.bool r)))
      | .neq => (eqCells a b).map fun r => (true, .c (.v (.bool (!r))))
      | _ => none) else none
  | _, _ => none
def vConv (src dst : TypeId) : AV Θ.T → Option (Bool × AV Θ.T)
  | .c (.v (.int _ n)) => match P.underlying src, P.underlying dst with
    | some _, some (.int k) => some (true, .c (.v (.int k (wr k n))))
    | _, _ => none
  | .c (.v (.str t)) => match P.underlying src, P.underlying dst with
    | some _, some .string => some (true, .c (.v (.str t)))
    | _, _ => none
  | _ => none
def vExtract {T : TypeId → Type} (i : Nat) : AV T → Option (Bool × AV T)
  | .tup l => match l[i]? with
    | some (.inl c) => some (true, .c c)
    | some (.inr cs) => some (true, .agg cs)
    | none => none
  | _ => none
def vNil {T : TypeId → Type} : AV T → Option (Bool × AV T)
  | .c (.box k g off) => some (true, .c (.box k g off))
  | .cel xs => some (true, .cel xs)
  | .rel r g i sz off => some (true, .rel r g i sz off)
  | _ => none
def vFieldAddr {T : TypeId → Type} (t : TypeId) (f : Nat) (x : AV T) : Option (Bool × AV T) := match fieldOff P t f with
  | some (off, _, _) => (moved off x).map fun v => (true, v)
  | none => none
def vField {T : TypeId → Type} (t : TypeId) (f : Nat) : AV T → Option (Bool × AV T)
  | .agg cs => match fieldOff P t f with
    | some (off, ft, n) => if off + n ≤ cs.length then (ofCells P ft ((cs.drop off).take n)).map fun v => (true, v) else none
    | none => none
  | _ => none
def vLoad (s : St Θ.T) (t : TypeId) (x : AV Θ.T) : Option (Bool × AV Θ.T) := match sizeT P t with
  | some n => match s.cellsAt Θ x with
    | some cs => if n ≤ cs.length then (ofCells P t (cs.take n)).map fun v => (true, v) else none
    | none => none
  | none => none
def vIndexAddr (s : St Θ.T) (t : TypeId) (x : AV Θ.T) : AV Θ.T → Option (Bool × AV Θ.T)
  | .c (.v (.int _ j)) => match P.underlying t with
    | some (.slice e) => if sizeT P e = some (Θ.sz e) then (match x with
      | .c (.v (.sl e' l)) => if e = e' then some (inB j l.length, .cel (Θ.enc e' (elAt Θ e' l j))) else none
      | .c (.row r g) => match look s.rows r with
        | some R => if R.gen = g then (if e = R.e then some (inB j R.l.length, .rel r g j (Θ.sz R.e) 0) else none) else none
        | none => none
      | _ => none) else none
    | some (.array n e) => match sizeT P e with
      | some z => match x with
        | .c (.box k g off) => some (inB j n, .c (.box k g (off + j.toNat * z)))
        | _ => none
      | none => none
    | _ => none
  | _ => none
def vIndex (t : TypeId) (x : AV Θ.T) : AV Θ.T → Option (Bool × AV Θ.T)
  | .c (.v (.int _ j)) => match P.underlying t with
    | some .string => match x with
      | .c (.v (.str b)) => some (inB j b.size, .c (.v (.int .u8 (byteAt b j))))
      | _ => none
    | _ => none
  | _ => none
/-- A bound of a cut: none, or a number; anything else is not taken. -/
def vBound {T : TypeId → Type} (s : St T) : Option Operand → Option (Option Int)
  | none => some none
  | some x => match s.ev x with
    | .c (.v (.int _ n)) => some (some n)
    | _ => none
/-- May one cut so, of n? And from where to where. -/
def cutOk (lo hi : Option Int) (n : Nat) : Bool := match lo, hi with
  | none, none => true
  | some l, none => decide (0 ≤ l) && decide (l ≤ (n : Int))
  | none, some h => decide (0 ≤ h) && decide (h ≤ (n : Int))
  | some l, some h => decide (0 ≤ l) && decide (l ≤ h) && decide (h ≤ (n : Int))
def cutStr (lo hi : Option Int) (b : ByteArray) : ByteArray := match lo, hi with
  | none, none => b
  | some l, none => cut b l b.size
  | none, some h => cut b 0 h
  | some l, some h => cut b l h
def cutList {A : Type} (lo hi : Option Int) (a : List A) : List A := match lo, hi with
  | none, none => a
  | some l, none => a.drop l.toNat
  | none, some h => a.take h.toNat
  | some l, some h => (a.take h.toNat).drop l.toNat
def vSlice (s : St Θ.T) (t : TypeId) (x : AV Θ.T) (lo hi mx : Option Operand) : Option (Bool × AV Θ.T) := match mx with
  | some _ => none
  | none => match vBound s lo, vBound s hi with
    | some l, some h => match P.underlying t with
      | some .string => match x with
        | .c (.v (.str b)) => some (cutOk l h b.size, .c (.v (.str (cutStr l h b))))
        | _ => none
      | some (.slice e) => if sizeT P e = some (Θ.sz e) then (match x with
        | .c (.v (.sl e' a)) => if e = e' then some (cutOk l h a.length, .c (.v (.sl e' (cutList l h a)))) else none
        | _ => none) else none
      | _ => none
    | _, _ => none
def capsOf {T : TypeId → Type} (s : St T) : List Operand → Option (List (Nat × Nat))
  | [] => some []
  | x :: r => match s.ev x with
    | .c (.box k g 0) => match capsOf s r with
      | some l => some ((k, g) :: l)
      | none => none
    | _ => none
/-- What a bound method carries. -/
def sumsOf {T : TypeId → Type} (s : St T) : List Operand → Option (List (CV T ⊕ List (CV T)))
  | [] => some []
  | x :: r => match s.ev x with
    | .c c => match sumsOf s r with
      | some l => some (.inl c :: l)
      | none => none
    | .agg cs => match sumsOf s r with
      | some l => some (.inr cs :: l)
      | none => none
    | _ => none
def vFunc {T : TypeId → Type} (s : St T) (fn : Fn) (first caps : Array Operand) : Option (Bool × AV T) := match fn with
  | .func f => match first.toList with
    | [] => match capsOf s caps.toList with
      | some l => some (true, .c (.fn f l))
      | none => none
    | _ :: _ => match caps.toList with
      | [] => match sumsOf s first.toList with
        | some l => some (true, .mth f l)
        | none => none
      | _ :: _ => none
  | _ => none
def constCells {T : TypeId → Type} : List Value → Option (List (CV T))
  | [] => some []
  | v :: r => match cvConst v, constCells r with
    | some c, some l => some (c :: l)
    | _, _ => none
def fillParts {T : TypeId → Type} (s : St T) (t : TypeId) : List (Nat × Operand) → List (CV T) → Option (List (CV T))
  | [], cs => some cs
  | (f, x) :: r, cs => match fieldOff P t f with
    | some (off, _, n) => match cellsOfAV (s.ev x) with
      | some vs => if vs.length = n ∧ off + n ≤ cs.length then fillParts s t r (cs.take off ++ vs ++ cs.drop (off + n)) else none
      | none => none
    | none => none
def zeroCells {T : TypeId → Type} (t : TypeId) : Option (List (CV T)) := match P.info? t with
  | some i => match i.zero with
    | some z => constCells z.cells.toList
    | none => none
  | none => none
def structOk (t : TypeId) : Bool := match P.underlying t with
  | some (.struct fs) => fs.toList.all fun d => (P.info? d.type).isSome
  | _ => false
def vBuild {T : TypeId → Type} (s : St T) (t : TypeId) (parts : Array (Nat × Operand)) : Option (Bool × AV T) := if structOk P t then (match zeroCells P t with
  | some zs => match fillParts P s t parts.toList zs with
    | some cs => some (true, .agg cs)
    | none => none
  | none => none) else none
def vLen (s : St Θ.T) (t : TypeId) : AV Θ.T → Option (Bool × AV Θ.T)
  | .c (.v (.str b)) => match P.underlying t with
    | some .string => some (true, .c (.v (.int .i64 b.size)))
    | _ => none
  | .c .nil => match P.underlying t with
    | some (.slice _) => some (true, .c (.v (.int .i64 0)))
    | _ => none
  | .c (.v (.sl _ l)) => match P.underlying t with
    | some (.slice _) => some (true, .c (.v (.int .i64 l.length)))
    | _ => none
  | .c (.row r g) => match P.underlying t with
    | some (.slice _) => match look s.rows r with
      | some R => if R.gen = g then some (true, .c (.v (.int .i64 R.l.length))) else none
      | none => none
    | _ => none
  | _ => none
/-- The greatest, or the least, of numbers. -/
def vBest {T : TypeId → Type} (f : Int → Int → Int) : List (AV T) → Option (Bool × AV T)
  | [.c (.v (.int k a)), .c (.v (.int _ b))] => some (true, .c (.v (.int k (f a b))))
  | [.c (.v (.int k a)), .c (.v (.int _ b)), .c (.v (.int _ c))] => some (true, .c (.v (.int k (f (f a b) c))))
  | _ => none
/-- An operation that only computes, or reads: what must hold, and its value. (eqs: the struct types that are compared cell by cell.) -/
def opV (eqs : List TypeId) (s : St Θ.T) (op : Op) : Option (Bool × AV Θ.T) := match op with
  | .move x => some (true, s.ev x)
  | .assign x => some (true, s.ev x)
  | .unOp op _ x => vUn op (s.ev x)
  | .binOp op xT x y _ => vBin P Θ eqs op xT (s.ev x) (s.ev y)
  | .convert src dst x => vConv P Θ src dst (s.ev x)
  | .extract x i => vExtract i (s.ev x)
  | .nilCheck x => vNil (s.ev x)
  | .fieldAddr t x f => vFieldAddr P t f (s.ev x)
  | .field t x f => vField P t f (s.ev x)
  | .load t x => vLoad P Θ s t (s.ev x)
  | .indexAddr t x i => vIndexAddr P Θ s t (s.ev x) (s.ev i)
  | .index t x i => vIndex P Θ t (s.ev x) (s.ev i)
  | .slice t x lo hi mx => vSlice P Θ s t (s.ev x) lo hi mx
  | .makeFunc fn first caps => vFunc s fn first caps
  | .build t parts => vBuild P s t parts
  | .call c => match c.callee with
    | .builtin .len => match c.args.toList, c.argTypes.toList with
      | [x], t :: _ => vLen P Θ s t (s.ev x)
      | _, _ => none
    | .builtin .max => vBest mx (c.args.toList.map s.ev)
    | .builtin .min => vBest mn (c.args.toList.map s.ev)
    | _ => none
  | _ => none
end
end Go.Den
