/- The evaluator of the model's code on typed values, and that it tells the truth: part A. -/
import Derived.Below
import Derived.Maps.AppendAt
import Derived.Orders
import Derived.WalkKit
import Derived.KernelRfl
import Derived.Laws.BytesArg
import Derived.IntWalk
import Derived.Laws.StructEq
import Derived.MapKept
import Derived.Laws.Cells
import Derived.Laws.Strings
import Derived.Laws.BytesString
import Derived.Laws.MakeOwn
import Derived.Laws.OwnMore
import Derived.Laws.IdiomStrings
namespace Go.Den
open Go Go.RowKit
abbrev pin : Nat := 1000000
def slE (e : Nat) : Bool := Nat.blt e pin
def HT {A : Type} (ty : A → Type) : List A → Type
  | [] => Unit
  | [a] => ty a
  | a :: b :: r => ty a × HT ty (b :: r)
def HT.get {A B : Type} {ty : A → Type} (g : (a : A) → B → Option (ty a)) : (as : List A) → List B → Option (HT ty as)
  | [], l => match l with
    | [] => some ()
    | _ :: _ => none
  | [a], l => match l with
    | [] => none
    | b :: bs => match bs with
      | [] => g a b
      | _ :: _ => none
  | a :: a2 :: r, l => match l with
    | [] => none
    | b :: bs => match g a b with
      | some x => match HT.get g (a2 :: r) bs with
        | some xs => some (x, xs)
        | none => none
      | none => none
theorem HT.get_cons {A B : Type} {ty : A → Type} (g : (a : A) → B → Option (ty a)) (a a2 : A) (r : List A) (b : B) (bs : List B) :
    HT.get g (a :: a2 :: r) (b :: bs) = match g a b with
      | some x => match HT.get g (a2 :: r) bs with
        | some xs => some (x, xs)
        | none => none
      | none => none := by rw [HT.get]
theorem HT.get_one {A B : Type} {ty : A → Type} (g : (a : A) → B → Option (ty a)) (a : A) (b : B) : HT.get g [a] [b] = g a b := by rw [HT.get]
theorem HT.get_len {A B : Type} {ty : A → Type} (g : (a : A) → B → Option (ty a)) : ∀ (as : List A) (bs : List B) (x : HT ty as), HT.get g as bs = some x → as.length = bs.length := by
  intro as
  induction as with
  | nil => intro bs x h; cases bs with | nil => rfl | cons b bs => rw [HT.get] at h; cases h
  | cons a as ih =>
    intro bs x h
    cases as with
    | nil =>
      cases bs with
      | nil => rw [HT.get] at h; cases h
      | cons b bs => cases bs with | nil => rfl | cons c bs => rw [HT.get] at h; cases h
    | cons a2 r =>
      cases bs with
      | nil => rw [HT.get] at h; cases h
      | cons b bs =>
        rw [HT.get_cons] at h
        split at h
        · split at h
          · rename_i xs hxs
            have := ih bs xs hxs
            simp only [List.length_cons] at this ⊢
            omega
          · cases h
        · cases h
def HT.list {A C : Type} {ty : A → Type} (m : (a : A) → ty a → C) : (as : List A) → HT ty as → List C
  | [], _ => []
  | [a], x => [m a x]
  | a :: b :: r, x => m a x.1 :: HT.list m (b :: r) x.2
inductive PV (T : TypeId → Type) : Type where
  | int (k : IntKind) (n : Int)
  | bool (b : Bool)
  | str (s : ByteArray)
  | sl (e : TypeId) (l : List (T e))
inductive Leaf where
  | int (k : IntKind)
  | bool
  | str
  | sl (e : TypeId)
def Leaf.Ty (T : TypeId → Type) : Leaf → Type
  | .int _ => Int
  | .bool => Bool
  | .str => ByteArray
  | .sl e => List (T e)
def Leaf.mk {T : TypeId → Type} : (l : Leaf) → l.Ty T → PV T
  | .int k, n => .int k n
  | .bool, b => .bool b
  | .str, s => .str s
  | .sl e, l => .sl e l
def Leaf.get {T : TypeId → Type} : (l : Leaf) → PV T → Option (l.Ty T)
  | .int k, .int k' n => if k = k' then some n else none
  | .bool, .bool b => some b
  | .str, .str s => some s
  | .sl e, .sl e' l => if h : e' = e then some (h ▸ l) else none
  | _, _ => none
theorem Leaf.get_mk {T : TypeId → Type} {l : Leaf} {p : PV T} {x : l.Ty T} (h : l.get p = some x) : p = l.mk x := by
  cases l <;> cases p <;> simp only [Leaf.get] at h <;> try (cases h; done)
  · split at h
    · rename_i hk; subst hk; injection h with h; subst h; rfl
    · cases h
  · injection h with h; subst h; rfl
  · injection h with h; subst h; rfl
  · split at h
    · rename_i hk; subst hk; injection h with h; subst h; rfl
    · cases h
def Leaf.flat : Leaf → Bool
  | .sl _ => false
  | _ => true
structure Enc (T : TypeId → Type) (A : Type) where
  leaves : List Leaf
  to : A → HT (Leaf.Ty T) leaves
  of : HT (Leaf.Ty T) leaves → A
  inv : ∀ x, to (of x) = x
  dft : A
structure Rng where
  ps : Array Tmp
  assign : Code
  body : Code
  live : List Nat
  nt : Nat
structure Tab where
  T : TypeId → Type
  E : (e : TypeId) → Enc T (T e)
  Y : Nat → Option Rng := fun _ => none
  L : List Nat := []
  G : List (Nat × List Value) := []
  base : Nat := 0
def Tab.enc (Θ : Tab) (e : TypeId) (x : Θ.T e) : List (PV Θ.T) := HT.list Leaf.mk (Θ.E e).leaves ((Θ.E e).to x)
def Tab.sz (Θ : Tab) (e : TypeId) : Nat := (Θ.E e).leaves.length
theorem HT.length_list {A C : Type} {ty : A → Type} (m : (a : A) → ty a → C) : ∀ (as : List A) (x : HT ty as), (HT.list m as x).length = as.length
  | [], _ => rfl
  | [_], _ => rfl
  | a :: b :: r, x => by simp only [HT.list, List.length_cons]; rw [HT.length_list m (b :: r) x.2]; rfl
theorem Tab.length_enc (Θ : Tab) (e : TypeId) (x : Θ.T e) : (Θ.enc e x).length = Θ.sz e := HT.length_list _ _ _
inductive All2 {A B : Type} (R : A → B → Prop) : List A → List B → Prop where
  | nil : All2 R [] []
  | cons {a : A} {b : B} {as : List A} {bs : List B} (h : R a b) (t : All2 R as bs) : All2 R (a :: as) (b :: bs)
namespace All2
variable {A B : Type} {R R' : A → B → Prop}
theorem length {as : List A} {bs : List B} (h : All2 R as bs) : as.length = bs.length := by induction h <;> simp_all
theorem mono {as : List A} {bs : List B} (h : All2 R as bs) (hr : ∀ a b, R a b → R' a b) : All2 R' as bs := by
  induction h with
  | nil => exact .nil
  | cons h _ ih => exact .cons (hr _ _ h) ih
theorem get {as : List A} {bs : List B} (h : All2 R as bs) (i : Nat) {a : A} (ha : as[i]? = some a) : ∃ b, bs[i]? = some b ∧ R a b := by
  induction h generalizing i with
  | nil => simp at ha
  | cons h _ ih =>
    cases i with
    | zero => simp at ha; subst ha; exact ⟨_, by simp, h⟩
    | succ i => simp at ha; obtain ⟨b, hb, hr⟩ := ih i ha; exact ⟨b, by simpa using hb, hr⟩
theorem get' {as : List A} {bs : List B} (h : All2 R as bs) (i : Nat) {b : B} (hb : bs[i]? = some b) : ∃ a, as[i]? = some a ∧ R a b := by
  induction h generalizing i with
  | nil => simp at hb
  | cons h _ ih =>
    cases i with
    | zero => simp at hb; subst hb; exact ⟨_, by simp, h⟩
    | succ i => simp at hb; obtain ⟨a, ha, hr⟩ := ih i hb; exact ⟨a, by simpa using ha, hr⟩
theorem append {as as' : List A} {bs bs' : List B} (h : All2 R as bs) (h' : All2 R as' bs') : All2 R (as ++ as') (bs ++ bs') := by
  induction h with
  | nil => exact h'
  | cons h _ ih => exact .cons h ih
theorem set {as : List A} {bs : List B} (h : All2 R as bs) (i : Nat) {a : A} {b : B} (hab : R a b) : All2 R (as.set i a) (bs.set i b) := by
  induction h generalizing i with
  | nil => simp; exact .nil
  | cons h t ih =>
    cases i with
    | zero => simpa using All2.cons hab t
    | succ i => simpa using All2.cons h (ih i)
theorem take {as : List A} {bs : List B} (h : All2 R as bs) (i : Nat) : All2 R (as.take i) (bs.take i) := by
  induction h generalizing i with
  | nil => simp; exact .nil
  | cons h _ ih =>
    cases i with
    | zero => simp; exact .nil
    | succ i => simpa using All2.cons h (ih i)
theorem drop {as : List A} {bs : List B} (h : All2 R as bs) (i : Nat) : All2 R (as.drop i) (bs.drop i) := by
  induction h generalizing i with
  | nil => simp; exact .nil
  | cons h t ih =>
    cases i with
    | zero => simpa using All2.cons h t
    | succ i => simpa using ih i
theorem map_left {C : Type} {f : C → A} {cs : List C} {bs : List B} (h : All2 (fun c b => R (f c) b) cs bs) : All2 R (cs.map f) bs := by
  induction h with
  | nil => exact .nil
  | cons h _ ih => exact .cons h ih
theorem of_get {as : List A} {bs : List B} (hl : as.length = bs.length) (h : ∀ (i : Nat) (a : A) (b : B), as[i]? = some a → bs[i]? = some b → R a b) : All2 R as bs := by
  induction as generalizing bs with
  | nil => cases bs with | nil => exact .nil | cons _ _ => simp at hl
  | cons a as ih =>
    cases bs with
    | nil => simp at hl
    | cons b bs => exact .cons (h 0 a b (by simp) (by simp)) (ih (by simpa using hl) fun i a' b' ha hb => h (i + 1) a' b' (by simpa using ha) (by simpa using hb))
end All2
def elOf (W : World) (b : Nat) : Option TypeId := match W.heap[b]? with
  | some (.cells c e f) => if f = (0, 0) ∨ c.size ≤ f.1 then some e else none
  | _ => none
theorem elOf_of {W W' : World} {b : Nat} (h : W'.heap[b]? = W.heap[b]?) : elOf W' b = elOf W b := by unfold elOf; rw [h]
theorem elOf_cells {W : World} {b : Nat} {c : Array Value} {e : TypeId} {f : Nat × Nat} (h : W.heap[b]? = some (.cells c e f)) (hf : f = (0, 0) ∨ c.size ≤ f.1) : elOf W b = some e := by unfold elOf; rw [h]; exact if_pos hf
inductive Rep (Θ : Tab) (W : World) (F : Nat → Prop) : Value → PV Θ.T → Prop where
  | int (k : IntKind) (n : Int) : Rep Θ W F (.int k n) (.int k n)
  | bool (b : Bool) : Rep Θ W F (.bool b) (.bool b)
  | str (s : ByteArray) : Rep Θ W F (.string s) (.str s)
  | sl (e : TypeId) (l : List (Θ.T e)) (A : Option Addr) (n cap : Nat) (us : Nat → Nat → Value) (hn : l.length = n) (hc : n ≤ cap) (hz : A = none → cap = 0)
      (hA : l ≠ [] → ∃ ad, A = some ad ∧ ad.spot = none ∧ (0 < Θ.sz e → F ad.block ∧ (Θ.base ≤ ad.block → elOf W ad.block = some e)) ∧ ∀ i j, i < l.length → j < Θ.sz e → W.cell? (ad.add (i * Θ.sz e + j)) = some (us i j))
      (hr : ∀ i j y x, l[i]? = some y → (Θ.enc e y)[j]? = some x → Rep Θ W F (us i j) x) : Rep Θ W F (.slice A n cap) (.sl e l)
theorem Addr.add_block (ad : Addr) (n : Nat) : (ad.add n).block = ad.block := by unfold Addr.add; split <;> rfl
theorem Rep.mono {Θ : Tab} {W W' : World} {F F' : Nat → Prop} {v : Value} {x : PV Θ.T} (h : Rep Θ W F v x) (hf : ∀ b, F b → F' b)
    (hw : ∀ b, F b → W'.heap[b]? = W.heap[b]?) : Rep Θ W' F' v x := by
  induction h with
  | int k n => exact .int k n
  | bool b => exact .bool b
  | str s => exact .str s
  | sl e l A n cap us hn hcap hz hA _ ih =>
    refine .sl e l A n cap us hn hcap hz (fun hne => ?_) (fun i j y x hy hx => ih i j y x hy hx)
    obtain ⟨ad, e1, e2, e3, e4⟩ := hA hne
    exact ⟨ad, e1, e2, fun h => ⟨hf _ (e3 h).1, fun hb => (elOf_of (hw _ (e3 h).1)).trans ((e3 h).2 hb)⟩, fun i j hi hj => (World.cell?_of_block (by rw [Addr.add_block]; exact hw _ (e3 (by omega)).1)).trans (e4 i j hi hj)⟩
theorem Rep.nil (Θ : Tab) (W : World) (F : Nat → Prop) (e : TypeId) : Rep Θ W F (.slice none 0 0) (.sl e []) :=
  .sl e [] none 0 0 (fun _ _ => default) rfl (Nat.le_refl _) (fun _ => rfl) (fun h => absurd rfl h) (fun i j y x hy => by simp at hy)
theorem Rep.e0 (Θ : Tab) (W : World) (F : Nat → Prop) (e : TypeId) (A : Option Addr) : Rep Θ W F (.slice A 0 0) (.sl e []) :=
  .sl e [] A 0 0 (fun _ _ => default) rfl (Nat.le_refl _) (fun _ => rfl) (fun h => absurd rfl h) (fun i j y x hy => by simp at hy)
theorem Rep.one {Θ : Tab} {W : World} {F : Nat → Prop} {v : Value} {x : PV Θ.T} (h : Rep Θ W F v x) : v.oneCell' = true := by cases h <;> rfl
theorem Rep.cells {Θ : Tab} {W : World} {F : Nat → Prop} {v : Value} {x : PV Θ.T} (h : Rep Θ W F v x) : v.cells = #[v] := by cases h <;> rfl
end Go.Den
namespace Go.Den
open Go Go.RowKit
inductive CV (T : TypeId → Type) : Type where
  | v (x : PV T)
  | nil
  | e0
  | np
  | nm
  | ni
  | row (r g : Nat)
  | box (k g off : Nat)
  | fn (f : FuncId) (caps : List (Nat × Nat))
inductive KV (T : TypeId → Type) : Type where
  | c (x : CV T)
  | agg (cs : List (CV T))
  | cel (xs : List (PV T))
inductive AV (T : TypeId → Type) : Type where
  | c (x : CV T)
  | agg (cs : List (CV T))
  | tup (l : List (CV T ⊕ List (CV T)))
  | mth (f : FuncId) (xs : List (CV T ⊕ List (CV T)))
  | cel (xs : List (PV T))
  | rel (r g : Nat) (i : Int) (sz off : Nat)
  | nilq (e : Bool)
  | yld (y : Nat) (l : List (KV T))
  | skip
  | undef
structure BoxS (T : TypeId → Type) : Type where
  gen : Nat
  ty : TypeId
  cells : List (CV T)
structure RowS (T : TypeId → Type) : Type where
  gen : Nat
  e : TypeId
  l : List (T e)
structure St (T : TypeId → Type) : Type where
  slots : List (AV T)
  boxes : List (Nat × BoxS T)
  rows : List (Nat × RowS T)
def look {B : Type} : List (Nat × B) → Nat → Option B
  | [], _ => none
  | (j, b) :: r, k => if j = k then some b else look r k
def keep {B : Type} : List (Nat × B) → Nat → B → List (Nat × B)
  | [], k, b => [(k, b)]
  | (j, c) :: r, k, b => if j = k then (j, b) :: r else if Nat.blt k j then (k, b) :: (j, c) :: r else (j, c) :: keep r k b
def drop1 {B : Type} : List (Nat × B) → Nat → List (Nat × B)
  | [], _ => []
  | (j, c) :: r, k => if j = k then drop1 r k else (j, c) :: drop1 r k
section
variable {T : TypeId → Type}
def St.at_ (s : St T) (t : Nat) : AV T := s.slots.getD t .undef
def St.put (s : St T) (d : Option Nat) (v : AV T) : St T := match d with
  | some d => { s with slots := s.slots.set d v }
  | none => s
def cvConst : Value → Option (CV T)
  | .int k n => some (.v (.int k n))
  | .bool b => some (.v (.bool b))
  | .string s => some (.v (.str s))
  | .slice none 0 0 => some .nil
  | .pointer none => some .np
  | .map none => some .nm
  | .nilIface => some .ni
  | _ => none
def St.ev (s : St T) : Operand → AV T
  | .tmp t => s.at_ t
  | .const v => match cvConst v with
    | some c => .c c
    | none => .undef
  | .func f => .c (.fn f [])
  | .global _ => .undef
def St.get (s : St T) (l : Leaf) : CV T → Option (l.Ty T)
  | .v x => l.get x
  | .nil => match l with
    | .sl _ => some []
    | _ => none
  | .e0 => match l with
    | .sl _ => some []
    | _ => none
  | .row r g => match look s.rows r with
    | some R => if R.gen = g then l.get (.sl R.e R.l) else none
    | none => none
  | _ => none
end
def wr (k : IntKind) (n : Int) : Int := match k with
  | .i64 => wrap64 n
  | k => k.wrap n
def inB (i : Int) (n : Nat) : Bool := decide (0 ≤ i) && decide (i < (n : Int))
def bits2 (op : BinOp) (k : IntKind) (x y : Int) : Int :=
  let a := BitVec.ofInt k.bits x
  let b := BitVec.ofInt k.bits y
  match op with
  | .and => k.wrap (a &&& b).toNat
  | .or => k.wrap (a ||| b).toNat
  | .xor => k.wrap (a ^^^ b).toNat
  | _ => k.wrap (a &&& ~~~b).toNat
def shl (k : IntKind) (x y : Int) : Int := wr k (x * 2 ^ (min y.toNat k.bits))
def shr (k : IntKind) (x y : Int) : Int := x.fdiv (2 ^ (min y.toNat k.bits))
def byteAt (s : ByteArray) (i : Int) : Int := ((s.data.getD i.toNat 0).toNat : Int)
def cut (s : ByteArray) (lo hi : Int) : ByteArray := s.extract lo.toNat hi.toNat
def strEq (a b : ByteArray) : Bool := a.toList == b.toList
def strLt (a b : ByteArray) : Bool := Op.bytesLess a.toList b.toList
def mx (a b : Int) : Int := if b > a then b else a
def mn (a b : Int) : Int := if b < a then b else a
section
variable {T : TypeId → Type}
def int2 (op : BinOp) (k : IntKind) (x y : Int) : Option (Bool × CV T) := match op with
  | .add => some (true, .v (.int k (wr k (x + y))))
  | .sub => some (true, .v (.int k (wr k (x - y))))
  | .mul => some (true, .v (.int k (wr k (x * y))))
  | .quo => some (!(y == 0), .v (.int k (wr k (x.tdiv y))))
  | .rem => some (!(y == 0), .v (.int k (x.tmod y)))
  | .and => some (true, .v (.int k (bits2 .and k x y)))
  | .or => some (true, .v (.int k (bits2 .or k x y)))
  | .xor => some (true, .v (.int k (bits2 .xor k x y)))
  | .andNot => some (true, .v (.int k (bits2 .andNot k x y)))
  | .eql => some (true, .v (.bool (x == y)))
  | .neq => some (true, .v (.bool (x != y)))
  | .lss => some (true, .v (.bool (decide (x < y))))
  | .leq => some (true, .v (.bool (decide (x ≤ y))))
  | .gtr => some (true, .v (.bool (decide (x > y))))
  | .geq => some (true, .v (.bool (decide (x ≥ y))))
  | _ => none
def shift2 (op : BinOp) (k : IntKind) (x y : Int) : Option (Bool × CV T) := match op with
  | .shl => some (decide (0 ≤ y), .v (.int k (shl k x y)))
  | .shr => some (decide (0 ≤ y), .v (.int k (shr k x y)))
  | _ => none
def strFit (x y : ByteArray) : Bool := Nat.ble (x.size + y.size) 9223372036854775807
def str2 (op : BinOp) (x y : ByteArray) : Option (Bool × CV T) := match op with
  | .add => some (strFit x y, .v (.str (x ++ y)))
  | .eql => some (true, .v (.bool (strEq x y)))
  | .neq => some (true, .v (.bool (!(strEq x y))))
  | .lss => some (true, .v (.bool (strLt x y)))
  | .leq => some (true, .v (.bool (strLt x y || strEq x y)))
  | .gtr => some (true, .v (.bool (!(strLt x y || strEq x y))))
  | .geq => some (true, .v (.bool (!(strLt x y))))
  | _ => none
def isShift : BinOp → Bool
  | .shl => true
  | .shr => true
  | _ => false
def eqCells : List (CV T) → List (CV T) → Option Bool
  | [], [] => some true
  | .v (.int k a) :: r, .v (.int k' b) :: r' => if k = k' then (eqCells r r').map ((a == b) && ·) else none
  | .v (.bool a) :: r, .v (.bool b) :: r' => (eqCells r r').map ((a == b) && ·)
  | .v (.str a) :: r, .v (.str b) :: r' => (eqCells r r').map (strEq a b && ·)
  | _, _ => none
end
section
variable (P : Program)
def kindC {T : TypeId → Type} (ft : TypeId) : CV T → Bool
  | .v (.int _ _) => match P.underlying ft with
    | some (.int _) => true
    | _ => false
  | .v (.bool _) => match P.underlying ft with
    | some .bool => true
    | _ => false
  | .v (.str _) => match P.underlying ft with
    | some .string => true
    | _ => false
  | _ => false
def kindsC {T : TypeId → Type} : List Field → List (CV T) → Bool
  | [], [] => true
  | f :: fs, c :: cs => kindC P f.type c && kindsC fs cs
  | _, _ => false
def fieldOff (t : TypeId) (f : Nat) : Option (Nat × TypeId × Nat) := match P.underlying t with
  | some (.struct fs) => match fs[f]? with
    | some d => match P.info? d.type with
      | some i => if i.size = 0 then none else some (d.offset, d.type, i.size)
      | none => none
    | none => none
  | _ => none
def sliceElem (t : TypeId) : Option TypeId := match P.underlying t with
  | some (.slice e) => some e
  | _ => none
def isAggT (t : TypeId) : Option Bool := match P.underlying t with
  | some (.struct _) => some true
  | some (.array _ _) => some true
  | some _ => some false
  | none => none
end
section
variable {T : TypeId → Type}
def ofCells (P : Program) (t : TypeId) (cs : List (CV T)) : Option (AV T) := match isAggT P t with
  | some true => some (.agg cs)
  | some false => match cs with
    | [c] => some (.c c)
    | _ => none
  | none => none
def cellsOfAV : AV T → Option (List (CV T))
  | .c x => some [x]
  | .agg cs => some cs
  | _ => none
def sizeT (P : Program) (t : TypeId) : Option Nat := (P.info? t).map (·.size)
def aggV' (P : Program) (t : TypeId) : Bool := match isAggT P t with
  | some true => true
  | _ => false
end
def St.elemOf (Θ : Tab) (s : St Θ.T) (e : TypeId) (cs : List (CV Θ.T)) : Option (Θ.T e) := (HT.get s.get (Θ.E e).leaves cs).map (Θ.E e).of
def atI {A : Type} (d : A) (l : List A) (i : Int) : A := l.getD i.toNat d
def elAt (Θ : Tab) (e : TypeId) (l : List (Θ.T e)) (i : Int) : Θ.T e := atI (Θ.E e).dft l i
section
variable (P : Program) (Θ : Tab)
def plainC {T : TypeId → Type} : CV T → Bool
  | .v _ => true
  | .nil => true
  | .e0 => true
  | _ => false
def St.cellsAt (s : St Θ.T) : AV Θ.T → Option (List (CV Θ.T))
  | .c (.box k g off) => match look s.boxes k with
    | some B => if B.gen = g then some (B.cells.drop off) else none
    | none => none
  | .cel xs => some (xs.map .v)
  | .rel r g i sz off => match look s.rows r with
    | some R => if R.gen = g then (if sz = Θ.sz R.e then some (((Θ.enc R.e (elAt Θ R.e R.l i)).drop off).map .v) else none) else none
    | none => none
  | _ => none
def moved {T : TypeId → Type} (n : Nat) : AV T → Option (AV T)
  | .c (.box k g off) => some (.c (.box k g (off + n)))
  | .cel xs => some (.cel (xs.drop n))
  | .rel r g i sz off => some (.rel r g i sz (off + n))
  | _ => none
def vUn {T : TypeId → Type} (op : UnOp) : AV T → Option (Bool × AV T)
  | .c (.v (.int k n)) => match op with
    | .neg => some (true, .c (.v (.int k (wr k (0 - n)))))
    | _ => none
  | .c (.v (.bool b)) => match op with
    | .not => some (true, .c (.v (.bool (!b))))
    | _ => none
  | _ => none
def vBin (eqs : List TypeId) (op : BinOp) (xT : TypeId) : AV Θ.T → AV Θ.T → Option (Bool × AV Θ.T)
  | .c (.v (.int k a)), .c (.v (.int k' b)) =>
    if isShift op then (shift2 op k a b).map fun r => (r.1, .c r.2)
    else if k = k' then (int2 op k a b).map fun r => (r.1, .c r.2) else none
  | .c (.v (.bool a)), .c (.v (.bool b)) => match P.underlying xT with
    | some .bool => match op with
      | .eql => some (true, .c (.v (.bool (a == b))))
      | .neq => some (true, .c (.v (.bool (!(a == b)))))
      | _ => none
    | _ => none
  | .c (.v (.str a)), .c (.v (.str b)) => (str2 op a b).map fun r => (r.1, .c r.2)
  | .c (.v (.sl _ l)), .c .nil => match P.underlying xT with
    | some (.slice _) => match op with
      | .eql => some (true, .nilq l.isEmpty)
      | _ => none
    | _ => none
  | .c .nil, .c .nil => match P.underlying xT with
    | some (.slice _) => match op with
      | .eql => some (true, .c (.v (.bool true)))
      | .neq => some (true, .c (.v (.bool false)))
      | _ => none
    | _ => none
  | .c .np, .c .np => match P.underlying xT with
    | some (.pointer _) => match op with
      | .eql => some (true, .c (.v (.bool true)))
      | .neq => some (true, .c (.v (.bool false)))
      | _ => none
    | _ => none
  | .c (.box _ _ _), .c .np => match P.underlying xT with
    | some (.pointer _) => match op with
      | .eql => some (true, .c (.v (.bool false)))
      | .neq => some (true, .c (.v (.bool true)))
      | _ => none
    | _ => none
  | .rel _ _ _ _ _, .c .np => match P.underlying xT with
    | some (.pointer _) => match op with
      | .eql => some (true, .c (.v (.bool false)))
      | .neq => some (true, .c (.v (.bool true)))
      | _ => none
    | _ => none
  | .agg a, .agg b => if (eqs.contains xT && kindsC P (P.fieldsOf xT).toList a) && sizeT P xT == some a.length then (match op with
      | .eql => (eqCells a b).map fun r => (true, .c (.v (.bool r)))
      | .neq => (eqCells a b).map fun r => (true, .c (.v (.bool (!r))))
      | _ => none) else none
  | _, _ => none
def nilI : Operand → Bool
  | .const v => match v with
    | .nilIface => true
    | _ => false
  | _ => false
def vNi {T : TypeId → Type} (op : BinOp) (xT : TypeId) : AV T → Option (Bool × AV T)
  | .c .ni => match P.underlying xT with
    | some (.interface _) => match op with
      | .eql => some (true, .c (.v (.bool true)))
      | .neq => some (true, .c (.v (.bool false)))
      | _ => none
    | _ => none
  | _ => none
def bnum {T : TypeId → Type} : List (PV T) → Int
  | [] => 0
  | p :: _ => match p with
    | .int _ n => n
    | _ => 0
def bstrE (e : TypeId) (l : List (Θ.T e)) : ByteArray := strOfNums (l.map fun y => bnum (Θ.enc e y))
def isByte (e : TypeId) : Bool := match (Θ.E e).leaves with
  | [] => false
  | l :: r => (match l with
    | .int k => decide (k = .u8)
    | _ => false) && r.isEmpty
def byteIn {T : TypeId → Type} {A : Type} (E : Enc T A) (n : Int) : A := match HT.get (fun (l : Leaf) (p : PV T) => l.get p) E.leaves [.int .u8 n] with
  | some x => E.of x
  | none => E.dft
def byteOf (e : TypeId) (n : Int) : Θ.T e := byteIn (Θ.E e) n
def bytesL (e : TypeId) (b : ByteArray) : List (Θ.T e) := b.data.toList.map fun c => byteOf Θ e (c.toNat : Int)
def vConv (src dst : TypeId) : AV Θ.T → Option (Bool × AV Θ.T)
  | .c (.v (.int _ n)) => match P.underlying src, P.underlying dst with
    | some _, some (.int k) => some (true, .c (.v (.int k (wr k n))))
    | _, _ => none
  | .c (.v (.str t)) => match P.underlying src, P.underlying dst with
    | some _, some .string => some (true, .c (.v (.str t)))
    | _, _ => none
  | .c (.v (.sl e l)) => match P.underlying src, P.underlying dst with
    | some (.slice e'), some .string => (match P.underlying e' with
      | some (.int .u8) => if e' = e ∧ isByte Θ e = true then some (true, .c (.v (.str (bstrE Θ e l)))) else none
      | _ => none)
    | _, _ => none
  | _ => none
def vExtract {T : TypeId → Type} (i : Nat) : AV T → Option (Bool × AV T)
  | .tup l => match l[i]? with
    | some (.inl c) => some (true, .c c)
    | some (.inr cs) => some (true, .agg cs)
    | none => none
  | _ => none
def vNil {T : TypeId → Type} : AV T → Option (Bool × AV T)
  | .c (.box k g off) => some (true, .c (.box k g off))
  | .cel xs => some (true, .cel xs)
  | .rel r g i sz off => some (true, .rel r g i sz off)
  | _ => none
def vFieldAddr {T : TypeId → Type} (t : TypeId) (f : Nat) (x : AV T) : Option (Bool × AV T) := match fieldOff P t f with
  | some (off, _, _) => (moved off x).map fun v => (true, v)
  | none => none
def vField {T : TypeId → Type} (t : TypeId) (f : Nat) : AV T → Option (Bool × AV T)
  | .agg cs => match fieldOff P t f with
    | some (off, ft, n) => if off + n ≤ cs.length then (ofCells P ft ((cs.drop off).take n)).map fun v => (true, v) else none
    | none => none
  | _ => none
def vLoad (s : St Θ.T) (t : TypeId) (x : AV Θ.T) : Option (Bool × AV Θ.T) := match sizeT P t with
  | some n => match s.cellsAt Θ x with
    | some cs => if n ≤ cs.length then (ofCells P t (cs.take n)).map fun v => (true, v) else none
    | none => none
  | none => none
def vIndexAddr (s : St Θ.T) (t : TypeId) (x : AV Θ.T) : AV Θ.T → Option (Bool × AV Θ.T)
  | .c (.v (.int _ j)) => match P.underlying t with
    | some (.slice e) => if sizeT P e = some (Θ.sz e) then (match x with
      | .c (.v (.sl e' l)) => if e = e' then some (inB j l.length, .cel (Θ.enc e' (elAt Θ e' l j))) else none
      | .c (.row r g) => match look s.rows r with
        | some R => if R.gen = g then (if e = R.e ∧ slE e = true then some (inB j R.l.length, .rel r g j (Θ.sz R.e) 0) else none) else none
        | none => none
      | _ => none) else none
    | some (.array n e) => match sizeT P e with
      | some z => match x with
        | .c (.box k g off) => some (inB j n, .c (.box k g (off + j.toNat * z)))
        | _ => none
      | none => none
    | _ => none
  | _ => none
def vIndex (t : TypeId) (x : AV Θ.T) : AV Θ.T → Option (Bool × AV Θ.T)
  | .c (.v (.int _ j)) => match P.underlying t with
    | some .string => match x with
      | .c (.v (.str b)) => some (inB j b.size, .c (.v (.int .u8 (byteAt b j))))
      | _ => none
    | _ => none
  | _ => none
def vBound {T : TypeId → Type} (s : St T) : Option Operand → Option (Option Int)
  | none => some none
  | some x => match s.ev x with
    | .c (.v (.int _ n)) => some (some n)
    | _ => none
def cutOk (lo hi : Option Int) (n : Nat) : Bool := match lo, hi with
  | none, none => true
  | some l, none => decide (0 ≤ l) && decide (l ≤ (n : Int))
  | none, some h => decide (0 ≤ h) && decide (h ≤ (n : Int))
  | some l, some h => decide (0 ≤ l) && decide (l ≤ h) && decide (h ≤ (n : Int))
def cutStr (lo hi : Option Int) (b : ByteArray) : ByteArray := match lo, hi with
  | none, none => b
  | some l, none => cut b l b.size
  | none, some h => cut b 0 h
  | some l, some h => cut b l h
def cutList {A : Type} (lo hi : Option Int) (a : List A) : List A := match lo, hi with
  | none, none => a
  | some l, none => a.drop l.toNat
  | none, some h => a.take h.toNat
  | some l, some h => (a.take h.toNat).drop l.toNat
def vSlice (s : St Θ.T) (t : TypeId) (x : AV Θ.T) (lo hi mx : Option Operand) : Option (Bool × AV Θ.T) := match mx with
  | some _ => none
  | none => match vBound s lo, vBound s hi with
    | some l, some h => match P.underlying t with
      | some .string => match x with
        | .c (.v (.str b)) => some (cutOk l h b.size, .c (.v (.str (cutStr l h b))))
        | _ => none
      | some (.slice e) => if sizeT P e = some (Θ.sz e) then (match x with
        | .c (.v (.sl e' a)) => if e = e' then some (cutOk l h a.length, .c (.v (.sl e' (cutList l h a)))) else none
        | _ => none) else none
      | _ => none
    | _, _ => none
def capsOf {T : TypeId → Type} (s : St T) : List Operand → Option (List (Nat × Nat))
  | [] => some []
  | x :: r => match s.ev x with
    | .c (.box k g 0) => match capsOf s r with
      | some l => some ((k, g) :: l)
      | none => none
    | _ => none
def sumsOf {T : TypeId → Type} (s : St T) : List Operand → Option (List (CV T ⊕ List (CV T)))
  | [] => some []
  | x :: r => match s.ev x with
    | .c c => match sumsOf s r with
      | some l => some (.inl c :: l)
      | none => none
    | .agg cs => match sumsOf s r with
      | some l => some (.inr cs :: l)
      | none => none
    | _ => none
def vFunc {T : TypeId → Type} (s : St T) (fn : Fn) (first caps : Array Operand) : Option (Bool × AV T) := match fn with
  | .func f => match first.toList with
    | [] => match capsOf s caps.toList with
      | some l => some (true, .c (.fn f l))
      | none => none
    | _ :: _ => match caps.toList with
      | [] => match sumsOf s first.toList with
        | some l => some (true, .mth f l)
        | none => none
      | _ :: _ => none
  | _ => none
def constCells {T : TypeId → Type} : List Value → Option (List (CV T))
  | [] => some []
  | v :: r => match cvConst v, constCells r with
    | some c, some l => some (c :: l)
    | _, _ => none
def fillParts {T : TypeId → Type} (s : St T) (t : TypeId) : List (Nat × Operand) → List (CV T) → Option (List (CV T))
  | [], cs => some cs
  | (f, x) :: r, cs => match fieldOff P t f with
    | some (off, _, n) => match cellsOfAV (s.ev x) with
      | some vs => if vs.length = n ∧ off + n ≤ cs.length then fillParts s t r (cs.take off ++ vs ++ cs.drop (off + n)) else none
      | none => none
    | none => none
def zeroCells {T : TypeId → Type} (t : TypeId) : Option (List (CV T)) := match P.info? t with
  | some i => match i.zero with
    | some z => constCells z.cells.toList
    | none => none
  | none => none
def structOk (t : TypeId) : Bool := match P.underlying t with
  | some (.struct fs) => fs.toList.all fun d => (P.info? d.type).isSome
  | _ => false
def vBuild {T : TypeId → Type} (s : St T) (t : TypeId) (parts : Array (Nat × Operand)) : Option (Bool × AV T) := if structOk P t then (match zeroCells P t with
  | some zs => match fillParts P s t parts.toList zs with
    | some cs => some (true, .agg cs)
    | none => none
  | none => none) else none
def vLen (s : St Θ.T) (t : TypeId) : AV Θ.T → Option (Bool × AV Θ.T)
  | .c (.v (.str b)) => match P.underlying t with
    | some .string => some (true, .c (.v (.int .i64 b.size)))
    | _ => none
  | .c .nil => match P.underlying t with
    | some (.slice _) => some (true, .c (.v (.int .i64 0)))
    | _ => none
  | .c (.v (.sl _ l)) => match P.underlying t with
    | some (.slice _) => some (true, .c (.v (.int .i64 l.length)))
    | _ => none
  | .c (.row r g) => match P.underlying t with
    | some (.slice _) => match look s.rows r with
      | some R => if R.gen = g ∧ slE R.e = true then some (true, .c (.v (.int .i64 R.l.length))) else none
      | none => none
    | _ => none
  | _ => none
def mapE (t et : TypeId) : Option TypeId := match isAggT P et with
  | some true => some (pin + 2 * t + 1)
  | some false => some (pin + 2 * t)
  | none => none
def mkey (e : TypeId) (x : Θ.T e) : ByteArray := match Θ.enc e x with
  | .str s :: _ => s
  | _ => ⟨#[]⟩
def findP {A : Type} (p : A → Bool) (d : A) : List A → A
  | [] => d
  | x :: l => cond (p x) x (findP p d l)
def hasP {A : Type} (p : A → Bool) : List A → Bool
  | [] => false
  | x :: l => cond (p x) true (hasP p l)
def putP {A : Type} (p : A → Bool) (y : A) : List A → List A
  | [] => [y]
  | x :: l => cond (p x) (y :: l) (x :: putP p y l)
def aggV : Value → Bool
  | .agg _ => true
  | _ => false
def sumOf {T : TypeId → Type} : AV T → Option (CV T ⊕ List (CV T))
  | .c x => some (.inl x)
  | .agg cs => some (.inr cs)
  | _ => none
def vLookup (s : St Θ.T) (t : TypeId) (x : AV Θ.T) (ok : Bool) : AV Θ.T → Option (Bool × AV Θ.T)
  | .c (.v (.str k)) => match P.underlying t with
    | some (.map kt et) => match P.underlying kt with
      | some .string => match x with
        | .c (.row r g) => match look s.rows r with
          | some R => if R.gen = g ∧ mapE P t et = some R.e then (match P.info? et with
            | some i => (match i.zero with
              | some zv => if aggV zv = aggV' P et then (match constCells zv.cells.toList with
                | some zs => if zs.length + 1 = Θ.sz R.e ∧ zs.all plainC then (match s.elemOf Θ R.e (.v (.str k) :: zs) with
                  | some z => (match ofCells P et (((Θ.enc R.e (findP (fun x => strEq (mkey Θ R.e x) k) z R.l)).drop 1).map .v) with
                    | some v => if ok then (match sumOf v with
                      | some q => some (true, .tup [q, .inl (.v (.bool (hasP (fun x => strEq (mkey Θ R.e x) k) R.l)))])
                      | none => none) else some (true, v)
                    | none => none)
                  | none => none) else none
                | none => none) else none
              | none => none)
            | none => none) else none
          | none => none
        | _ => none
      | _ => none
    | _ => none
  | _ => none
def vBest {T : TypeId → Type} (f : Int → Int → Int) : List (AV T) → Option (Bool × AV T)
  | [.c (.v (.int k a)), .c (.v (.int _ b))] => some (true, .c (.v (.int k (f a b))))
  | [.c (.v (.int k a)), .c (.v (.int _ b)), .c (.v (.int _ c))] => some (true, .c (.v (.int k (f (f a b) c))))
  | _ => none
def opV (eqs : List TypeId) (s : St Θ.T) (op : Op) : Option (Bool × AV Θ.T) := match op with
  | .move x => some (true, s.ev x)
  | .assign x => some (true, s.ev x)
  | .unOp op _ x => vUn op (s.ev x)
  | .binOp op xT x y _ => if nilI y = true then vNi P op xT (s.ev x) else vBin P Θ eqs op xT (s.ev x) (s.ev y)
  | .convert src dst x => vConv P Θ src dst (s.ev x)
  | .extract x i => vExtract i (s.ev x)
  | .nilCheck x => vNil (s.ev x)
  | .fieldAddr t x f => vFieldAddr P t f (s.ev x)
  | .field t x f => vField P t f (s.ev x)
  | .load t x => vLoad P Θ s t (s.ev x)
  | .indexAddr t x i => vIndexAddr P Θ s t (s.ev x) (s.ev i)
  | .index t x i => vIndex P Θ t (s.ev x) (s.ev i)
  | .slice t x lo hi mx => vSlice P Θ s t (s.ev x) lo hi mx
  | .makeFunc fn first caps => vFunc s fn first caps
  | .lookup t x i ok => vLookup P Θ s t (s.ev x) ok (s.ev i)
  | .build t parts => vBuild P s t parts
  | .call c => match c.callee with
    | .builtin .len => match c.args.toList, c.argTypes.toList with
      | [x], t :: _ => vLen P Θ s t (s.ev x)
      | _, _ => none
    | .builtin .max => vBest mx (c.args.toList.map s.ev)
    | .builtin .min => vBest mn (c.args.toList.map s.ev)
    | _ => none
  | _ => none
end
end Go.Den
namespace Go.Den
open Go Go.RowKit
structure Env where
  w0 : World
  Z : Nat → Prop
  F : Nat → Prop
  PB : Nat → Nat → Prop
  PR : Nat → Value → Prop
  D : List Deferred
def Env.Own (E : Env) (b : Nat) : Prop := E.Z b ∨ E.w0.heap.size ≤ b
structure Keeps (E : Env) (W : World) : Prop where
  os : W.os = E.w0.os
  tape : W.tape = E.w0.tape
  output : W.output = E.w0.output
  size : E.w0.heap.size ≤ W.heap.size
  block : ∀ k, k < E.w0.heap.size → ¬ E.Z k → W.heap[k]? = E.w0.heap[k]?
theorem Keeps.grown {E : Env} {W W' : World} {row : Option Nat} (h : Keeps E W) (hg : W.grownBy W' row) (hr : ∀ k, row = some k → E.Own k) : Keeps E W' :=
  ⟨hg.os.trans h.os, hg.tape.trans h.tape, hg.output.trans h.output, Nat.le_trans h.size hg.size, fun k hk hz => (hg.block k (Nat.lt_of_lt_of_le hk h.size) (fun e => by
    rcases hr k e.symm with h' | h'
    · exact hz h'
    · omega)).trans (h.block k hk hz)⟩
theorem Keeps.alloc {E : Env} {W : World} (h : Keeps E W) (o : Obj) : Keeps E (W.alloc o) := h.grown (World.grownBy_alloc W o none) (fun k e => by cases e)
theorem Env.own_new {E : Env} {W : World} (h : Keeps E W) {b : Nat} (hb : W.heap.size ≤ b) : E.Own b := .inr (Nat.le_trans h.size hb)
def ob : Value → Option Nat
  | .slice (some a) _ c => if c = 0 then none else some a.block
  | .map (some b) => some b
  | _ => none
def entCells (m : MapEntry) : List Value := m.key :: m.val.cells.toList
def MapIs (W : World) (e sz : Nat) (v : Value) (n : Nat) (xs : List Value) : Prop :=
  ∃ b es ck, v = .map (some b) ∧ W.heap[b]? = some (.map es ck) ∧ es.size = n ∧ xs = es.toList.flatMap entCells ∧ ∀ m ∈ es.toList, m.val.cells.size + 1 = sz ∧ (if e % 2 = 1 then m.val = .agg m.val.cells else m.val.cells = #[m.val])
def OwnsT (W : World) (e sz : Nat) (v : Value) (n : Nat) (xs : List Value) : Prop :=
  (xs.length = n * sz ∧ 0 < n ∧ sz = 1 ∧ ∀ u ∈ xs, ∃ c, u = .int .u8 c) ∧ ∃ g cap cur fz, v = .slice (some ⟨g, 0, none⟩) n cap ∧ cap ≠ 0 ∧ W.heap[g]? = some (.cells cur e fz) ∧ cur.size ≤ fz.1 ∧ n ≤ cap ∧ cap ≤ maxLen ∧ cur.size = cap * sz ∧ cur.toList.take (n * sz) = xs
def OwnsS (W : World) (e sz : Nat) (v : Value) (n : Nat) (xs : List Value) : Prop := W.ownsRow 0 e sz v n xs ∨ (∃ ad, v = .slice (some ad) 0 0 ∧ n = 0 ∧ xs = []) ∨ OwnsT W e sz v n xs
def Owns (W : World) (e sz : Nat) (v : Value) (n : Nat) (xs : List Value) : Prop := (slE e = true ∧ OwnsS W e sz v n xs) ∨ (slE e = false ∧ MapIs W e sz v n xs)
section
variable {W W' : World} {e sz n : Nat} {v : Value} {xs : List Value}
theorem ob_of_own (h : W.ownsRow 0 e sz v n xs) {b : Nat} (hb : ob v = some b) : v.ownBlock = some b := by
  rcases h.2 with ⟨rfl, _⟩ | ⟨g, cap, cur, rfl, _⟩
  · cases hb
  · simp only [ob] at hb
    split at hb
    · cases hb
    · exact hb
theorem OwnsS.slice (h : OwnsS W e sz v n xs) : ∃ A n c, v = .slice A n c := by
  rcases h with h | ⟨ad, rfl, _⟩ | ⟨_, g, cap, cur, fz, rfl, _⟩
  · rcases h.2 with ⟨rfl, _⟩ | ⟨g, cap, cur, rfl, _⟩ <;> exact ⟨_, _, _, rfl⟩
  · exact ⟨_, _, _, rfl⟩
  · exact ⟨_, _, _, rfl⟩
theorem Owns.s (h : Owns W e sz v n xs) (he : slE e = true) : OwnsS W e sz v n xs := by
  rcases h with h | h
  · exact h.2
  · rw [he] at h; cases h.1
theorem Owns.sv (h : Owns W e sz v n xs) (hv : ∃ A m c, v = .slice A m c) : slE e = true ∧ OwnsS W e sz v n xs := by
  rcases h with h | ⟨_, b, es, ck, hb, _⟩
  · exact h
  · obtain ⟨A, m, c, hv⟩ := hv; rw [hv] at hb; cases hb
theorem Owns.lt (h : Owns W e sz v n xs) {b : Nat} (hb : ob v = some b) : b < W.heap.size := by
  rcases h with ⟨_, h | ⟨ad, rfl, _⟩ | ⟨_, g, cap, cur, fz, rfl, hc, hg, _⟩⟩ | ⟨_, b', es, ck, rfl, h, _⟩
  · exact (h.lt b (ob_of_own h hb)).2
  · simp [ob] at hb
  · simp only [ob, if_neg hc, Option.some.injEq] at hb; subst hb; exact (Array.getElem?_eq_some_iff.1 hg).1
  · simp only [ob, Option.some.injEq] at hb; subst hb; exact (Array.getElem?_eq_some_iff.1 h).1
theorem Owns.len (h : Owns W e sz v n xs) : xs.length = n * sz := by
  rcases h with ⟨_, h | ⟨ad, rfl, rfl, rfl⟩ | h⟩ | ⟨_, b', es, ck, rfl, h, hn, rfl, hs⟩
  · exact h.1
  · simp
  · exact h.1.1
  · subst hn
    rw [← Array.length_toList]
    generalize es.toList = l at hs
    induction l with
    | nil => simp
    | cons m l ih =>
      have h1 := (hs m (by simp)).1
      have h2 := ih fun m' hm => hs m' (by simp [hm])
      simp only [List.flatMap_cons, List.length_append, List.length_cons, entCells, Array.length_toList] at h2 ⊢
      rw [Nat.succ_mul]
      omega
theorem Owns.slice (h : Owns W e sz v n xs) : (∃ A n c, v = .slice A n c) ∨ ∃ b, v = .map b := by
  rcases h with ⟨_, h⟩ | ⟨_, b', es, ck, rfl, _⟩
  · exact .inl h.slice
  · exact .inr ⟨_, rfl⟩
theorem OwnsS.form (h : OwnsS W e sz v n xs) : (∃ A c, v = .slice A n c) ∧ (0 < n → ∃ b c, v = .slice (some ⟨b, 0, none⟩) n c ∧ n ≤ c) := by
  rcases h with h | ⟨ad, rfl, rfl, _⟩ | ⟨_, g, cap, cur, fz, rfl, _, _, _, hc, _⟩
  · rcases h.2 with ⟨rfl, rfl⟩ | ⟨g, cap, cur, rfl, _, _, hc, _⟩
    · exact ⟨⟨_, _, rfl⟩, fun h => by omega⟩
    · exact ⟨⟨_, _, rfl⟩, fun _ => ⟨_, _, rfl, hc⟩⟩
  · exact ⟨⟨_, _, rfl⟩, fun h => by omega⟩
  · exact ⟨⟨_, _, rfl⟩, fun _ => ⟨_, _, rfl, hc⟩⟩
theorem OwnsS.nil : OwnsS W e sz (.slice none 0 0) 0 [] := .inl (World.ownsRow_nil W _ _ _)
theorem Owns.nil (he : slE e = true) : Owns W e sz (.slice none 0 0) 0 [] := .inl ⟨he, OwnsS.nil⟩
theorem OwnsS.kept {row : Option Nat} (h : OwnsS W e sz v n xs) (hg : W.grownBy W' row) (hne : ob v = none ∨ ob v ≠ row) : OwnsS W' e sz v n xs := by
  rcases h with h | h | ⟨hl, g, cap, cur, fz, rfl, hc, hg2, hr⟩
  · have h0 := h
    rcases h.2 with ⟨rfl, _⟩ | ⟨g, cap, cur, rfl, _, _, hnc, _⟩
    · exact .inl (h0.kept hg (.inl rfl))
    · by_cases hc : cap = 0
      · have hn : n = 0 := by omega
        subst hn
        subst hc
        exact .inr (.inl ⟨_, rfl, rfl, List.eq_nil_of_length_eq_zero (by simpa using h0.1)⟩)
      · refine .inl (h0.kept hg (.inr fun e => ?_))
        rcases hne with h' | h'
        · simp [ob, hc] at h'
        · exact h' (by rw [← e]; simp [ob, hc, Value.ownBlock])
  · exact .inr (.inl h)
  · refine .inr (.inr ⟨hl, g, cap, cur, fz, rfl, hc, ?_, hr⟩)
    rw [hg.block g (Array.getElem?_eq_some_iff.1 hg2).1 (fun e => ?_)]
    · exact hg2
    · rcases hne with h' | h'
      · simp [ob, hc] at h'
      · exact h' (by rw [← e]; simp [ob, hc])
theorem Owns.kept {row : Option Nat} (h : Owns W e sz v n xs) (hg : W.grownBy W' row) (hne : ob v = none ∨ ob v ≠ row) : Owns W' e sz v n xs := by
  rcases h with ⟨he, h⟩ | ⟨he, b', es, ck, rfl, h, h2⟩
  · exact .inl ⟨he, h.kept hg hne⟩
  · refine .inr ⟨he, b', es, ck, rfl, ?_, h2⟩
    rw [hg.block b' (Array.getElem?_eq_some_iff.1 h).1 (fun e => ?_)]
    · exact h
    · rcases hne with h' | h'
      · cases h'
      · exact h' (by rw [← e]; rfl)
theorem Owns.alloc (h : Owns W e sz v n xs) (o : Obj) : Owns (W.alloc o) e sz v n xs := h.kept (World.grownBy_alloc W o none) (by cases ob v <;> simp)
theorem OwnsS.block (h : OwnsS W e sz v n xs) {ad : Addr} {m cap : Nat} (hv : v = .slice (some ad) m cap) (hc : cap ≠ 0) : m = n ∧ ad = ⟨ad.block, 0, none⟩ ∧ ob v = some ad.block ∧
    xs.length = n * sz ∧ ∃ cur fz, W.heap[ad.block]? = some (.cells cur e fz) ∧ (fz = (0, 0) ∨ (cur.size ≤ fz.1 ∧ 0 < n ∧ sz = 1 ∧ ∀ u ∈ xs, ∃ c, u = .int .u8 c)) ∧ n ≤ cap ∧ cap ≤ maxLen ∧ cur.size = cap * sz ∧ cur.toList.take (n * sz) = xs := by
  rcases h with h | ⟨ad', rfl, _⟩ | ⟨⟨hl, hq⟩, g, cap', cur, fz, rfl, _, hg, hf, hr⟩
  · have h0 := h
    rcases h.2 with ⟨rfl, _⟩ | ⟨g, cap', cur, rfl, _, hg, hr⟩
    · cases hv
    · cases hv; exact ⟨rfl, rfl, by simp [ob, hc], h0.1, cur, (0, 0), hg, .inl rfl, hr⟩
  · cases hv; exact absurd rfl hc
  · cases hv; exact ⟨rfl, rfl, by simp [ob, hc], hl, cur, fz, hg, .inr ⟨hf, hq⟩, hr⟩
theorem OwnsS.of_block {g cap : Nat} {cur : Array Value} {fz : Nat × Nat} (hv : v = .slice (some ⟨g, 0, none⟩) n cap) (hc : cap ≠ 0) (hl : xs.length = n * sz) (hg : W.heap[g]? = some (.cells cur e fz)) (hf : fz = (0, 0) ∨ (cur.size ≤ fz.1 ∧ 0 < n ∧ sz = 1 ∧ ∀ u ∈ xs, ∃ c, u = .int .u8 c))
    (hn : n ≤ cap) (hm : cap ≤ maxLen) (hs : cur.size = cap * sz) (ht : cur.toList.take (n * sz) = xs) : OwnsS W e sz v n xs := by
  rcases hf with rfl | hf
  · exact .inl ⟨hl, .inr ⟨g, cap, cur, hv, Nat.zero_le _, hg, hn, hm, hs, ht⟩⟩
  · exact .inr (.inr ⟨⟨hl, hf.2⟩, g, cap, cur, fz, hv, hc, hg, hf.1, hn, hm, hs, ht⟩)
theorem OwnsS.cells (h : OwnsS W e sz v n xs) {g m cap : Nat} (hv : v = .slice (some ⟨g, 0, none⟩) m cap) : ∀ j u, xs[j]? = some u → W.cell? ((⟨g, 0, none⟩ : Addr).add j) = some u := by
  rcases h with h | ⟨ad', rfl, rfl, rfl⟩ | ⟨hl, g', cap', cur, fz, rfl, _, hg, _, _, _, _, ht⟩
  · exact h.cells (g := g) (by rw [hv]; rfl)
  · intro j u h; simp at h
  · cases hv
    intro j u hj
    have hadd : (⟨g, 0, none⟩ : Addr).add j = ⟨g, j, none⟩ := by unfold Addr.add; split <;> simp_all
    rw [hadd]
    simp only [World.cell?, hg]
    rw [← ht, List.getElem?_take] at hj
    split at hj
    · simpa using hj
    · cases hj
theorem run_storeCells_mark {P : Program} (g o : Nat) (t : TypeId) (fz : Nat × Nat) : ∀ (vs : List Value) (i : Nat) (cur : Array Value) (w : World), w.heap[g]? = some (.cells cur t fz) → (fz = (0, 0) ∨ cur.size ≤ fz.1) → o + i + vs.length ≤ cur.size → (∀ v ∈ vs, v.oneCell' = true) →
    (storeCells ⟨g, o, none⟩ vs i).run P w = .ok () (w.setRow g (cur.toList.take (o + i) ++ vs ++ cur.toList.drop (o + i + vs.length)).toArray)
  | [], i, cur, w, hg, _, _, _ => by
    simp only [storeCells, List.append_nil, List.length_nil, Nat.add_zero, List.take_append_drop, Array.toArray_toList]
    rw [setRow_self w g cur t fz hg]
    rfl
  | v :: rest, i, cur, w, hg, hf, hl, h1 => by
    have hi : o + i < cur.size := by simp at hl; omega
    have hadd : (⟨g, o, none⟩ : Addr).add i = ⟨g, o + i, none⟩ := by unfold Addr.add; split <;> simp_all
    have hcell : w.cell? ⟨g, o + i, none⟩ = some cur[o + i] := by simp [World.cell?, hg, hi]
    have hfro : w.frozen? ⟨g, o + i, none⟩ = false := by
      rcases hf with rfl | hf
      · simp [World.frozen?, hg]
      · obtain ⟨lo, hi2⟩ := fz
        simp only at hf
        simp only [World.frozen?, hg, Bool.and_eq_false_iff, decide_eq_false_iff_not]
        left; omega
    have hst : (store ((⟨g, o, none⟩ : Addr).add i) v).run P w = .ok () (w.setRow g (cur.setIfInBounds (o + i) v)) := by
      rw [hadd, run_store P w _ v _ (h1 v (by simp)), hcell]
      simp [hfro, setCell_eq_setRow w g (o + i) cur t fz v hg]
    have ih := run_storeCells_mark (P := P) g o t fz rest (i + 1) (cur.setIfInBounds (o + i) v) (w.setRow g (cur.setIfInBounds (o + i) v)) (setRow_heap w g cur _ t _ hg) (by simpa using hf) (by simp at hl ⊢; omega) (fun x hx => h1 x (by simp [hx]))
    simp only [storeCells, Sem.run_bind, hst, Result.andThen_ok, ih, setRow_setRow]
    congr 3
    have e := list_seg_step cur.toList (o + i) v rest (by simp at hl ⊢; omega)
    simpa [Array.toList_setIfInBounds, Nat.add_assoc] using e
end
section rel
variable (Θ : Tab) (W : World) (F : Nat → Prop) (bx : Nat → Nat → Nat) (rw_ : Nat → Nat → Value)
def RCV : CV Θ.T → Value → Prop
  | .v x, u => Rep Θ W F u x
  | .nil, u => u = .slice none 0 0
  | .e0, u => ∃ A, u = .slice A 0 0
  | .np, u => u = .pointer none
  | .nm, u => u = .map none
  | .ni, u => u = .nilIface
  | .row r g, u => u = rw_ r g
  | .box k g off, u => u = .pointer (some ⟨bx k g, off, none⟩)
  | .fn f caps, u => u = .func (.func f) #[] (caps.map fun kg => Value.pointer (some ⟨bx kg.1 kg.2, 0, none⟩)).toArray
def RCs (l : List (CV Θ.T)) (u : Value) : Prop := ∃ us : List Value, u = .agg us.toArray ∧ All2 (RCV Θ W F bx rw_) l us
def RSum : CV Θ.T ⊕ List (CV Θ.T) → Value → Prop
  | .inl c, u => RCV Θ W F bx rw_ c u
  | .inr cs, u => RCs Θ W F bx rw_ cs u
def RKV : KV Θ.T → Value → Prop
  | .c x, u => RCV Θ W F bx rw_ x u
  | .agg cs, u => RCs Θ W F bx rw_ cs u
  | .cel xs, u => ∃ ad, u = .pointer (some ad) ∧ ad.spot = none ∧ (xs ≠ [] → F ad.block) ∧ ∀ j x, xs[j]? = some x → ∃ c, W.cell? (ad.add j) = some c ∧ Rep Θ W F c x
structure RRec (Θ : Tab) (W : World) (lb y : Nat) (R : Rng) (rec : Loop) : Prop where
  at_ : W.heap[lb]? = some (.loop rec)
  ready : rec.state = .ready
  pending : rec.pending = none
  tab : Θ.Y y = some R
  ps : rec.params = R.ps
  assign : rec.assign = R.assign
  body : rec.body = R.body
  size : rec.tmps.size = R.nt
def RAV : AV Θ.T → Value → Prop
  | .c x, u => RCV Θ W F bx rw_ x u
  | .agg cs, u => RCs Θ W F bx rw_ cs u
  | .tup l, u => ∃ us : List Value, u = .tuple us.toArray ∧ All2 (RSum Θ W F bx rw_) l us
  | .mth f l, u => ∃ us : List Value, u = .func (.func f) us.toArray #[] ∧ All2 (RSum Θ W F bx rw_) l us
  | .cel xs, u => ∃ ad, u = .pointer (some ad) ∧ ad.spot = none ∧ (xs ≠ [] → F ad.block) ∧ ∀ j x, xs[j]? = some x → ∃ c, W.cell? (ad.add j) = some c ∧ Rep Θ W F c x
  | .rel r g i sz off, u => ∃ b n cap, rw_ r g = .slice (some ⟨b, 0, none⟩) n cap ∧ 0 ≤ i ∧ i < (n : Int) ∧ u = .pointer (some ⟨b, i.toNat * sz + off, none⟩)
  | .yld y l, u => ∃ lb R rec, u = .func (.yield lb) #[] #[] ∧ F lb ∧ RRec Θ W lb y R rec ∧ All2 (RKV Θ W F bx rw_) l (R.live.map fun i => rec.tmps.getD i undef)
  | .nilq e, u => ∃ b, u = .bool b ∧ (e = false → b = false)
  | .skip, u => u = undef
  | .undef, _ => True
end rel
def pinned (r : Nat) : Bool := Nat.ble pin r && Nat.blt r (pin + pin)
theorem pin_le {r : Nat} (h : pinned r = true) : pin ≤ r := by
  simp only [pinned, Bool.and_eq_true, Nat.ble_eq] at h
  exact h.1
def Mut {T : TypeId → Type} (s : St T) (bx : Nat → Nat → Nat) (rw_ : Nat → Nat → Value) (b : Nat) : Prop :=
  (∃ k B, look s.boxes k = some B ∧ bx k B.gen = b) ∨ (∃ r R, look s.rows r = some R ∧ ob (rw_ r R.gen) = some b)
def FF {T : TypeId → Type} (E : Env) (s : St T) (bx : Nat → Nat → Nat) (rw_ : Nat → Nat → Value) (W : World) (b : Nat) : Prop :=
  (E.F b ∨ E.Own b) ∧ b < W.heap.size ∧ ¬ Mut s bx rw_ b
def Globs (Θ : Tab) (E : Env) : Prop := ∀ p ∈ Θ.G, p.1 < E.w0.heap.size ∧ ¬ E.Z p.1 ∧ ∀ j u, p.2[j]? = some u → E.w0.cell? ⟨p.1, j, none⟩ = some u
theorem Globs.move {Θ : Tab} {E E' : Env} {W : World} (h : Globs Θ E) (hb : Keeps E W) (hw : E'.w0 = W) (hz : ∀ b, E'.Z b → E.Own b) : Globs Θ E' := by
  intro p hp
  obtain ⟨h1, h2, h3⟩ := h p hp
  refine ⟨by rw [hw]; exact Nat.lt_of_lt_of_le h1 hb.size, fun hZ => ?_, fun j u hj => ?_⟩
  · rcases hz _ hZ with h' | h'
    · exact h2 h'
    · omega
  · rw [hw]
    exact (World.cell?_of_block (hb.block _ h1 h2)).trans (h3 j u hj)
structure Sim (Θ : Tab) (E : Env) (s : St Θ.T) (tm : Array Value) (W : World) (bx : Nat → Nat → Nat) (rw_ : Nat → Nat → Value) : Prop where
  below : Keeps E W
  glob : Globs Θ E
  pinB : ∀ k b, E.PB k b → pin ≤ k ∧ ∀ B, look s.boxes k = some B → B.gen = 0 → bx k 0 = b
  pinR : ∀ r v, E.PR r v → pinned r = true ∧ ∀ R, look s.rows r = some R → R.gen = 0 → rw_ r 0 = v
  rwsl : ∀ r g, (∃ A n c, rw_ r g = .slice A n c) ∨ ∃ b, rw_ r g = .map b
  boxes : ∀ k B, look s.boxes k = some B → E.Own (bx k B.gen) ∧ ∃ cs : List Value, W.heap[bx k B.gen]? = some (.cells cs.toArray B.ty (0, 0)) ∧ All2 (RCV Θ W (FF E s bx rw_ W) bx rw_) B.cells cs
  rows : ∀ r R, look s.rows r = some R → (∀ b, ob (rw_ r R.gen) = some b → E.Own b) ∧ ∃ us, Owns W R.e (Θ.sz R.e) (rw_ r R.gen) R.l.length us ∧ All2 (fun x u => Rep Θ W (FF E s bx rw_ W) u x) (R.l.flatMap (Θ.enc R.e)) us
  bb : ∀ k B k' B', look s.boxes k = some B → look s.boxes k' = some B' → bx k B.gen = bx k' B'.gen → k = k'
  rr : ∀ r R r' R' b, look s.rows r = some R → look s.rows r' = some R' → ob (rw_ r R.gen) = some b → ob (rw_ r' R'.gen) = some b → r = r'
  br : ∀ k B r R, look s.boxes k = some B → look s.rows r = some R → ob (rw_ r R.gen) ≠ some (bx k B.gen)
  len : s.slots.length = tm.size
  slots : ∀ i, RAV Θ W (FF E s bx rw_ W) bx rw_ (s.at_ i) (tm.getD i undef)
theorem wr_eq (k : IntKind) (n : Int) : wr k n = k.wrap n := by
  unfold wr
  split
  · exact (Go.IntWalk.i64_left n).symm
  · rfl
section
variable {Θ : Tab} {E : Env} {s : St Θ.T} {tm : Array Value} {W : World} {bx : Nat → Nat → Nat} {rw_ : Nat → Nat → Value}
theorem RCV.cells {F : Nat → Prop} {c : CV Θ.T} {u : Value} (hr : ∀ r g, (∃ A n c, rw_ r g = .slice A n c) ∨ ∃ b, rw_ r g = .map b) (h : RCV Θ W F bx rw_ c u) : u.cells = #[u] ∧ u.oneCell' = true := by
  cases c with
  | v x => exact ⟨Rep.cells h, Rep.one h⟩
  | nil => cases h; exact ⟨rfl, rfl⟩
  | e0 => obtain ⟨A, rfl⟩ := h; exact ⟨rfl, rfl⟩
  | np => cases h; exact ⟨rfl, rfl⟩
  | nm => cases h; exact ⟨rfl, rfl⟩
  | ni => cases h; exact ⟨rfl, rfl⟩
  | row r g => rcases hr r g with ⟨A, n, c, e⟩ | ⟨b, e⟩ <;> (have : u = rw_ r g := h; rw [this, e]; exact ⟨rfl, rfl⟩)
  | box k g off => cases h; exact ⟨rfl, rfl⟩
  | fn f caps => cases h; exact ⟨rfl, rfl⟩
theorem rcv_const {F : Nat → Prop} {v : Value} {c : CV Θ.T} (h : cvConst v = some c) : RCV Θ W F bx rw_ c v := by
  unfold cvConst at h
  split at h <;> try (cases h; done)
  · cases h; exact .int _ _
  · cases h; exact .bool _
  · cases h; exact .str _
  · cases h; rfl
  · cases h; rfl
  · cases h; rfl
  · cases h; rfl
theorem Sim.ev (h : Sim Θ E s tm W bx rw_) (a : Act) (ha : a.tmps = tm) (x : Operand) : RAV Θ W (FF E s bx rw_ W) bx rw_ (s.ev x) (a.eval x) := by
  cases x with
  | tmp t => simp only [St.ev, Act.eval, ha]; exact h.slots t
  | const v =>
    simp only [St.ev, Act.eval]
    cases hc : cvConst (T := Θ.T) v with
    | none => exact trivial
    | some c => exact rcv_const hc
  | func f => simp [St.ev, Act.eval, RAV, RCV]
  | global g => exact trivial
end
def flatVal {T : TypeId → Type} : CV T → Value
  | .v (.int k n) => .int k n
  | .v (.bool b) => .bool b
  | .v (.str s) => .string s
  | _ => undef
def isFlat {T : TypeId → Type} : CV T → Bool
  | .v (.sl _ _) => false
  | .v _ => true
  | _ => false
section
variable {Θ : Tab} {P : Program} {F : Nat → Prop} {W : World} {bx : Nat → Nat → Nat} {rw_ : Nat → Nat → Value}
theorem rcv_flat {c : CV Θ.T} (h : isFlat c = true) : RCV Θ W F bx rw_ c (flatVal c) := by
  cases c with
  | v x => cases x <;> first | (simp [isFlat] at h; done) | constructor
  | _ => simp [isFlat] at h
theorem run_int2 {op : BinOp} {t : TypeId} {x y : Operand} {k : IntKind} {a b : Int} {c : Bool} {v : CV Θ.T} (h : int2 op k a b = some (c, v)) (hc : c = true) :
    (do eqGuard op t x y (.int k a) (.int k b); binOp op t (.int k a) (.int k b) : Sem Value).run P W = .ok (flatVal v) W ∧ isFlat v = true := by
  subst hc
  cases op <;> simp only [int2] at h <;> first | (cases h; done) | skip
  case quo =>
    simp only [Option.some.injEq, Prod.mk.injEq, Bool.not_eq_true', beq_eq_false_iff_ne, ne_eq] at h
    obtain ⟨h0, rfl⟩ := h
    exact ⟨by simp [eqGuard, binOp, Op.intDiv, h0, flatVal, wr_eq], rfl⟩
  case rem =>
    simp only [Option.some.injEq, Prod.mk.injEq, Bool.not_eq_true', beq_eq_false_iff_ne, ne_eq] at h
    obtain ⟨h0, rfl⟩ := h
    exact ⟨by simp [eqGuard, binOp, Op.intDiv, h0, flatVal], rfl⟩
  all_goals
    simp only [Option.some.injEq, Prod.mk.injEq, true_and] at h
    subst h
    exact ⟨by simp [eqGuard, binOp, Op.intArith, Op.intBits, Op.intCmp, flatVal, wr_eq, bits2], rfl⟩
theorem run_shift2 {op : BinOp} {t : TypeId} {x y : Operand} {k k' : IntKind} {a b : Int} {c : Bool} {v : CV Θ.T} (h : shift2 op k a b = some (c, v)) (hc : c = true) :
    (do eqGuard op t x y (.int k a) (.int k' b); binOp op t (.int k a) (.int k' b) : Sem Value).run P W = .ok (flatVal v) W ∧ isFlat v = true := by
  subst hc
  cases op <;> simp only [shift2] at h <;> first | (cases h; done) | skip
  all_goals
    simp only [Option.some.injEq, Prod.mk.injEq, decide_eq_true_eq] at h
    obtain ⟨h0, rfl⟩ := h
    have h1 : ¬ b < 0 := by omega
    exact ⟨by simp [eqGuard, binOp, Op.shift, h1, flatVal, shl, shr, wr_eq], rfl⟩
theorem run_str2 {op : BinOp} {t : TypeId} {x y : Operand} {a b : ByteArray} {c : Bool} {v : CV Θ.T} (h : str2 op a b = some (c, v)) (hc : c = true) :
    (do eqGuard op t x y (.string a) (.string b); binOp op t (.string a) (.string b) : Sem Value).run P W = .ok (flatVal v) W ∧ isFlat v = true := by
  subst hc
  cases op <;> simp only [str2] at h <;> first | (cases h; done) | skip
  case add =>
    simp only [Option.some.injEq, Prod.mk.injEq, strFit, Nat.ble_eq] at h
    obtain ⟨h0, rfl⟩ := h
    have h1 : ¬ (9223372036854775807 < (a.size : Int) + b.size) := by omega
    exact ⟨by simp [eqGuard, binOp, Op.stringOp, IntKind.max, IntKind.signed, IntKind.bits, h1, flatVal], rfl⟩
  all_goals
    simp only [Option.some.injEq, Prod.mk.injEq, true_and] at h
    subst h
    exact ⟨by simp [eqGuard, binOp, Op.stringOp, flatVal, strEq, strLt], rfl⟩
end
def eqVals : List Value → List Value → Option Bool
  | [], [] => some true
  | .int k a :: r, .int k' b :: r' => if k = k' then (eqVals r r').map ((a == b) && ·) else none
  | .bool a :: r, .bool b :: r' => (eqVals r r').map ((a == b) && ·)
  | .string a :: r, .string b :: r' => (eqVals r r').map (strEq a b && ·)
  | _, _ => none
def kindV (P : Program) (ft : TypeId) : Value → Bool
  | .int _ _ => match P.underlying ft with
    | some (.int _) => true
    | _ => false
  | .bool _ => match P.underlying ft with
    | some .bool => true
    | _ => false
  | .string _ => match P.underlying ft with
    | some .string => true
    | _ => false
  | _ => false
def kindsV (P : Program) : List Field → List Value → Bool
  | [], [] => true
  | f :: fs, c :: cs => kindV P f.type c && kindsV P fs cs
  | _, _ => false
structure EqT (P : Program) (t : TypeId) : Prop where
  eql : ∀ (us vs : List Value) (r : Bool) (x y : Operand) (W : World), (P.info? t).map (·.size) = some us.length → kindsV P (P.fieldsOf t).toList us = true → eqVals us vs = some r →
    (do eqGuard .eql t x y (.agg us.toArray) (.agg vs.toArray); binOp .eql t (.agg us.toArray) (.agg vs.toArray) : Sem Value).run P W = .ok (.bool r) W
  neq : ∀ (us vs : List Value) (r : Bool) (x y : Operand) (W : World), (P.info? t).map (·.size) = some us.length → kindsV P (P.fieldsOf t).toList us = true → eqVals us vs = some r →
    (do eqGuard .neq t x y (.agg us.toArray) (.agg vs.toArray); binOp .neq t (.agg us.toArray) (.agg vs.toArray) : Sem Value).run P W = .ok (.bool (!r)) W
section
variable {Θ : Tab} {F : Nat → Prop} {W : World} {bx : Nat → Nat → Nat} {rw_ : Nat → Nat → Value}
theorem rcv_int {k : IntKind} {n : Int} {u : Value} (h : RCV Θ W F bx rw_ (.v (.int k n)) u) : u = .int k n := by cases h; rfl
theorem rcv_bool {b : Bool} {u : Value} (h : RCV Θ W F bx rw_ (.v (.bool b)) u) : u = .bool b := by cases h; rfl
theorem rcv_str {b : ByteArray} {u : Value} (h : RCV Θ W F bx rw_ (.v (.str b)) u) : u = .string b := by cases h; rfl
theorem kindsV_of {P : Program} : ∀ (fs : List Field) (a : List (CV Θ.T)) (us : List Value), kindsC P fs a = true → All2 (RCV Θ W F bx rw_) a us → kindsV P fs us = true := by
  intro fs
  induction fs with
  | nil =>
    intro a us h hu
    cases a with
    | nil => cases hu; rfl
    | cons x a => simp [kindsC] at h
  | cons f fs ih =>
    intro a us h hu
    cases a with
    | nil => simp [kindsC] at h
    | cons x a =>
      simp only [kindsC, Bool.and_eq_true] at h
      cases hu with | cons h1 t1 =>
      simp only [kindsV, Bool.and_eq_true]
      refine ⟨?_, ih _ _ h.2 t1⟩
      have hk := h.1
      cases x <;> simp only [kindC] at hk <;> try (cases hk; done)
      rename_i p
      cases p with
      | int k n => rw [rcv_int h1]; exact hk
      | bool b => rw [rcv_bool h1]; exact hk
      | str b => rw [rcv_str h1]; exact hk
      | sl e l => cases hk
theorem eqVals_of : ∀ (a b : List (CV Θ.T)) (r : Bool) (us vs : List Value), eqCells a b = some r → All2 (RCV Θ W F bx rw_) a us → All2 (RCV Θ W F bx rw_) b vs → eqVals us vs = some r := by
  intro a
  induction a with
  | nil =>
    intro b r us vs h hu hv
    cases b with
    | nil => cases hu; cases hv; exact h
    | cons y b => simp [eqCells] at h
  | cons x a ih =>
    intro b r us vs h hu hv
    cases b with
    | nil => simp [eqCells] at h
    | cons y b =>
      cases hu with | cons h1 t1 =>
      cases hv with | cons h2 t2 =>
      cases x <;> try (simp [eqCells] at h; done)
      cases y <;> try (simp [eqCells] at h; done)
      rename_i p q
      cases p <;> cases q <;> simp only [eqCells] at h <;> try (cases h; done)
      · rename_i k n k' n'
        split at h
        · rename_i hk
          cases he : eqCells a b with
          | none => simp [he] at h
          | some r' =>
            simp only [he, Option.map_some] at h
            rw [rcv_int h1, rcv_int h2]
            simp only [eqVals, hk, if_true, ih b r' _ _ he t1 t2, Option.map_some]
            exact h
        · cases h
      · cases he : eqCells a b with
        | none => simp [he] at h
        | some r' =>
          simp only [he, Option.map_some] at h
          rw [rcv_bool h1, rcv_bool h2]
          simp only [eqVals, ih b r' _ _ he t1 t2, Option.map_some]
          exact h
      · cases he : eqCells a b with
        | none => simp [he] at h
        | some r' =>
          simp only [he, Option.map_some] at h
          rw [rcv_str h1, rcv_str h2]
          simp only [eqVals, ih b r' _ _ he t1 t2, Option.map_some]
          exact h
end
theorem add_add {ad : Addr} (h : ad.spot = none) (n j : Nat) : (ad.add n).add j = ad.add (n + j) := by
  obtain ⟨b, o, sp⟩ := ad
  simp only at h
  subst h
  by_cases hn : n = 0
  · subst hn; simp [Addr.add]
  · by_cases hj : j = 0
    · subst hj; simp [Addr.add]
    · have hnj : ¬ (n + j = 0) := by omega
      simp [Addr.add, hn, hj, Nat.add_assoc]
theorem add_spot {ad : Addr} (h : ad.spot = none) (n : Nat) : (ad.add n).spot = none := by
  unfold Addr.add; split
  · exact h
  · rfl
theorem plain_add (b o n : Nat) : (⟨b, o, none⟩ : Addr).add n = ⟨b, o + n, none⟩ := by
  unfold Addr.add; split <;> simp_all
theorem flatMap_get {A B : Type} (f : A → List B) (sz : Nat) (hf : ∀ a, (f a).length = sz) : ∀ (l : List A) (i j : Nat) (a : A), l[i]? = some a → j < sz → (l.flatMap f)[i * sz + j]? = (f a)[j]? := by
  intro l
  induction l with
  | nil => intro i j a h; simp at h
  | cons x l ih =>
    intro i j a h hj
    cases i with
    | zero =>
      simp at h; subst h
      rw [List.flatMap_cons, List.getElem?_append_left (by rw [hf]; omega)]
      simp
    | succ i =>
      simp at h
      have := ih i j a h hj
      rw [List.flatMap_cons, List.getElem?_append_right (by rw [hf, Nat.succ_mul]; omega), hf]
      rw [show (i + 1) * sz + j - sz = i * sz + j by rw [Nat.succ_mul]; omega]
      exact this
theorem flatMap_length {A B : Type} (f : A → List B) (sz : Nat) (hf : ∀ a, (f a).length = sz) (l : List A) : (l.flatMap f).length = l.length * sz := by
  induction l with
  | nil => simp
  | cons x l ih => rw [List.flatMap_cons, List.length_append, hf, ih, List.length_cons, Nat.succ_mul]; omega
theorem elAt_get {Θ : Tab} {e : TypeId} {l : List (Θ.T e)} {i : Int} (h0 : 0 ≤ i) (h1 : i < (l.length : Int)) : l[i.toNat]? = some (elAt Θ e l i) := by
  have : i.toNat < l.length := by omega
  simp [elAt, atI, List.getElem?_eq_getElem this, List.getD_eq_getElem?_getD]
section
variable {Θ : Tab} {E : Env} {s : St Θ.T} {tm : Array Value} {W : World} {bx : Nat → Nat → Nat} {rw_ : Nat → Nat → Value} {P : Program}
theorem moved_ok {F : Nat → Prop} {n : Nat} {x v : AV Θ.T} {u : Value} (h : moved n x = some v) (hr : RAV Θ W F bx rw_ x u) :
    ∃ ad, u = .pointer (some ad) ∧ ad.spot = none ∧ RAV Θ W F bx rw_ v (.pointer (some (ad.add n))) := by
  unfold moved at h
  split at h <;> try (cases h; done)
  · rename_i k g off
    cases h
    cases hr
    exact ⟨_, rfl, rfl, by rw [plain_add]; rfl⟩
  · rename_i xs
    cases h
    obtain ⟨ad, rfl, hs, hf, hc⟩ := hr
    refine ⟨ad, rfl, hs, ad.add n, rfl, add_spot hs n, fun hne => by rw [Addr.add_block]; exact hf fun e => hne (by rw [e]; simp), fun j x hx => ?_⟩
    rw [add_add hs]
    exact hc (n + j) x (by simpa using hx)
  · rename_i r g i sz off
    cases h
    obtain ⟨b, m, cap, e1, h0, h1, rfl⟩ := hr
    exact ⟨_, rfl, rfl, b, m, cap, e1, h0, h1, by rw [plain_add, Nat.add_assoc]⟩
theorem cellsAt_ok (hS : Sim Θ E s tm W bx rw_) {x : AV Θ.T} {cs : List (CV Θ.T)} {u : Value} (h : s.cellsAt Θ x = some cs) (hr : RAV Θ W (FF E s bx rw_ W) bx rw_ x u) :
    ∃ ad us, u = .pointer (some ad) ∧ All2 (RCV Θ W (FF E s bx rw_ W) bx rw_) cs us ∧ ∀ j v, us[j]? = some v → W.cell? (ad.add j) = some v := by
  unfold St.cellsAt at h
  split at h <;> try (cases h; done)
  · rename_i k g off
    split at h <;> try (cases h; done)
    rename_i B hB
    split at h <;> try (cases h; done)
    rename_i hg
    cases h
    cases hr
    obtain ⟨_, cv, hh, ha⟩ := hS.boxes k B hB
    subst hg
    refine ⟨_, cv.drop off, rfl, ha.drop off, fun j v hj => ?_⟩
    rw [plain_add, cell_of_row W (bx k B.gen) (off + j) cv.toArray B.ty (0, 0) hh]
    simpa using hj
  · rename_i xs
    cases h
    obtain ⟨ad, rfl, hs, hf, hc⟩ := hr
    have key : ∀ (ys : List (PV Θ.T)) (n : Nat), (∀ j x, ys[j]? = some x → ∃ c, W.cell? (ad.add (n + j)) = some c ∧ Rep Θ W (FF E s bx rw_ W) c x) →
        ∃ us : List Value, All2 (fun y u => Rep Θ W (FF E s bx rw_ W) u y) ys us ∧ ∀ j v, us[j]? = some v → W.cell? (ad.add (n + j)) = some v := by
      intro ys
      induction ys with
      | nil => intro n _; exact ⟨[], .nil, fun j v hj => by simp at hj⟩
      | cons y ys ih =>
        intro n hy
        obtain ⟨c, hc1, hc2⟩ := hy 0 y (by simp)
        obtain ⟨us, h1, h2⟩ := ih (n + 1) (fun j x hx => by
          have := hy (j + 1) x (by simpa using hx)
          rwa [show n + (j + 1) = n + 1 + j by omega] at this)
        refine ⟨c :: us, .cons hc2 h1, fun j v hj => ?_⟩
        cases j with
        | zero => simp at hj; subst hj; exact hc1
        | succ j =>
          have := h2 j v (by simpa using hj)
          rwa [show n + 1 + j = n + (j + 1) by omega] at this
    obtain ⟨us, h1, h2⟩ := key xs 0 (fun j x hx => by simpa using hc j x hx)
    exact ⟨ad, us, rfl, All2.map_left h1, fun j v hj => by simpa using h2 j v hj⟩
  · rename_i r g i sz off
    split at h <;> try (cases h; done)
    rename_i R hR
    split at h <;> try (cases h; done)
    rename_i hg
    split at h <;> try (cases h; done)
    rename_i hz
    cases h
    subst hg
    subst hz
    obtain ⟨b, m, cap, e1, h0, h1, rfl⟩ := hr
    obtain ⟨_, us, hown0, ha⟩ := hS.rows r R hR
    have hown := (hown0.sv ⟨_, _, _, e1⟩).2
    have hm : m = R.l.length := by
      rcases hown with h | ⟨ad, hv, _⟩ | ⟨_, g', cap', cur, fz, hv, _⟩
      · rcases h.2 with ⟨hv, _⟩ | ⟨g', cap', cur, hv, _⟩
        · rw [e1] at hv; cases hv
        · rw [e1] at hv; cases hv; rfl
      · rw [e1] at hv; cases hv; simp only [Int.ofNat_zero] at h1; omega
      · rw [e1] at hv; cases hv; rfl
    subst hm
    have hgot := elAt_get (Θ := Θ) h0 h1
    have hus : us.length = R.l.length * Θ.sz R.e := hown0.len
    have hin : i.toNat < R.l.length := by omega
    have hle : (i.toNat + 1) * Θ.sz R.e ≤ R.l.length * Θ.sz R.e := Nat.mul_le_mul_right _ hin
    rw [Nat.succ_mul] at hle
    have hlen : (((Θ.enc R.e (elAt Θ R.e R.l i)).drop off).map (CV.v (T := Θ.T))).length = Θ.sz R.e - off := by simp [Θ.length_enc]
    refine ⟨_, ((us.drop (i.toNat * Θ.sz R.e)).take (Θ.sz R.e)).drop off, rfl, ?_, fun j v hj => ?_⟩
    · refine All2.map_left ?_
      refine All2.drop ?_ off
      refine All2.of_get ?_ (fun j x u' hx hu' => ?_)
      · rw [Θ.length_enc, List.length_take, List.length_drop, hus]; omega
      · have hj : j < Θ.sz R.e := by
          have := (List.getElem?_eq_some_iff.1 hx).1
          rwa [Θ.length_enc] at this
        have hfm := flatMap_get (Θ.enc R.e) (Θ.sz R.e) (Θ.length_enc R.e) R.l i.toNat j _ hgot hj
        rw [hx] at hfm
        obtain ⟨u2, hu2, hrep⟩ := ha.get _ hfm
        rw [List.getElem?_take, if_pos hj, List.getElem?_drop] at hu'
        rw [hu2] at hu'
        cases hu'
        exact hrep
    · rw [plain_add]
      rw [List.getElem?_drop, List.getElem?_take] at hj
      split at hj
      · rw [List.getElem?_drop] at hj
        have := hown.cells e1 (i.toNat * Θ.sz R.e + (off + j)) v hj
        rw [plain_add] at this
        rw [show i.toNat * Θ.sz R.e + off + j = 0 + (i.toNat * Θ.sz R.e + (off + j)) by omega]
        exact this
      · cases hj
end
end Go.Den
namespace Go.Den
open Go Go.RowKit
section
variable {Θ : Tab} {E : Env} {s : St Θ.T} {tm : Array Value} {W : World} {bx : Nat → Nat → Nat} {rw_ : Nat → Nat → Value} {P : Program}
theorem leaf_plain {F : Nat → Prop} {l : Leaf} {c : CV Θ.T} {u : Value} {x : l.Ty Θ.T} (hc : plainC c = true) (h : s.get l c = some x) (hr : RCV Θ W F bx rw_ c u) : Rep Θ W F u (l.mk x) := by
  cases c with
  | v p => simp only [St.get] at h; rw [← Leaf.get_mk h]; exact hr
  | nil =>
    simp only [St.get] at h
    split at h <;> try (cases h; done)
    cases h
    have e : u = .slice none 0 0 := hr
    rw [e]; exact Rep.nil _ _ _ _
  | e0 =>
    simp only [St.get] at h
    split at h <;> try (cases h; done)
    cases h
    obtain ⟨A, rfl⟩ := hr
    exact Rep.e0 _ _ _ _ _
  | _ => simp [plainC] at hc
theorem leaves_plain {F : Nat → Prop} : ∀ (ls : List Leaf) (cs : List (CV Θ.T)) (us : List Value) (x : HT (Leaf.Ty Θ.T) ls), cs.all plainC = true → HT.get s.get ls cs = some x → All2 (RCV Θ W F bx rw_) cs us →
    All2 (fun p u => Rep Θ W F u p) (HT.list Leaf.mk ls x) us := by
  intro ls
  induction ls with
  | nil =>
    intro cs us x _ h hr
    have := HT.get_len _ _ _ _ h
    cases cs with
    | nil => cases hr; exact .nil
    | cons c cs => simp at this
  | cons l ls ih =>
    intro cs us x hp h hr
    have hlen := HT.get_len _ _ _ _ h
    cases cs with
    | nil => simp at hlen
    | cons c cs =>
      cases hr with | cons h1 t1 =>
      simp only [List.all_cons, Bool.and_eq_true] at hp
      cases ls with
      | nil =>
        cases cs with
        | cons c2 cs => simp at hlen
        | nil =>
          rw [HT.get_one] at h
          cases t1
          exact .cons (leaf_plain hp.1 h h1) .nil
      | cons l2 ls =>
        rw [HT.get_cons] at h
        split at h <;> try (cases h; done)
        rename_i a ha
        split at h <;> try (cases h; done)
        rename_i xs hxs
        cases h
        exact .cons (leaf_plain hp.1 ha h1) (ih cs _ xs hp.2 hxs t1)
theorem elem_plain {F : Nat → Prop} {e : TypeId} {cs : List (CV Θ.T)} {us : List Value} {y : Θ.T e} (hp : cs.all plainC = true) (h : s.elemOf Θ e cs = some y) (hr : All2 (RCV Θ W F bx rw_) cs us) :
    All2 (fun p u => Rep Θ W F u p) (Θ.enc e y) us := by
  unfold St.elemOf at h
  cases hg : HT.get s.get (Θ.E e).leaves cs with
  | none => simp [hg] at h
  | some x =>
    simp [hg] at h
    subst h
    have := leaves_plain _ _ _ _ hp hg hr
    unfold Tab.enc
    rw [(Θ.E e).inv]
    exact this
theorem odd_pin (t : Nat) : (1000000 + 2 * t + 1) % 2 = 1 := by omega
theorem even_pin (t : Nat) : ¬ (1000000 + 2 * t) % 2 = 1 := by omega
theorem mapE_spec {t et e : TypeId} (h : mapE P t et = some e) : slE e = false ∧ (e % 2 = 1 ↔ aggV' P et = true) := by
  unfold mapE at h
  unfold aggV'
  split at h <;> rename_i ha <;> try (cases h; done)
  · cases h
    rw [ha]
    refine ⟨?_, ⟨fun _ => rfl, fun _ => odd_pin t⟩⟩
    simp only [slE, pin]
    cases hb : Nat.blt (1000000 + 2 * t + 1) 1000000 with
    | false => rfl
    | true => rw [Nat.blt_eq] at hb; omega
  · cases h
    rw [ha]
    refine ⟨?_, ⟨fun h => absurd h (even_pin t), fun h => by cases h⟩⟩
    simp only [slE, pin]
    cases hb : Nat.blt (1000000 + 2 * t) 1000000 with
    | false => rfl
    | true => rw [Nat.blt_eq] at hb; omega
theorem strEq_iff (a b : ByteArray) : strEq a b = true ↔ a = b := by
  unfold strEq
  constructor
  · intro h
    have h1 : a.toList = b.toList := by simpa using h
    have h2 : a.data.toList = b.data.toList := by
      have e : ∀ x : ByteArray, x.toList = x.data.toList := fun x => ByteArray.toList_eq x
      rw [e, e] at h1; exact h1
    cases a; cases b
    congr 1
    exact Array.ext' h2
  · rintro rfl; simp
def EntR (Θ : Tab) (W : World) (F : Nat → Prop) (e : TypeId) (x : Θ.T e) (m : MapEntry) : Prop := All2 (fun p u => Rep Θ W F u p) (Θ.enc e x) (entCells m)
theorem ents_of {F : Nat → Prop} {e : TypeId} : ∀ (l : List (Θ.T e)) (es : List MapEntry), l.length = es.length → (∀ m ∈ es, m.val.cells.size + 1 = Θ.sz e) → All2 (fun p u => Rep Θ W F u p) (l.flatMap (Θ.enc e)) (es.flatMap entCells) → All2 (EntR Θ W F e) l es := by
  intro l
  induction l with
  | nil => intro es h _ _; cases es with | nil => exact .nil | cons _ _ => simp at h
  | cons x l ih =>
    intro es h hs ha
    cases es with
    | nil => simp at h
    | cons m es =>
      simp only [List.flatMap_cons] at ha
      have hl : (entCells m).length = (Θ.enc e x).length := by
        rw [Θ.length_enc]; have := hs m (by simp); simp only [entCells, List.length_cons, Array.length_toList]; exact this
      have h1 := ha.take (Θ.enc e x).length
      have h2 := ha.drop (Θ.enc e x).length
      rw [List.take_left, ← hl, List.take_left] at h1
      rw [List.drop_left, ← hl, List.drop_left] at h2
      exact .cons h1 (ih es (by simpa using h) (fun m' hm => hs m' (by simp [hm])) h2)
theorem ents_to {F : Nat → Prop} {e : TypeId} : ∀ (l : List (Θ.T e)) (es : List MapEntry), All2 (EntR Θ W F e) l es → All2 (fun p u => Rep Θ W F u p) (l.flatMap (Θ.enc e)) (es.flatMap entCells) := by
  intro l es h
  induction h with
  | nil => exact .nil
  | cons h _ ih => simp only [List.flatMap_cons]; exact All2.append h ih
theorem rep_str {F : Nat → Prop} {u : Value} {k : ByteArray} (h : Rep Θ W F u (.str k)) : u = .string k := by cases h; rfl
theorem entR_key {F : Nat → Prop} {e : TypeId} {x : Θ.T e} {m : MapEntry} (hk : (Θ.E e).leaves.head? = some .str) (h : EntR Θ W F e x m) : m.key = .string (mkey Θ e x) := by
  unfold EntR at h
  unfold mkey
  unfold Tab.enc at h ⊢
  revert h
  generalize (Θ.E e).to x = y
  generalize hL : (Θ.E e).leaves = L at hk y
  intro h
  cases L with
  | nil => simp at hk
  | cons a L =>
    simp only [List.head?_cons, Option.some.injEq] at hk
    subst hk
    cases L with
    | nil =>
      simp only [HT.list, Leaf.mk] at h ⊢
      cases h with | cons h1 _ => exact rep_str h1
    | cons b L =>
      simp only [HT.list, Leaf.mk] at h ⊢
      cases h with | cons h1 _ => exact rep_str h1
theorem find_spec {F : Nat → Prop} {e : TypeId} (hk : (Θ.E e).leaves.head? = some .str) (k : ByteArray) (d : Θ.T e) : ∀ (l : List (Θ.T e)) (es : List MapEntry) (i : Nat), All2 (EntR Θ W F e) l es →
    (Instr.findNow .string (.string k) es i = some none ∧ findP (fun x => strEq (mkey Θ e x) k) d l = d ∧ hasP (fun x => strEq (mkey Θ e x) k) l = false ∧ ∀ y, putP (fun x => strEq (mkey Θ e x) k) y l = l ++ [y]) ∨
    ∃ j x m, Instr.findNow .string (.string k) es i = some (some (i + j, m.val)) ∧ l[j]? = some x ∧ es[j]? = some m ∧ m.key = .string k ∧ EntR Θ W F e x m ∧ findP (fun x => strEq (mkey Θ e x) k) d l = x ∧ hasP (fun x => strEq (mkey Θ e x) k) l = true ∧ ∀ y, putP (fun x => strEq (mkey Θ e x) k) y l = l.set j y := by
  intro l es i h
  induction h generalizing i with
  | nil => exact .inl ⟨rfl, rfl, rfl, fun _ => rfl⟩
  | cons h t ih =>
    rename_i x m l es
    have hkey := entR_key hk h
    have hsn : Instr.sameNow .string (.string k) m.key = some (k == mkey Θ e x) := by rw [hkey]; rfl
    cases hq : (k == mkey Θ e x) with
    | true =>
      have he : k = mkey Θ e x := (MapKept.bytes_beq _ _).1 hq
      have hs : strEq (mkey Θ e x) k = true := (strEq_iff _ _).2 he.symm
      refine .inr ⟨0, x, m, by simp [Instr.findNow, hsn, hq], by simp, by simp, by rw [hkey, he], h, by simp [findP, hs], by simp [hasP, hs], fun y => by simp [putP, hs]⟩
    | false =>
      have hs : strEq (mkey Θ e x) k = false := by
        cases hs : strEq (mkey Θ e x) k with
        | false => rfl
        | true => have := (strEq_iff _ _).1 hs; rw [this] at hq; have h2 := (MapKept.bytes_beq k k).2 rfl; rw [h2] at hq; cases hq
      rcases ih (i + 1) with ⟨h1, h2, h3, h4⟩ | ⟨j, x', m', h1, h2, h3, h4, h5, h6, h7, h8⟩
      · exact .inl ⟨by simp [Instr.findNow, hsn, hq, h1], by simp [findP, hs, h2], by simp [hasP, hs, h3], fun y => by simp [putP, hs, h4]⟩
      · exact .inr ⟨j + 1, x', m', by simp [Instr.findNow, hsn, hq, h1]; omega, by simpa using h2, by simpa using h3, h4, h5, by simp [findP, hs, h6], by simp [hasP, hs, h7], fun y => by simp [putP, hs, h8]⟩
theorem head_of {e : TypeId} {k : ByteArray} {cs : List (CV Θ.T)} {z : Θ.T e} (h : s.elemOf Θ e (.v (.str k) :: cs) = some z) : (Θ.E e).leaves.head? = some .str := by
  unfold St.elemOf at h
  revert h
  generalize (Θ.E e).of = f
  generalize (Θ.E e).leaves = L at f
  intro h
  cases L with
  | nil =>
    cases hg : HT.get s.get [] (CV.v (PV.str k) :: cs) with
    | none => rw [hg] at h; cases h
    | some x => have := HT.get_len _ _ _ _ hg; simp at this
  | cons a L =>
    have : ∃ x, s.get a (.v (.str k)) = some x := by
      cases L with
      | nil =>
        cases cs with
        | nil =>
          rw [HT.get_one] at h
          cases hg : s.get a (.v (.str k)) with
          | none => rw [hg] at h; cases h
          | some x => exact ⟨x, rfl⟩
        | cons c cs =>
          cases hg : HT.get s.get [a] (CV.v (PV.str k) :: c :: cs) with
          | none => rw [hg] at h; cases h
          | some x => have := HT.get_len _ _ _ _ hg; simp at this
      | cons b L =>
        rw [HT.get_cons] at h
        cases hg : s.get a (.v (.str k)) with
        | none => rw [hg] at h; cases h
        | some x => exact ⟨x, rfl⟩
    obtain ⟨x, hx⟩ := this
    cases a <;> simp only [St.get, Leaf.get] at hx <;> first | (cases hx; done) | rfl
end
end Go.Den
namespace Go.Den
open Go Go.RowKit
section
variable {Θ : Tab} {E : Env} {s : St Θ.T} {tm : Array Value} {W : World} {bx : Nat → Nat → Nat} {rw_ : Nat → Nat → Value} {P : Program} {F : Nat → Prop}
theorem rav_int {k : IntKind} {n : Int} {u : Value} (h : RAV Θ W F bx rw_ (.c (.v (.int k n))) u) : u = .int k n := rcv_int (bx := bx) (rw_ := rw_) h
theorem rav_bool {b : Bool} {u : Value} (h : RAV Θ W F bx rw_ (.c (.v (.bool b))) u) : u = .bool b := rcv_bool (bx := bx) (rw_ := rw_) h
theorem rav_str {b : ByteArray} {u : Value} (h : RAV Θ W F bx rw_ (.c (.v (.str b))) u) : u = .string b := rcv_str (bx := bx) (rw_ := rw_) h
theorem sizeT_ok {t n : Nat} (h : sizeT P t = some n) : ∃ i, P.info? t = some i ∧ i.size = n := by
  unfold sizeT at h
  cases hi : P.info? t with
  | none => simp [hi] at h
  | some i => exact ⟨i, rfl, by simpa [hi] using h⟩
theorem isAgg_run {t : TypeId} {b : Bool} (h : isAggT P t = some b) : (isAgg t).run P W = .ok b W := by
  unfold isAggT at h
  cases hu : P.underlying t with
  | none => simp [hu] at h
  | some d => cases d <;> simp [hu] at h <;> subst h <;> simp [isAgg, run_underlying hu]
theorem fieldOff_ok {t : TypeId} {f off ft n : Nat} (h : fieldOff P t f = some (off, ft, n)) :
    ∃ fs d i, P.underlying t = some (.struct fs) ∧ fs[f]? = some d ∧ P.info? d.type = some i ∧ i.size ≠ 0 ∧ d.offset = off ∧ d.type = ft ∧ i.size = n := by
  unfold fieldOff at h
  split at h <;> try (cases h; done)
  rename_i fs hu
  split at h <;> try (cases h; done)
  rename_i d hd
  split at h <;> try (cases h; done)
  rename_i i hi
  split at h <;> try (cases h; done)
  rename_i hz
  cases h
  exact ⟨fs, d, i, hu, hd, hi, hz, rfl, rfl, rfl⟩
theorem ofCells_ok {t : TypeId} {cs : List (CV Θ.T)} {v : AV Θ.T} (h : ofCells P t cs = some v) :
    (isAggT P t = some true ∧ v = .agg cs) ∨ (isAggT P t = some false ∧ ∃ c, cs = [c] ∧ v = .c c) := by
  unfold ofCells at h
  split at h
  · cases h; exact .inl ⟨by assumption, rfl⟩
  · split at h
    · cases h; exact .inr ⟨by assumption, _, rfl, rfl⟩
    · cases h
  · cases h
theorem un_ok {op : UnOp} {x : AV Θ.T} {u : Value} {c : Bool} {v : AV Θ.T} (h : vUn op x = some (c, v)) (hr : RAV Θ W F bx rw_ x u) :
    ∃ r, (Op.unary op u).run P W = .ok r W ∧ RAV Θ W F bx rw_ v r := by
  unfold vUn at h
  split at h <;> try (cases h; done)
  · rename_i k n
    split at h <;> try (cases h; done)
    cases h
    rw [rav_int hr]
    exact ⟨_, by simp [Op.unary, Op.intArith]; rfl, by rw [wr_eq, Int.zero_sub]; exact .int _ _⟩
  · rename_i b
    split at h <;> try (cases h; done)
    cases h
    rw [rav_bool hr]
    exact ⟨_, by simp [Op.unary], .bool _⟩
theorem eq_slice (d : Nat) (t e : TypeId) (A : Option Addr) (n c m k : Nat) (hu : P.underlying t = some (.slice e)) : (Op.equalIn (d + 1) t (.slice A n c) (.slice none m k)).run P W = .ok A.isNone W := by
  cases A <;> simp [Op.equalIn, run_underlying hu]
theorem eq_ptr (d : Nat) (t e : TypeId) (A : Option Addr) (hu : P.underlying t = some (.pointer e)) : (Op.equalIn (d + 1) t (.pointer A) (.pointer none)).run P W = .ok A.isNone W := by
  cases A <;> simp [Op.equalIn, run_underlying hu]
theorem eq_ni (d : Nat) (t : TypeId) {ms} (hu : P.underlying t = some (.interface ms)) : (Op.equalIn (d + 1) t .nilIface .nilIface).run P W = .ok true W := by
  simp [Op.equalIn, run_underlying hu]
theorem bin_ok {eqs : List TypeId} (he : ∀ t ∈ eqs, EqT P t) {op : BinOp} {t : TypeId} {x y : AV Θ.T} {a b : Value} {ox oy : Operand} {v : AV Θ.T} (h : vBin P Θ eqs op t x y = some (true, v))
    (hx : RAV Θ W F bx rw_ x a) (hy : RAV Θ W F bx rw_ y b) :
    ∃ r, (do eqGuard op t ox oy a b; binOp op t a b : Sem Value).run P W = .ok r W ∧ RAV Θ W F bx rw_ v r := by
  unfold vBin at h
  split at h <;> try (cases h; done)
  · rename_i k m k' m'
    rw [rav_int hx, rav_int hy]
    split at h
    · cases hs : shift2 (T := Θ.T) op k m m' with
      | none => simp [hs] at h
      | some q =>
        obtain ⟨q1, q2⟩ := q
        simp [hs] at h
        obtain ⟨rfl, rfl⟩ := h
        obtain ⟨h1, h2⟩ := run_shift2 (P := P) (W := W) (t := t) (x := ox) (y := oy) (k' := k') hs rfl
        exact ⟨_, h1, rcv_flat h2⟩
    · split at h <;> try (cases h; done)
      rename_i hk
      subst hk
      cases hs : int2 (T := Θ.T) op k m m' with
      | none => simp [hs] at h
      | some q =>
        obtain ⟨q1, q2⟩ := q
        simp [hs] at h
        obtain ⟨rfl, rfl⟩ := h
        obtain ⟨h1, h2⟩ := run_int2 (P := P) (W := W) (t := t) (x := ox) (y := oy) hs rfl
        exact ⟨_, h1, rcv_flat h2⟩
  · rename_i m m'
    rw [rav_bool hx, rav_bool hy]
    split at h <;> try (cases h; done)
    rename_i hu
    split at h <;> try (cases h; done)
    all_goals
      cases h
      have he : (Op.equal t (.bool m) (.bool m')).run P W = .ok (m == m') W := run_equalIn_bool' W 9999 t m m' hu
      exact ⟨_, by simp [eqGuard, binOp, he], .bool _⟩
  · rename_i m m'
    rw [rav_str hx, rav_str hy]
    cases hs : str2 (T := Θ.T) op m m' with
    | none => simp [hs] at h
    | some q =>
      obtain ⟨q1, q2⟩ := q
      simp [hs] at h
      obtain ⟨rfl, rfl⟩ := h
      obtain ⟨h1, h2⟩ := run_str2 (P := P) (W := W) (t := t) (x := ox) (y := oy) hs rfl
      exact ⟨_, h1, rcv_flat h2⟩
  · rename_i e l
    split at h <;> try (cases h; done)
    rename_i e' hu
    split at h <;> try (cases h; done)
    cases h
    have hy' : b = .slice none 0 0 := hy
    subst hy'
    have hx' : Rep Θ W F a (.sl e l) := hx
    cases hx' with
    | sl _ _ A n cap us hn hc hz hA hr =>
      cases A with
      | none =>
        have hs : (Op.equal t (.slice none n cap) (.slice none 0 0)).run P W = .ok true W := eq_slice 9999 t _ none n cap 0 0 hu
        refine ⟨_, by simp [eqGuard, binOp, hs], true, rfl, fun he => ?_⟩
        have h0 := hz rfl
        have : l = [] := List.eq_nil_of_length_eq_zero (by omega)
        subst this
        simp at he
      | some ad =>
        have hs : (Op.equal t (.slice (some ad) n cap) (.slice none 0 0)).run P W = .ok false W := eq_slice 9999 t _ (some ad) n cap 0 0 hu
        exact ⟨_, by simp [eqGuard, binOp, hs], false, rfl, fun _ => rfl⟩
  · split at h <;> try (cases h; done)
    rename_i e' hu
    have hx' : a = .slice none 0 0 := hx
    have hy' : b = .slice none 0 0 := hy
    subst hx' hy'
    have hs : (Op.equal t (.slice none 0 0) (.slice none 0 0)).run P W = .ok true W := eq_slice 9999 t _ none 0 0 0 0 hu
    split at h <;> try (cases h; done)
    all_goals
      cases h
      exact ⟨_, by simp [eqGuard, binOp, hs], .bool _⟩
  · split at h <;> try (cases h; done)
    rename_i e' hu
    have hx' : a = .pointer none := hx
    have hy' : b = .pointer none := hy
    subst hx' hy'
    have hs : (Op.equal t (.pointer none) (.pointer none)).run P W = .ok true W := eq_ptr 9999 t _ none hu
    split at h <;> try (cases h; done)
    all_goals
      cases h
      exact ⟨_, by simp [eqGuard, binOp, hs], .bool _⟩
  · split at h <;> try (cases h; done)
    rename_i e' hu
    have hy' : b = .pointer none := hy
    subst hy'
    cases hx
    have hs : ∀ ad, (Op.equal t (.pointer (some ad)) (.pointer none)).run P W = .ok false W := fun ad => eq_ptr 9999 t _ (some ad) hu
    split at h <;> try (cases h; done)
    all_goals
      cases h
      exact ⟨_, by simp [eqGuard, binOp, hs], .bool _⟩
  · split at h <;> try (cases h; done)
    rename_i e' hu
    have hy' : b = .pointer none := hy
    subst hy'
    obtain ⟨bb, n, cap, _, _, _, rfl⟩ := hx
    have hs : ∀ ad, (Op.equal t (.pointer (some ad)) (.pointer none)).run P W = .ok false W := fun ad => eq_ptr 9999 t _ (some ad) hu
    split at h <;> try (cases h; done)
    all_goals
      cases h
      exact ⟨_, by simp [eqGuard, binOp, hs], .bool _⟩
  · rename_i as bs
    obtain ⟨us, rfl, hu⟩ := hx
    obtain ⟨vs, rfl, hv⟩ := hy
    split at h <;> try (cases h; done)
    rename_i hc
    simp only [Bool.and_eq_true, List.contains_iff_mem, beq_iff_eq] at hc
    have hl : (P.info? t).map (·.size) = some us.length := by rw [← hu.length]; exact hc.2
    have hkv := kindsV_of _ _ _ hc.1.2 hu
    split at h <;> try (cases h; done)
    · cases hq : eqCells as bs with
      | none => simp [hq] at h
      | some r =>
        simp [hq] at h
        subst h
        exact ⟨_, (he t hc.1.1).eql us vs r ox oy W hl hkv (eqVals_of as bs r us vs hq hu hv), .bool _⟩
    · cases hq : eqCells as bs with
      | none => simp [hq] at h
      | some r =>
        simp [hq] at h
        subst h
        exact ⟨_, (he t hc.1.1).neq us vs r ox oy W hl hkv (eqVals_of as bs r us vs hq hu hv), .bool _⟩
theorem conv_ok {src dst : TypeId} {x : AV Θ.T} {u : Value} {c : Bool} {v : AV Θ.T} (h : vConv P Θ src dst x = some (c, v)) (hr : RAV Θ W F bx rw_ x u) :
    ∃ r, (convert src dst u).run P W = .ok r W ∧ RAV Θ W F bx rw_ v r := by
  unfold vConv at h
  split at h <;> try (cases h; done)
  · split at h <;> try (cases h; done)
    rename_i hs hd
    cases h
    rw [rav_int hr]
    exact ⟨_, by simp [convert, run_underlying hs, run_underlying hd, Conv.intToInt]; rfl, by rw [wr_eq]; exact .int _ _⟩
  · split at h <;> try (cases h; done)
    rename_i d hs hd
    cases h
    rw [rav_str hr]
    exact ⟨_, by simp [convert, run_underlying hs, run_underlying hd], .str _⟩
  · rename_i e l
    split at h <;> try (cases h; done)
    rename_i e' hs hd
    split at h <;> try (cases h; done)
    rename_i hu8
    split at h <;> try (cases h; done)
    rename_i hc
    obtain ⟨rfl, hb⟩ := hc
    cases h
    have hleaf : (Θ.E e').leaves = [.int .u8] := by
      unfold isByte at hb
      split at hb <;> try (cases hb; done)
      rename_i lf r hlf
      rw [Bool.and_eq_true] at hb
      obtain ⟨h1, h2⟩ := hb
      have hr0 : r = [] := by simpa using h2
      subst hr0
      rw [hlf]
      cases lf <;> first | (cases h1; done) | skip
      rename_i k
      have : k = .u8 := of_decide_eq_true h1
      rw [this]
    have hrr : Rep Θ W F u (.sl e' l) := hr
    cases hrr with
    | sl _ _ A n cap us hn hcp hz hA hre =>
      have henc : ∀ y : Θ.T e', ∃ k : Int, Θ.enc e' y = [.int .u8 k] := fun y => by
        unfold Tab.enc
        generalize (Θ.E e').to y = z
        revert z
        rw [hleaf]
        intro z
        exact ⟨z, rfl⟩
      have hsz : Θ.sz e' = 1 := by unfold Tab.sz; rw [hleaf]; rfl
      refine ⟨.string (bstrE Θ e' l), ?_, .str _⟩
      rw [run_convert_bytes_string W src dst e' A n cap hs hu8 hd]
      cases A with
      | none =>
        have : l = [] := by
          have := hz rfl
          exact List.eq_nil_of_length_eq_zero (by omega)
        subst this
        simp [Conv.bytesToString, bstrE, strOfNums]
        rfl
      | some ad =>
        have hl := run_loadCells_list (P := P) (w := W) ad ((l.map fun y => bnum (Θ.enc e' y)).map (Value.int .u8)) (fun j v hj => by
          rw [List.map_map, List.getElem?_map] at hj
          cases hlj : l[j]? with
          | none => simp [hlj] at hj
          | some y =>
            simp only [hlj, Option.map_some, Option.some.injEq, Function.comp] at hj
            obtain ⟨k, hk⟩ := henc y
            have hjl : j < l.length := (List.getElem?_eq_some_iff.1 hlj).1
            obtain ⟨ad', e1, _, _, e4⟩ := hA (fun h => by rw [h] at hjl; simp at hjl)
            cases e1
            have h4 := e4 j 0 hjl (by omega)
            rw [hsz, Nat.mul_one, Nat.add_zero] at h4
            have h5 := hre j 0 y (.int .u8 k) hlj (by rw [hk]; rfl)
            rw [h4, ← hj, hk]
            generalize us j 0 = q at h5
            cases h5; rfl)
        simp only [List.length_map] at hl
        rw [hn] at hl
        rw [run_bytesToString W ad n cap _ hl, foldl_push_bytes]
        simp [bstrE, strOfNums, ByteArray.empty, ByteArray.emptyWithCapacity]
        rfl
theorem extract_ok {i : Nat} {x : AV Θ.T} {u : Value} {c : Bool} {v : AV Θ.T} (h : vExtract i x = some (c, v)) (hr : RAV Θ W F bx rw_ x u) :
    ∃ r, (Instr.extract u i).run P W = .ok r W ∧ RAV Θ W F bx rw_ v r := by
  unfold vExtract at h
  split at h <;> try (cases h; done)
  rename_i l
  obtain ⟨us, rfl, ha⟩ := hr
  split at h <;> try (cases h; done)
  all_goals
    rename_i hi
    cases h
    obtain ⟨b, hb, hr⟩ := ha.get _ hi
    exact ⟨b, by simp [Instr.extract, hb], hr⟩
theorem nil_ok {x : AV Θ.T} {u : Value} {c : Bool} {v : AV Θ.T} (h : vNil x = some (c, v)) (hr : RAV Θ W F bx rw_ x u) : v = x ∧ ∃ ad, u = .pointer (some ad) := by
  unfold vNil at h
  split at h <;> try (cases h; done)
  · cases h; cases hr; exact ⟨rfl, _, rfl⟩
  · cases h; obtain ⟨ad, rfl, _⟩ := hr; exact ⟨rfl, _, rfl⟩
  · cases h; obtain ⟨b, n, cap, _, _, _, rfl⟩ := hr; exact ⟨rfl, _, rfl⟩
theorem fieldAddr_ok {t : TypeId} {f : Nat} {x : AV Θ.T} {u : Value} {c : Bool} {v : AV Θ.T} (h : vFieldAddr P t f x = some (c, v)) (hr : RAV Θ W F bx rw_ x u) :
    ∃ r, (Instr.fieldAt t u f).run P W = .ok r W ∧ RAV Θ W F bx rw_ v r := by
  unfold vFieldAddr at h
  split at h <;> try (cases h; done)
  rename_i off ft n hf
  cases hm : moved off x with
  | none => simp [hm] at h
  | some q =>
    simp [hm] at h
    obtain ⟨rfl, rfl⟩ := h
    obtain ⟨ad, rfl, hs, hr'⟩ := moved_ok hm hr
    obtain ⟨fs, d, i, hu, hd, hi, hz, rfl, rfl, rfl⟩ := fieldOff_ok hf
    exact ⟨_, by simp [Instr.fieldAt, run_underlying hu, hd, Instr.sureAddr, fieldPlace, sizeOf, typeInfo, hi, hz], hr'⟩
theorem part_ok {t : TypeId} {i : TypeInfo} {us : List Value} {off : Nat} {cs : List (CV Θ.T)} {v : AV Θ.T} (hi : P.info? t = some i) (h : ofCells P t ((cs.drop off).take i.size) = some v)
    (ha : All2 (RCV Θ W F bx rw_) cs us) : ∃ r, (part t us.toArray off).run P W = .ok r W ∧ RAV Θ W F bx rw_ v r := by
  have hd := (ha.drop off).take i.size
  rcases ofCells_ok h with ⟨h1, rfl⟩ | ⟨h1, c, hc, rfl⟩
  · refine ⟨.agg (us.toArray.extract off (off + i.size)), by simp [part, isAgg_run h1, sizeOf, typeInfo, hi], (us.drop off).take i.size, ?_, hd⟩
    congr 1
    apply Array.ext'
    simp
  · rw [hc] at hd
    obtain ⟨b, hb, hr⟩ := hd.get 0 (a := c) (by simp)
    refine ⟨b, ?_, hr⟩
    have hb' : us[off]? = some b := by
      rw [List.getElem?_take] at hb
      split at hb
      · simpa using hb
      · cases hb
    simp [part, isAgg_run h1, hb']
theorem field_ok {t : TypeId} {f : Nat} {x : AV Θ.T} {u : Value} {c : Bool} {v : AV Θ.T} (h : vField P t f x = some (c, v)) (hr : RAV Θ W F bx rw_ x u) :
    ∃ r, (Instr.field t u f).run P W = .ok r W ∧ RAV Θ W F bx rw_ v r := by
  unfold vField at h
  split at h <;> try (cases h; done)
  rename_i cs
  split at h <;> try (cases h; done)
  rename_i off ft n hf
  split at h <;> try (cases h; done)
  rename_i hle
  cases hm : ofCells P ft ((cs.drop off).take n) with
  | none => simp [hm] at h
  | some q =>
    simp [hm] at h
    obtain ⟨rfl, rfl⟩ := h
    obtain ⟨us, rfl, ha⟩ := hr
    obtain ⟨fs, d, i, hu, hd, hi, hz, rfl, rfl, rfl⟩ := fieldOff_ok hf
    obtain ⟨r, h1, h2⟩ := part_ok hi hm ha
    exact ⟨r, by simp [Instr.field, run_underlying hu, hd, asAgg, h1], h2⟩
theorem load_ok (hS : Sim Θ E s tm W bx rw_) {t : TypeId} {x : AV Θ.T} {u : Value} {c : Bool} {v : AV Θ.T} (h : vLoad P Θ s t x = some (c, v)) (hr : RAV Θ W (FF E s bx rw_ W) bx rw_ x u) :
    ∃ r, (Instr.loadAt t u).run P W = .ok r W ∧ RAV Θ W (FF E s bx rw_ W) bx rw_ v r := by
  unfold vLoad at h
  split at h <;> try (cases h; done)
  rename_i n hn
  split at h <;> try (cases h; done)
  rename_i cs hcs
  split at h <;> try (cases h; done)
  rename_i hle
  obtain ⟨i, hi, rfl⟩ := sizeT_ok hn
  obtain ⟨ad, us, rfl, ha, hc⟩ := cellsAt_ok hS hcs hr
  cases hm : ofCells P t (cs.take i.size) with
  | none => simp [hm] at h
  | some q =>
    simp [hm] at h
    obtain ⟨rfl, rfl⟩ := h
    have hd := ha.take i.size
    have hl : (us.take i.size).length = i.size := by rw [List.length_take, ← ha.length]; omega
    rcases ofCells_ok hm with ⟨h1, rfl⟩ | ⟨h1, c, hc', rfl⟩
    · refine ⟨.agg (us.take i.size).toArray, ?_, us.take i.size, rfl, hd⟩
      have := run_loadCells_list (P := P) (w := W) ad (us.take i.size) (fun j v hj => hc j v (by
        rw [List.getElem?_take] at hj
        split at hj
        · exact hj
        · cases hj))
      rw [hl] at this
      simp [Instr.loadAt, Instr.sureAddr, loadVar, isAgg_run h1, sizeOf, typeInfo, hi, this]
    · rw [hc'] at hd
      obtain ⟨b, hb, hr⟩ := hd.get 0 (a := c) (by simp)
      refine ⟨b, ?_, hr⟩
      have hb' : W.cell? ad = some b := by
        have := hc 0 b (by
          rw [List.getElem?_take] at hb
          split at hb
          · exact hb
          · cases hb)
        simpa [Addr.add] using this
      simp [Instr.loadAt, Instr.sureAddr, loadVar, isAgg_run h1, hb']
theorem inB_ok {i : Int} {n : Nat} (h : inB i n = true) : 0 ≤ i ∧ i < (n : Int) := by simpa [inB] using h
theorem indexAddr_ok (hS : Sim Θ E s tm W bx rw_) {t : TypeId} {x y : AV Θ.T} {u i : Value} {v : AV Θ.T} (h : vIndexAddr P Θ s t x y = some (true, v)) (hx : RAV Θ W (FF E s bx rw_ W) bx rw_ x u)
    (hy : RAV Θ W (FF E s bx rw_ W) bx rw_ y i) :
    ∃ r, (Instr.indexAt t u i).run P W = .ok r W ∧ RAV Θ W (FF E s bx rw_ W) bx rw_ v r := by
  unfold vIndexAddr at h
  split at h <;> try (cases h; done)
  rename_i k j
  rw [rav_int hy]
  split at h <;> try (cases h; done)
  · rename_i e hu
    split at h <;> try (cases h; done)
    rename_i hz
    obtain ⟨inf, hi, hz'⟩ := sizeT_ok hz
    split at h <;> try (cases h; done)
    · rename_i e' l
      split at h <;> try (cases h; done)
      rename_i he
      simp only [Option.some.injEq, Prod.mk.injEq] at h
      obtain ⟨hb, rfl⟩ := h
      subst he
      obtain ⟨h0, h1⟩ := inB_ok hb
      cases hx with
      | sl _ _ A n cap us hn _ _ hA hr =>
        have hne : l ≠ [] := by intro h'; subst h'; simp at h1; omega
        obtain ⟨ad, rfl, hs, hf, hc⟩ := hA hne
        have hin : j.toNat < l.length := by omega
        refine ⟨.pointer (some (ad.add (j.toNat * Θ.sz e))), ?_, ad.add (j.toNat * Θ.sz e), rfl, add_spot hs _, fun hne => by rw [Addr.add_block]; exact (hf (by rw [← Θ.length_enc e (elAt Θ e l j)]; exact List.length_pos_iff.2 hne)).1, fun q y hy => ?_⟩
        · have hc1 : 0 ≤ j ∧ j < (n : Int) := ⟨h0, by omega⟩
          simp [Instr.indexAt, asIntOf, run_underlying hu, hc1, sizeOf, typeInfo, hi, hz']
        · have hq : q < Θ.sz e := by
            have := (List.getElem?_eq_some_iff.1 hy).1
            rwa [Θ.length_enc] at this
          exact ⟨us j.toNat q, by rw [add_add hs]; exact hc j.toNat q hin hq, hr j.toNat q _ y (elAt_get h0 h1) hy⟩
    · rename_i r g
      split at h <;> try (cases h; done)
      rename_i R hR
      split at h <;> try (cases h; done)
      rename_i hg
      split at h <;> try (cases h; done)
      rename_i he
      simp only [Option.some.injEq, Prod.mk.injEq] at h
      obtain ⟨hb, rfl⟩ := h
      subst hg
      obtain ⟨he, hsl⟩ := he
      subst he
      obtain ⟨h0, h1⟩ := inB_ok hb
      have hx' : u = rw_ r R.gen := hx
      subst hx'
      obtain ⟨_, us, hown, ha⟩ := hS.rows r R hR
      obtain ⟨b, cap, hv, _⟩ := (hown.s hsl).form.2 (by omega)
      · refine ⟨.pointer (some ((⟨b, 0, none⟩ : Addr).add (j.toNat * Θ.sz R.e))), ?_, b, R.l.length, cap, hv, h0, h1, by rw [plain_add]; simp⟩
        have hc1 : 0 ≤ j ∧ j < (R.l.length : Int) := ⟨h0, h1⟩
        simp [Instr.indexAt, asIntOf, run_underlying hu, hv, hc1, sizeOf, typeInfo, hi, hz']
  · rename_i n e hu
    split at h <;> try (cases h; done)
    rename_i z hz
    split at h <;> try (cases h; done)
    rename_i k g off
    simp only [Option.some.injEq, Prod.mk.injEq] at h
    obtain ⟨hb, rfl⟩ := h
    obtain ⟨inf, hi, rfl⟩ := sizeT_ok hz
    have hc1 := inB_ok hb
    cases hx
    exact ⟨_, by simp [Instr.indexAt, asIntOf, run_underlying hu, Instr.sureAddr, hc1, sizeOf, typeInfo, hi]; rfl, by rw [plain_add]; rfl⟩
theorem index_ok {t : TypeId} {x y : AV Θ.T} {u i : Value} {v : AV Θ.T} (h : vIndex P Θ t x y = some (true, v)) (hx : RAV Θ W F bx rw_ x u) (hy : RAV Θ W F bx rw_ y i) :
    ∃ r, (Instr.index t u i).run P W = .ok r W ∧ RAV Θ W F bx rw_ v r := by
  unfold vIndex at h
  split at h <;> try (cases h; done)
  rename_i k j
  rw [rav_int hy]
  split at h <;> try (cases h; done)
  rename_i hu
  split at h <;> try (cases h; done)
  rename_i b
  simp only [Option.some.injEq, Prod.mk.injEq] at h
  obtain ⟨hb, rfl⟩ := h
  rw [rav_str hx]
  obtain ⟨h0, h1⟩ := inB_ok hb
  have hin : j.toNat < b.size := by omega
  refine ⟨.int .u8 (byteAt b j), ?_, .int _ _⟩
  have hget : b[j.toNat]? = some (b[j.toNat]'hin) := getElem?_pos b j.toNat hin
  have hbyte : byteAt b j = ((b[j.toNat]'hin).toNat : Int) := by
    have : j.toNat < b.data.size := hin
    simp [byteAt, Array.getD_eq_getD_getElem?, Array.getElem?_eq_getElem this]
    rfl
  simp [Instr.index, asIntOf, run_underlying hu, h0, hget, hbyte]
theorem bound_ok (a : Act) (ha : ∀ x, RAV Θ W F bx rw_ (s.ev x) (a.eval x)) {o : Option Operand} {r : Option Int} (h : vBound s o = some r) :
    (o = none ∧ r = none) ∨ ∃ x k n, o = some x ∧ r = some n ∧ a.eval x = .int k n := by
  cases o with
  | none => simp [vBound] at h; exact .inl ⟨rfl, h.symm⟩
  | some x =>
    simp only [vBound] at h
    split at h <;> try (cases h; done)
    rename_i k n hx
    cases h
    have := ha x
    rw [hx] at this
    exact .inr ⟨x, k, n, rfl, rfl, rav_int this⟩
theorem bounds_ok (sl : Bool) (n cap : Nat) (hcap : n ≤ cap) (a : Act) (ha : ∀ x, RAV Θ W F bx rw_ (s.ev x) (a.eval x)) {lo hi : Option Operand} {l h : Option Int} (hl : vBound s lo = some l) (hh : vBound s hi = some h) (hc : cutOk l h n = true) :
    ∃ x y : Nat, (Instr.sliceBounds sl n cap (lo.map a.eval) (hi.map a.eval) none).run P W = .ok (x, y, cap) W ∧ x ≤ y ∧ y ≤ n ∧ x = (l.getD 0).toNat ∧ y = (h.getD n).toNat := by
  rcases bound_ok a ha hl with ⟨rfl, rfl⟩ | ⟨xl, kl, nl, rfl, rfl, el⟩ <;> rcases bound_ok a ha hh with ⟨rfl, rfl⟩ | ⟨xh, kh, nh, rfl, rfl, eh⟩
  · exact ⟨0, n, by simp [Instr.sliceBounds], Nat.zero_le _, Nat.le_refl _, by simp, by simp⟩
  · simp only [cutOk, Bool.and_eq_true, decide_eq_true_eq] at hc
    have h1 : 0 ≤ nh ∧ nh ≤ (cap : Int) := by omega
    exact ⟨0, nh.toNat, by simp [Instr.sliceBounds, Instr.sliceBound, eh, asIntOf, h1], Nat.zero_le _, by omega, by simp, by simp⟩
  · simp only [cutOk, Bool.and_eq_true, decide_eq_true_eq] at hc
    have h1 : 0 ≤ nl ∧ nl ≤ (n : Int) := by omega
    exact ⟨nl.toNat, n, by simp [Instr.sliceBounds, Instr.sliceBound, el, asIntOf, h1], by omega, Nat.le_refl _, by simp, by simp⟩
  · simp only [cutOk, Bool.and_eq_true, decide_eq_true_eq] at hc
    have h1 : 0 ≤ nh ∧ nh ≤ (cap : Int) := by omega
    have h2 : 0 ≤ nl ∧ nl ≤ max nh 0 := by omega
    exact ⟨nl.toNat, nh.toNat, by simp [Instr.sliceBounds, Instr.sliceBound, el, eh, asIntOf, h1, h2], by omega, by omega, by simp, by simp⟩
theorem cutStr_eq (l h : Option Int) (b : ByteArray) : cutStr l h b = b.extract (l.getD 0).toNat (h.getD b.size).toNat := by
  cases l <;> cases h <;> simp [cutStr, cut]
theorem cutList_eq {A : Type} (l h : Option Int) (a : List A) : cutList l h a = (a.take (h.getD a.length).toNat).drop (l.getD 0).toNat := by
  cases l <;> cases h <;> simp [cutList]
theorem slice_ok (a : Act) (ha : ∀ x, RAV Θ W F bx rw_ (s.ev x) (a.eval x)) {t : TypeId} {x : AV Θ.T} {u : Value} {lo hi mx : Option Operand} {v : AV Θ.T} (h : vSlice P Θ s t x lo hi mx = some (true, v)) (hx : RAV Θ W F bx rw_ x u) :
    ∃ r, (Instr.sliceAt t u (lo.map a.eval) (hi.map a.eval) (mx.map a.eval)).run P W = .ok r W ∧ RAV Θ W F bx rw_ v r := by
  unfold vSlice at h
  split at h <;> try (cases h; done)
  split at h <;> try (cases h; done)
  rename_i l hh hl' hh'
  split at h <;> try (cases h; done)
  · rename_i hu
    split at h <;> try (cases h; done)
    rename_i b
    simp only [Option.some.injEq, Prod.mk.injEq] at h
    obtain ⟨hc, rfl⟩ := h
    rw [rav_str hx]
    obtain ⟨p, q, hb, h1, h2, rfl, rfl⟩ := bounds_ok (P := P) (W := W) false b.size b.size (Nat.le_refl _) a ha hl' hh' hc
    exact ⟨_, by simp [Instr.sliceAt, Instr.slice, run_underlying hu, hb]; rfl, by rw [cutStr_eq]; exact .str _⟩
  · rename_i e hu
    split at h <;> try (cases h; done)
    rename_i hz
    obtain ⟨inf, hi', hz'⟩ := sizeT_ok hz
    split at h <;> try (cases h; done)
    rename_i e' y
    split at h <;> try (cases h; done)
    rename_i he
    subst he
    simp only [Option.some.injEq, Prod.mk.injEq] at h
    obtain ⟨hc, rfl⟩ := h
    cases hx with
    | sl _ _ A n cap us hn hcap hzn hA hr =>
      subst hn
      obtain ⟨p, q, hb, h1, h2, hp, hq⟩ := bounds_ok (P := P) (W := W) true y.length cap hcap a ha hl' hh' hc
      refine ⟨_, by simp [Instr.sliceAt, Instr.slice, run_underlying hu, hb, sizeOf, typeInfo, hi']; rfl, ?_⟩
      rw [cutList_eq, ← hp, ← hq]
      refine .sl e _ _ _ _ (fun i j => us (p + i) j) (by simp; omega) (by omega) (fun hnone => by
        have : cap = 0 := by
          by_cases hcp : cap = p
          · rw [if_pos hcp] at hnone; exact hzn hnone
          · rw [if_neg hcp] at hnone; exact hzn (by simpa using hnone)
        omega) (fun hne => ?_) (fun i j z x hy hx => ?_)
      · have hlt : p < q := by
          rcases Nat.lt_or_ge p q with h | h
          · exact h
          · exact absurd (List.drop_eq_nil_of_le (by simp; omega)) hne
        have hy0 : y ≠ [] := by intro h'; subst h'; simp at h2; omega
        obtain ⟨ad, rfl, hs, hf, hcell⟩ := hA hy0
        have hcp : ¬ cap = p := by omega
        refine ⟨ad.add (p * inf.size), by simp [hcp], add_spot hs _, by rw [Addr.add_block]; exact hf, fun i j hi hj => ?_⟩
        rw [add_add hs, hz', show p * Θ.sz e + (i * Θ.sz e + j) = (p + i) * Θ.sz e + j by rw [Nat.add_mul]; omega]
        exact hcell (p + i) j (by simp at hi; omega) hj
      · refine hr (p + i) j z x ?_ hx
        rw [List.getElem?_drop, List.getElem?_take] at hy
        split at hy
        · exact hy
        · cases hy
theorem caps_ok (a : Act) (ha : ∀ x, RAV Θ W F bx rw_ (s.ev x) (a.eval x)) : ∀ (l : List Operand) (r : List (Nat × Nat)), capsOf s l = some r → l.map a.eval = r.map fun kg => Value.pointer (some ⟨bx kg.1 kg.2, 0, none⟩) := by
  intro l
  induction l with
  | nil => intro r h; simp [capsOf] at h; subst h; rfl
  | cons x l ih =>
    intro r h
    simp only [capsOf] at h
    split at h <;> try (cases h; done)
    rename_i k g hx
    split at h <;> try (cases h; done)
    rename_i r' hr'
    cases h
    have := ha x
    rw [hx] at this
    have hv : a.eval x = .pointer (some ⟨bx k g, 0, none⟩) := this
    simp [ih r' hr', hv]
theorem sums_ok (a : Act) (ha : ∀ x, RAV Θ W F bx rw_ (s.ev x) (a.eval x)) : ∀ (l : List Operand) (r : List (CV Θ.T ⊕ List (CV Θ.T))), sumsOf s l = some r → All2 (RSum Θ W F bx rw_) r (l.map a.eval) := by
  intro l
  induction l with
  | nil => intro r h; cases h; exact .nil
  | cons x l ih =>
    intro r h
    have hx := ha x
    simp only [sumsOf] at h
    cases hv : s.ev x with
    | c c =>
      rw [hv] at hx
      simp only [hv] at h
      split at h <;> try (cases h; done)
      rename_i l' hl
      cases h
      exact .cons hx (ih _ hl)
    | agg cs =>
      rw [hv] at hx
      simp only [hv] at h
      split at h <;> try (cases h; done)
      rename_i l' hl
      cases h
      exact .cons hx (ih _ hl)
    | _ => simp [hv] at h
theorem func_ok (a : Act) (ha : ∀ x, RAV Θ W F bx rw_ (s.ev x) (a.eval x)) {fn : Fn} {first caps : Array Operand} {c : Bool} {v : AV Θ.T} (h : vFunc s fn first caps = some (c, v)) :
    ∃ r, (Instr.makeFunc fn (first.map a.eval) (caps.map a.eval)).run P W = .ok r W ∧ RAV Θ W F bx rw_ v r := by
  unfold vFunc at h
  split at h <;> try (cases h; done)
  rename_i f
  split at h
  · rename_i hf
    split at h <;> try (cases h; done)
    rename_i l hl
    cases h
    have hf' : first = #[] := by apply Array.ext'; simpa using hf
    subst hf'
    have hc : caps.map a.eval = (l.map fun kg => Value.pointer (some ⟨bx kg.1 kg.2, 0, none⟩)).toArray := by
      apply Array.ext'
      rw [Array.toList_map, caps_ok a ha _ _ hl]
    exact ⟨_, by simp [Instr.makeFunc, hc], rfl⟩
  · split at h <;> try (cases h; done)
    rename_i hc
    split at h <;> try (cases h; done)
    rename_i l hl
    cases h
    have hc' : caps = #[] := by apply Array.ext'; simpa using hc
    subst hc'
    have := sums_ok (Θ := Θ) (W := W) (F := F) (bx := bx) (rw_ := rw_) a ha _ _ hl
    exact ⟨.func (.func f) (first.map a.eval) #[], by simp [Instr.makeFunc], (first.toList.map a.eval), by congr 1; apply Array.ext'; simp, this⟩
theorem constCells_ok : ∀ (l : List Value) (cs : List (CV Θ.T)), constCells l = some cs → All2 (RCV Θ W F bx rw_) cs l := by
  intro l
  induction l with
  | nil => intro cs h; simp [constCells] at h; subst h; exact .nil
  | cons v l ih =>
    intro cs h
    simp only [constCells] at h
    split at h <;> try (cases h; done)
    rename_i c r hc hr
    cases h
    exact .cons (rcv_const hc) (ih r hr)
theorem zeroCells_ok {t : TypeId} {cs : List (CV Θ.T)} (h : zeroCells P t = some cs) : ∃ i z, P.info? t = some i ∧ i.zero = some z ∧ All2 (RCV Θ W F bx rw_) cs z.cells.toList := by
  unfold zeroCells at h
  split at h <;> try (cases h; done)
  rename_i i hi
  split at h <;> try (cases h; done)
  rename_i z hz
  exact ⟨i, z, hi, hz, constCells_ok _ _ h⟩
theorem cellsOfAV_ok (hr : ∀ r g, (∃ A n c, rw_ r g = .slice A n c) ∨ ∃ b, rw_ r g = .map b) {x : AV Θ.T} {cs : List (CV Θ.T)} {u : Value} (h : cellsOfAV x = some cs) (hx : RAV Θ W F bx rw_ x u) : All2 (RCV Θ W F bx rw_) cs u.cells.toList := by
  unfold cellsOfAV at h
  split at h <;> try (cases h; done)
  · rename_i c
    cases h
    have hx' : RCV Θ W F bx rw_ c u := hx
    rw [(RCV.cells hr hx').1]
    exact .cons hx' .nil
  · cases h
    obtain ⟨us, rfl, ha⟩ := hx
    simpa [Value.cells] using ha
theorem foldl_set (vs : List Value) : ∀ (cells : Array Value) (off n : Nat), ((vs.zipIdx n).foldl (fun cs (c, j) => cs.setIfInBounds (off + j) c) cells).toList = (List.range vs.length).foldl (fun l j => l.set (off + (n + j)) (vs.getD j undef)) cells.toList := by
  induction vs with
  | nil => intro cells off n; simp
  | cons v vs ih =>
    intro cells off n
    simp only [List.zipIdx_cons, List.foldl_cons, List.length_cons, List.range_succ_eq_map, List.foldl_map]
    rw [ih]
    simp only [Array.toList_setIfInBounds, List.getD_cons_zero, Nat.add_zero]
    congr 1
    funext l j
    simp only [List.getD_cons_succ]
    congr 1
    omega
theorem set_run (vs : List Value) : ∀ (l : List Value) (off : Nat), off + vs.length ≤ l.length → (List.range vs.length).foldl (fun l j => l.set (off + j) (vs.getD j undef)) l = l.take off ++ vs ++ l.drop (off + vs.length) := by
  induction vs with
  | nil => intro l off h; simp
  | cons v vs ih =>
    intro l off h
    simp only [List.length_cons, List.range_succ_eq_map, List.foldl_cons, List.foldl_map, List.getD_cons_zero, Nat.add_zero, List.getD_cons_succ]
    have := ih (l.set off v) (off + 1) (by simp at h ⊢; omega)
    rw [show (fun (l : List Value) (j : Nat) => l.set (off + j.succ) (vs.getD j undef)) = fun l j => l.set (off + 1 + j) (vs.getD j undef) by funext l j; congr 1; omega]
    rw [this]
    have ho : off < l.length := by simp at h; omega
    rw [List.take_add_one, List.take_set_of_le (Nat.le_refl _), List.drop_set_of_lt (by omega)]
    simp [ho]
    rw [show off + 1 + vs.length = off + (vs.length + 1) by omega]
theorem fill_run (place : Nat → Option (Nat × Nat)) (cells : List Value) (i off : Nat) (v : Value) (rest : List (Nat × Value)) (hp : place i = some (off, v.cells.size)) (hl : off + v.cells.size ≤ cells.length) :
    Instr.fill place cells.toArray ((i, v) :: rest) = Instr.fill place (cells.take off ++ v.cells.toList ++ cells.drop (off + v.cells.size)).toArray rest := by
  have hf : (v.cells.zipIdx.foldl (fun cs (c, j) => cs.setIfInBounds (off + j) c) cells.toArray) = (cells.take off ++ v.cells.toList ++ cells.drop (off + v.cells.size)).toArray := by
    apply Array.ext'
    rw [← Array.foldl_toList, Array.toList_zipIdx]
    rw [foldl_set v.cells.toList cells.toArray off 0]
    simp only [Nat.zero_add]
    rw [set_run v.cells.toList cells off (by simpa using hl)]
    simp
  simp only [Instr.fill, hp, List.size_toArray]
  rw [if_neg (by simp; omega)]
  exact congrArg (fun c => Instr.fill place c rest) hf
theorem parts_ok (hrw : ∀ r g, (∃ A n c, rw_ r g = .slice A n c) ∨ ∃ b, rw_ r g = .map b) (a : Act) (ha : ∀ x, RAV Θ W F bx rw_ (s.ev x) (a.eval x)) {t : TypeId} (place : Nat → Option (Nat × Nat))
    (hpl : ∀ f off ft n, fieldOff P t f = some (off, ft, n) → place f = some (off, n)) : ∀ (l : List (Nat × Operand)) (cs rs : List (CV Θ.T)) (us : List Value), fillParts P s t l cs = some rs → All2 (RCV Θ W F bx rw_) cs us →
    ∃ vs : List Value, Instr.fill place us.toArray (l.map fun p => (p.1, a.eval p.2)) = some vs.toArray ∧ All2 (RCV Θ W F bx rw_) rs vs := by
  intro l
  induction l with
  | nil => intro cs rs us h hu; simp [fillParts] at h; subst h; exact ⟨us, rfl, hu⟩
  | cons p l ih =>
    intro cs rs us h hu
    obtain ⟨f, x⟩ := p
    simp only [fillParts] at h
    split at h <;> try (cases h; done)
    rename_i off ft n hf
    split at h <;> try (cases h; done)
    rename_i vs hvs
    split at h <;> try (cases h; done)
    rename_i hc
    obtain ⟨hn, hle⟩ := hc
    have hv := cellsOfAV_ok hrw hvs (ha x)
    have hsz : (a.eval x).cells.size = n := by rw [← hn, hv.length, Array.length_toList]
    have hul : off + (a.eval x).cells.size ≤ us.length := by rw [hsz, ← hu.length]; exact hle
    simp only [List.map_cons]
    rw [fill_run place us f off (a.eval x) _ (by rw [hsz]; exact hpl f off ft n hf) hul]
    refine ih _ _ _ h ?_
    have := ((hu.take off).append hv).append (hu.drop (off + n))
    rw [hsz]
    exact this
theorem mapM_run {A B : Type} (f : A → Sem B) (g : A → B) (l : List A) (h : ∀ x ∈ l, (f x).run P W = .ok (g x) W) : (l.mapM f).run P W = .ok (l.map g) W := by
  induction l with
  | nil => simp
  | cons x l ih =>
    rw [List.mapM_cons]
    simp [h x (by simp), ih (fun y hy => h y (by simp [hy]))]
theorem build_ok (hrw : ∀ r g, (∃ A n c, rw_ r g = .slice A n c) ∨ ∃ b, rw_ r g = .map b) (a : Act) (ha : ∀ x, RAV Θ W F bx rw_ (s.ev x) (a.eval x)) {t : TypeId} {parts : Array (Nat × Operand)} {c : Bool} {v : AV Θ.T} (h : vBuild P s t parts = some (c, v)) :
    ∃ r, (Instr.build t (parts.map fun (i, x) => (i, a.eval x))).run P W = .ok r W ∧ RAV Θ W F bx rw_ v r := by
  unfold vBuild at h
  split at h <;> try (cases h; done)
  rename_i hst
  obtain ⟨fs, hu, hall⟩ : ∃ fs, P.underlying t = some (.struct fs) ∧ ∀ d ∈ fs, (P.info? d.type).isSome = true := by
    unfold structOk at hst
    split at hst
    · rename_i fs hu
      exact ⟨fs, hu, fun d hd => by simpa using (List.all_eq_true.1 hst) d (by simpa using hd)⟩
    · cases hst
  split at h <;> try (cases h; done)
  rename_i zs hz
  split at h <;> try (cases h; done)
  rename_i cs hcs
  cases h
  obtain ⟨i, z, hi, hiz, hza⟩ := zeroCells_ok (W := W) (F := F) (bx := bx) (rw_ := rw_) hz
  let g : Field → Nat × Nat := fun d => (d.offset, P.cellsOf d.type)
  have hm : (fs.mapM fun f => Prod.mk f.offset <$> sizeOf f.type : Sem (Array (Nat × Nat))).run P W = .ok (fs.map g) W := by
    rw [Array.mapM_eq_mapM_toList]
    have := mapM_run (P := P) (W := W) (fun f : Field => (Prod.mk f.offset <$> sizeOf f.type : Sem (Nat × Nat))) g fs.toList (fun d hd => by
      obtain ⟨i, hi⟩ := Option.isSome_iff_exists.1 (hall d (by simpa using hd))
      simp [sizeOf, typeInfo, hi, g, Program.cellsOf])
    simp only [Sem.run_map, this, Result.andThen_ok]
    exact congrArg (fun a => Result.ok a W) (by apply Array.ext'; simp)
  have hpl : ∀ f off ft n, fieldOff P t f = some (off, ft, n) → ((fs.map g)[f]?) = some (off, n) := by
    intro f off ft n hf
    obtain ⟨fs', d, i, hu', hd, hi, _, rfl, rfl, rfl⟩ := fieldOff_ok hf
    rw [hu] at hu'
    cases hu'
    simp [hd, g, Program.cellsOf, hi]
  obtain ⟨vs, h1, h2⟩ := parts_ok hrw a ha (fun j => (fs.map g)[j]?) hpl _ _ _ _ hcs hza
  refine ⟨.agg vs.toArray, ?_, vs, rfl, h2⟩
  have h1' : Instr.fill (fun j => Option.map g fs[j]?) z.cells (parts.toList.map fun p => (p.1, a.eval p.2)) = some vs.toArray := by simpa using h1
  simp [Instr.build, zeroValue, typeInfo, hi, hiz, run_underlying hu, hm, h1']
theorem len_ok (hS : Sim Θ E s tm W bx rw_) {t ty : TypeId} {x : AV Θ.T} {u : Value} {c : Bool} {v : AV Θ.T} (ts : Array TypeId) (hts : ts[0]? = some t) (h : vLen P Θ s t x = some (c, v)) (hr : RAV Θ W (FF E s bx rw_ W) bx rw_ x u) :
    ∃ r, (Builtin.len_ ts ty #[u]).run P W = .ok r W ∧ RAV Θ W (FF E s bx rw_ W) bx rw_ v r := by
  unfold vLen at h
  split at h <;> try (cases h; done)
  · split at h <;> try (cases h; done)
    rename_i b _ hu
    cases h
    rw [rav_str hr]
    exact ⟨_, by simp [Builtin.len_, hts, run_underlying hu]; rfl, .int _ _⟩
  · split at h <;> try (cases h; done)
    rename_i hu
    cases h
    have hr' : u = .slice none 0 0 := hr
    rw [hr']
    exact ⟨_, by simp [Builtin.len_, hts, run_underlying hu]; rfl, .int _ _⟩
  · split at h <;> try (cases h; done)
    rename_i hu
    cases h
    cases hr with
    | sl _ _ A n cap us hn hcap _ hA hr => subst hn; exact ⟨_, by simp [Builtin.len_, hts, run_underlying hu]; rfl, .int _ _⟩
  · split at h <;> try (cases h; done)
    rename_i hu
    split at h <;> try (cases h; done)
    rename_i R hR
    split at h <;> try (cases h; done)
    rename_i hg
    cases h
    obtain ⟨hg, hsl⟩ := hg
    subst hg
    have hr' : u = rw_ _ R.gen := hr
    obtain ⟨_, us, hown, ha⟩ := hS.rows _ R hR
    obtain ⟨A, c, hv⟩ := (hown.s hsl).form.1
    rw [hr', hv]
    exact ⟨_, by simp [Builtin.len_, hts, run_underlying hu]; rfl, .int _ _⟩
theorem drop1_enc {F : Nat → Prop} {e : TypeId} {x : Θ.T e} {m : MapEntry} (h : EntR Θ W F e x m) : All2 (RCV Θ W F bx rw_) (((Θ.enc e x).drop 1).map .v) m.val.cells.toList := by
  have h1 := h.drop 1
  simp only [entCells, List.drop_succ_cons, List.drop_zero] at h1
  exact All2.map_left h1
theorem val_of {t : TypeId} {cs : List (CV Θ.T)} {v : AV Θ.T} {u : Value} (h : ofCells P t cs = some v) (hu : if aggV' P t = true then u = .agg u.cells else u.cells = #[u]) (ha : All2 (RCV Θ W F bx rw_) cs u.cells.toList) : RAV Θ W F bx rw_ v u := by
  unfold aggV' at hu
  rcases ofCells_ok h with ⟨h1, rfl⟩ | ⟨h1, c, hc, rfl⟩
  · rw [h1] at hu
    simp only [if_true] at hu
    exact ⟨u.cells.toList, by rw [Array.toArray_toList]; exact hu, ha⟩
  · rw [h1] at hu
    simp only [Bool.false_eq_true, if_false] at hu
    subst hc
    rw [hu] at ha
    cases ha with | cons h1 _ => exact h1
theorem sumOf_ok {v : AV Θ.T} {q : CV Θ.T ⊕ List (CV Θ.T)} {u : Value} (h : sumOf v = some q) (hv : RAV Θ W F bx rw_ v u) : RSum Θ W F bx rw_ q u := by
  unfold sumOf at h
  split at h <;> try (cases h; done)
  · cases h; exact hv
  · cases h; exact hv
theorem lookup_ok (hS : Sim Θ E s tm W bx rw_) {t : TypeId} {x y : AV Θ.T} {ok : Bool} {u i : Value} {v : AV Θ.T} (h : vLookup P Θ s t x ok y = some (true, v)) (hx : RAV Θ W (FF E s bx rw_ W) bx rw_ x u) (hy : RAV Θ W (FF E s bx rw_ W) bx rw_ y i) :
    ∃ r, (Instr.lookup t u i ok).run P W = .ok r W ∧ RAV Θ W (FF E s bx rw_ W) bx rw_ v r := by
  unfold vLookup at h
  split at h <;> try (cases h; done)
  rename_i k
  split at h <;> try (cases h; done)
  rename_i kt et hu
  split at h <;> try (cases h; done)
  rename_i hkt
  split at h <;> try (cases h; done)
  rename_i r g
  split at h <;> try (cases h; done)
  rename_i R hR
  split at h <;> try (cases h; done)
  rename_i hg
  obtain ⟨hg, hme⟩ := hg
  subst hg
  split at h <;> try (cases h; done)
  rename_i inf hinf
  split at h <;> try (cases h; done)
  rename_i zv hzv
  split at h <;> try (cases h; done)
  rename_i hzagg
  split at h <;> try (cases h; done)
  rename_i zs hzs
  split at h <;> try (cases h; done)
  rename_i hzl
  split at h <;> try (cases h; done)
  rename_i z hz
  split at h <;> try (cases h; done)
  rename_i v' hv'
  obtain ⟨hsl, hpar⟩ := mapE_spec hme
  have hi : i = .string k := rep_str hy
  subst hi
  have hx' : u = rw_ r R.gen := hx
  subst hx'
  obtain ⟨_, us, hown, ha⟩ := hS.rows r R hR
  rcases hown with ⟨h1, _⟩ | ⟨_, b, es, ck, hv, hheap, hn, hxs, hes⟩
  · rw [hsl] at h1; cases h1
  have hents := ents_of R.l es.toList (by rw [Array.length_toList, hn]) (fun m hm => (hes m hm).1) (by rw [← hxs]; exact ha)
  have hhd := head_of hz
  have hzc : All2 (RCV Θ W (FF E s bx rw_ W) bx rw_) (.v (.str k) :: zs) (.string k :: zv.cells.toList) := .cons (.str k) (constCells_ok _ _ hzs)
  have hzr := elem_plain (cs := .v (.str k) :: zs) (by simp only [List.all_cons, Bool.and_eq_true]; exact ⟨rfl, hzl.2⟩) hz hzc
  have hzw : if aggV' P et = true then zv = .agg zv.cells else zv.cells = #[zv] := by
    rw [← hzagg]
    cases zv <;> simp [aggV, Value.cells]
  have fin : ∀ (w : Value) (bo : Bool) (l : List (CV Θ.T)), (if aggV' P et = true then w = .agg w.cells else w.cells = #[w]) → All2 (RCV Θ W (FF E s bx rw_ W) bx rw_) l w.cells.toList → l = ((Θ.enc R.e (findP (fun x => strEq (mkey Θ R.e x) k) z R.l)).drop 1).map .v →
      bo = hasP (fun x => strEq (mkey Θ R.e x) k) R.l → RAV Θ W (FF E s bx rw_ W) bx rw_ v (if ok = true then .tuple #[w, .bool bo] else w) := by
    intro w bo l hw hl e1 e2
    subst e1 e2
    have hrv := val_of hv' hw hl
    split at h
    · rename_i hok
      split at h <;> try (cases h; done)
      rename_i q hq
      cases h
      rw [if_pos hok]
      exact ⟨[w, .bool _], rfl, .cons (sumOf_ok hq hrv) (.cons (.bool _) .nil)⟩
    · rename_i hok
      cases h
      rw [if_neg hok]
      exact hrv
  have hkis : MapKept.IsKey .string (.string k) := trivial
  rcases find_spec hhd k z R.l es.toList 0 hents with ⟨h1, h2, h3, h4⟩ | ⟨j, x, m, h1, h2, h3, h4, h5, h6, h7, h8⟩
  · refine ⟨_, ?_, fin zv false _ hzw (drop1_enc (m := ⟨.string k, zv, 0⟩) hzr) (by rw [h2]) h3.symm⟩
    rw [hv]
    simp [Instr.lookup, run_underlying hu, MapKept.run_getObj_map hheap, MapKept.run_checkKey hkt hkis, MapKept.run_findKey hkt h1, zeroValue, typeInfo, hinf, hzv, Result.andThen]
  · have hm := hes m (List.mem_of_getElem? h3)
    have hmw : if aggV' P et = true then m.val = .agg m.val.cells else m.val.cells = #[m.val] := by
      have := hm.2
      cases hq : aggV' P et with
      | true => rw [if_pos (hpar.2 hq)] at this; simpa using this
      | false => rw [if_neg (fun e => by have := hpar.1 e; rw [hq] at this; cases this)] at this; simpa using this
    refine ⟨_, ?_, fin m.val true _ hmw (drop1_enc h5) (by rw [h6]) h7.symm⟩
    rw [hv]
    simp [Instr.lookup, run_underlying hu, MapKept.run_getObj_map hheap, MapKept.run_checkKey hkt hkis, MapKept.run_findKey hkt h1, Result.andThen]
theorem best_ok (f : Int → Int → Int) (g : Value → Value → Sem Value) (hg : ∀ k k' x y, g (.int k x) (.int k' y) = pure (.int k (f x y))) {l : List (AV Θ.T)} {us : List Value} {c : Bool} {v : AV Θ.T} (h : vBest f l = some (c, v)) (hr : All2 (RAV Θ W F bx rw_) l us) :
    ∃ x rest r, us = x :: rest ∧ (rest.foldlM g x).run P W = .ok r W ∧ RAV Θ W F bx rw_ v r := by
  unfold vBest at h
  split at h <;> try (cases h; done)
  · cases h
    cases hr with | cons h1 t1 =>
    cases t1 with | cons h2 t2 =>
    cases t2
    rw [rav_int h1, rav_int h2]
    exact ⟨_, _, _, rfl, by simp [hg], .int _ _⟩
  · cases h
    cases hr with | cons h1 t1 =>
    cases t1 with | cons h2 t2 =>
    cases t2 with | cons h3 t3 =>
    cases t3
    rw [rav_int h1, rav_int h2, rav_int h3]
    exact ⟨_, _, _, rfl, by simp [hg], .int _ _⟩
theorem all2_map_ev (a : Act) (ha : ∀ x, RAV Θ W F bx rw_ (s.ev x) (a.eval x)) (l : List Operand) : All2 (RAV Θ W F bx rw_) (l.map s.ev) (l.map a.eval) := by
  induction l with
  | nil => exact .nil
  | cons x l ih => exact .cons (ha x) ih
theorem opV_ok (hS : Sim Θ E s tm W bx rw_) (a : Act) (hat : a.tmps = tm) {eqs : List TypeId} (he : ∀ t ∈ eqs, EqT P t) {o : Oper} {v : AV Θ.T} (h : opV P Θ eqs s o.op = some (true, v)) :
    ∃ r, (execOp a.eval o).run P W = .ok (.value r) W ∧ RAV Θ W (FF E s bx rw_ W) bx rw_ v r := by
  have ha := hS.ev a hat
  obtain ⟨dst, op, ty, pos, after, guard⟩ := o
  simp only at h
  unfold opV at h
  split at h <;> try (cases h; done)
  · cases h; exact ⟨_, by simp [execOp], ha _⟩
  · cases h; exact ⟨_, by simp [execOp], ha _⟩
  · obtain ⟨r, h1, h2⟩ := un_ok (P := P) (W := W) h (ha _)
    exact ⟨r, by simp [execOp, h1], h2⟩
  · rename_i bop xT x y yT
    split at h
    · rename_i hy
      have e0 : (a.eval y) = .nilIface ∧ ∃ u, y = .const u := by
        unfold nilI at hy
        split at hy <;> try (cases hy; done)
        split at hy <;> try (cases hy; done)
        exact ⟨rfl, _, rfl⟩
      obtain ⟨ey, u, rfl⟩ := e0
      have hx := ha x
      unfold vNi at h
      split at h <;> try (cases h; done)
      rename_i hxa
      rw [hxa] at hx
      have ex : a.eval x = .nilIface := hx
      split at h <;> try (cases h; done)
      rename_i ms hu
      have hs : (Op.equal xT .nilIface .nilIface).run P W = .ok true W := eq_ni 9999 xT hu
      have hg : ∀ op : BinOp, eqGuard op xT x (.const u) .nilIface .nilIface = pure () := fun op => by cases op <;> cases x <;> rfl
      split at h <;> try (cases h; done)
      all_goals
        cases h
        refine ⟨_, ?_, .bool _⟩
        simp [execOp, ex, ey, hg, binOp, hs]
    obtain ⟨r, h1, h2⟩ := bin_ok (P := P) (W := W) (ox := x) (oy := y) he h (ha _) (ha _)
    simp only [Sem.run_bind] at h1
    refine ⟨r, ?_, h2⟩
    cases hq : (eqGuard bop xT x y (a.eval x) (a.eval y)).run P W with
    | ok u w1 => rw [hq] at h1; simp only [Result.andThen_ok] at h1; simp [execOp, hq, h1]
    | halt q w1 => rw [hq] at h1; simp at h1
  · obtain ⟨r, h1, h2⟩ := conv_ok (P := P) (W := W) h (ha _)
    exact ⟨r, by simp [execOp, h1], h2⟩
  · obtain ⟨r, h1, h2⟩ := extract_ok (P := P) (W := W) h (ha _)
    exact ⟨r, by simp [execOp, h1], h2⟩
  · rename_i x
    obtain ⟨hv, ad, hu⟩ := nil_ok (W := W) h (ha _)
    subst hv
    refine ⟨a.eval x, by simp [execOp, hu], ha x⟩
  · obtain ⟨r, h1, h2⟩ := fieldAddr_ok (P := P) (W := W) h (ha _)
    exact ⟨r, by simp [execOp, h1], h2⟩
  · obtain ⟨r, h1, h2⟩ := field_ok (P := P) (W := W) h (ha _)
    exact ⟨r, by simp [execOp, h1], h2⟩
  · obtain ⟨r, h1, h2⟩ := load_ok (P := P) hS h (ha _)
    exact ⟨r, by simp [execOp, h1], h2⟩
  · obtain ⟨r, h1, h2⟩ := indexAddr_ok (P := P) hS h (ha _) (ha _)
    exact ⟨r, by simp [execOp, h1], h2⟩
  · obtain ⟨r, h1, h2⟩ := index_ok (P := P) (W := W) h (ha _) (ha _)
    exact ⟨r, by simp [execOp, h1], h2⟩
  · obtain ⟨r, h1, h2⟩ := slice_ok (P := P) (W := W) a ha h (ha _)
    exact ⟨r, by simp [execOp, h1], h2⟩
  · obtain ⟨r, h1, h2⟩ := func_ok (P := P) (W := W) a ha h
    exact ⟨r, by simp [execOp, h1], h2⟩
  · obtain ⟨r, h1, h2⟩ := lookup_ok (P := P) hS h (ha _) (ha _)
    exact ⟨r, by simp [execOp, h1], h2⟩
  · obtain ⟨r, h1, h2⟩ := build_ok (P := P) (W := W) hS.rwsl a ha h
    exact ⟨r, by simp [execOp, h1], h2⟩
  · rename_i c
    obtain ⟨callee, args, ats⟩ := c
    simp only at h
    split at h <;> try (cases h; done)
    · rename_i hcal
      split at h <;> try (cases h; done)
      rename_i x t rest hx ht
      have hx' : args = #[x] := by apply Array.ext'; simpa using hx
      have ht' : ats[0]? = some t := by rw [← Array.getElem?_toList, ht]; rfl
      subst hx'
      obtain ⟨r, h1, h2⟩ := len_ok (P := P) (ty := ty) hS ats ht' h (ha _)
      exact ⟨r, by simp [execOp, resolve, invoke, builtin, h1], h2⟩
    · obtain ⟨x, rest, r, h1, h2, h3⟩ := best_ok (P := P) (W := W) mx Builtin.max2 (fun _ _ _ _ => rfl) h (all2_map_ev a ha _)
      exact ⟨r, by simp [execOp, resolve, invoke, builtin, Builtin.max_, h1, h2], h3⟩
    · obtain ⟨x, rest, r, h1, h2, h3⟩ := best_ok (P := P) (W := W) mn Builtin.min2 (fun _ _ _ _ => rfl) h (all2_map_ev a ha _)
      exact ⟨r, by simp [execOp, resolve, invoke, builtin, Builtin.min_, h1, h2], h3⟩
end
end Go.Den
namespace Go.Den
open Go Go.RowKit
section
variable {T : TypeId → Type}
def CV.mB : CV T → List (Nat × Nat)
  | .box k g _ => [(k, g)]
  | .fn _ caps => caps
  | _ => []
def CV.mR : CV T → List (Nat × Nat)
  | .row r g => [(r, g)]
  | _ => []
def KV.mB : KV T → List (Nat × Nat)
  | .c x => x.mB
  | .agg cs => cs.flatMap CV.mB
  | .cel _ => []
def KV.mR : KV T → List (Nat × Nat)
  | .c x => x.mR
  | .agg cs => cs.flatMap CV.mR
  | .cel _ => []
def AV.mB : AV T → List (Nat × Nat)
  | .c x => x.mB
  | .agg cs => cs.flatMap CV.mB
  | .tup l => l.flatMap fun
    | .inl x => x.mB
    | .inr cs => cs.flatMap CV.mB
  | .mth _ l => l.flatMap fun
    | .inl x => x.mB
    | .inr cs => cs.flatMap CV.mB
  | .yld _ l => l.flatMap KV.mB
  | _ => []
def AV.mR : AV T → List (Nat × Nat)
  | .c x => x.mR
  | .agg cs => cs.flatMap CV.mR
  | .tup l => l.flatMap fun
    | .inl x => x.mR
    | .inr cs => cs.flatMap CV.mR
  | .mth _ l => l.flatMap fun
    | .inl x => x.mR
    | .inr cs => cs.flatMap CV.mR
  | .yld _ l => l.flatMap KV.mR
  | .rel r g _ _ _ => [(r, g)]
  | _ => []
def has (l : List (Nat × Nat)) (k g : Nat) : Bool := l.any fun p => p.1 == k && p.2 == g
def St.noB (s : St T) (k g : Nat) : Bool := s.slots.all (fun a => !(has a.mB k g)) && s.boxes.all fun b => b.2.cells.all fun c => !(has c.mB k g)
def St.noR (s : St T) (k g : Nat) : Bool := s.slots.all (fun a => !(has a.mR k g)) && s.boxes.all fun b => b.2.cells.all fun c => !(has c.mR k g)
def St.nextB (s : St T) (k : Nat) : Nat := match look s.boxes k with
  | some B => B.gen + 1
  | none => 0
def St.nextR (s : St T) (k : Nat) : Nat := match look s.rows k with
  | some R => R.gen + 1
  | none => 0
def St.newBox (s : St T) (d t : Nat) (cs : List (CV T)) : Option (St T) :=
  if (s.noB d (s.nextB d) && Nat.blt d pin) then some { slots := s.slots.set d (.c (.box d (s.nextB d) 0)), boxes := keep s.boxes d ⟨s.nextB d, t, cs⟩, rows := s.rows } else none
end
theorem has_false {l : List (Nat × Nat)} {k g : Nat} (h : has l k g = false) : ∀ p ∈ l, ¬ (p.1 = k ∧ p.2 = g) := by
  intro p hp hc
  unfold has at h
  rw [List.any_eq_false] at h
  exact h p hp (by simp [hc.1, hc.2])
theorem look_keep {B : Type} (l : List (Nat × B)) (k : Nat) (b : B) (j : Nat) : look (keep l k b) j = if k = j then some b else look l j := by
  induction l with
  | nil => simp [keep, look]
  | cons x l ih =>
    obtain ⟨i, c⟩ := x
    simp only [keep]
    by_cases h : i = k
    · subst h
      by_cases hj : i = j
      · simp [look, hj]
      · simp [look, hj]
    · by_cases hl : Nat.blt k i = true
      · simp only [h, hl, if_false, if_true, look]
      · by_cases hj : i = j
        · subst hj
          have : ¬ k = i := fun e => h e.symm
          simp [look, h, hl, this]
        · simp [look, h, hl, hj, ih]
theorem keep_comm {B : Type} (l : List (Nat × B)) (k k' : Nat) (b b' : B) (hk : k ≠ k') : keep (keep l k b) k' b' = keep (keep l k' b') k b := by
  have blt : ∀ a c : Nat, Nat.blt a c = decide (a < c) := fun a c => by
    cases h : Nat.blt a c with
    | true => rw [Nat.blt_eq] at h; simp [h]
    | false => have h2 : ¬ a < c := fun h3 => by rw [← Nat.blt_eq] at h3; rw [h] at h3; cases h3
               simp [h2]
  induction l with
  | nil =>
    simp only [keep, blt, decide_eq_true_eq]
    repeat' split
    all_goals first | rfl | omega
  | cons x l ih =>
    obtain ⟨j, c⟩ := x
    rcases Nat.lt_trichotomy k j with h1 | h1 | h1
    · have e1 : ¬ j = k := by omega
      rcases Nat.lt_trichotomy k' j with h2 | h2 | h2
      · have e2 : ¬ j = k' := by omega
        by_cases h3 : k < k'
        · have e3 : ¬ k = k' := hk
          have e4 : ¬ k' < k := by omega
          have e5 : ¬ k' = k := fun e => hk e.symm
          simp [keep, blt, h1, h2, h3, e1, e2, e3, e4, e5]
        · have e3 : ¬ k = k' := hk
          have e4 : k' < k := by omega
          have e5 : ¬ k' = k := fun e => hk e.symm
          simp [keep, blt, h1, h2, h3, e1, e2, e3, e4, e5]
      · subst h2
        have e3 : ¬ k = k' := hk
        have e4 : ¬ k' < k := by omega
        simp [keep, blt, h1, e1, e3, e4]
      · have e2 : ¬ j = k' := by omega
        have e3 : ¬ k = k' := hk
        have e4 : ¬ k' < j := by omega
        have e5 : ¬ k' < k := by omega
        simp [keep, blt, h1, e1, e2, e3, e4, e5]
    · subst h1
      have e3 : ¬ k = k' := hk
      by_cases h3 : k' < k
      · have e5 : ¬ k' = k := fun e => hk e.symm
        have e6 : ¬ k < k' := by omega
        simp [keep, blt, h3, e3, e5, e6]
      · simp [keep, blt, h3, e3]
    · have e1 : ¬ j = k := by omega
      have e0 : ¬ k < j := by omega
      rcases Nat.lt_trichotomy k' j with h2 | h2 | h2
      · have e2 : ¬ j = k' := by omega
        have e4 : ¬ k < k' := by omega
        have e5 : ¬ k' = k := fun e => hk e.symm
        simp [keep, blt, h2, e0, e1, e2, e4, e5]
      · subst h2
        simp [keep, blt, e0, e1]
      · have e2 : ¬ j = k' := by omega
        have e4 : ¬ k' < j := by omega
        simp [keep, blt, e0, e1, e2, e4, ih]
theorem mem_of_look {B : Type} {l : List (Nat × B)} {k : Nat} {b : B} (h : look l k = some b) : (k, b) ∈ l := by
  induction l with
  | nil => simp [look] at h
  | cons x l ih =>
    obtain ⟨i, c⟩ := x
    simp only [look] at h
    split at h
    · rename_i hi; subst hi; cases h; simp
    · exact List.mem_cons_of_mem _ (ih h)
section
variable {Θ : Tab} {W W' : World} {F F' : Nat → Prop} {bx bx' : Nat → Nat → Nat} {rw_ rw' : Nat → Nat → Value}
theorem RCV.trans (hF : ∀ b, F b → F' b) (hW : ∀ b, F b → W'.heap[b]? = W.heap[b]?) {c : CV Θ.T} {u : Value} (hb : ∀ p ∈ c.mB, bx' p.1 p.2 = bx p.1 p.2) (hr : ∀ p ∈ c.mR, rw' p.1 p.2 = rw_ p.1 p.2)
    (h : RCV Θ W F bx rw_ c u) : RCV Θ W' F' bx' rw' c u := by
  cases c with
  | v x => exact Rep.mono h hF hW
  | nil => exact h
  | e0 => exact h
  | np => exact h
  | ni => exact h
  | nm => exact h
  | row r g => have : u = rw_ r g := h; exact this.trans (hr (r, g) (by simp [CV.mR])).symm
  | box k g off =>
    have e : u = .pointer (some ⟨bx k g, off, none⟩) := h
    have := hb (k, g) (by simp [CV.mB])
    simp only at this
    show u = .pointer (some ⟨bx' k g, off, none⟩)
    rw [this]; exact e
  | fn f caps =>
    have e : u = .func (.func f) #[] (caps.map fun kg => Value.pointer (some ⟨bx kg.1 kg.2, 0, none⟩)).toArray := h
    show u = .func (.func f) #[] (caps.map fun kg => Value.pointer (some ⟨bx' kg.1 kg.2, 0, none⟩)).toArray
    rw [e]
    congr 2
    exact List.map_congr_left fun p hp => by rw [hb p (by simpa [CV.mB] using hp)]
theorem RCs.trans (hF : ∀ b, F b → F' b) (hW : ∀ b, F b → W'.heap[b]? = W.heap[b]?) {cs : List (CV Θ.T)} {us : List Value} (hb : ∀ p ∈ cs.flatMap CV.mB, bx' p.1 p.2 = bx p.1 p.2) (hr : ∀ p ∈ cs.flatMap CV.mR, rw' p.1 p.2 = rw_ p.1 p.2)
    (h : All2 (RCV Θ W F bx rw_) cs us) : All2 (RCV Θ W' F' bx' rw') cs us := by
  induction h with
  | nil => exact .nil
  | cons h t ih =>
    exact .cons (RCV.trans hF hW (fun p hp => hb p (by simp [hp])) (fun p hp => hr p (by simp [hp])) h)
      (ih (fun p hp => hb p (by simp only [List.flatMap_cons, List.mem_append]; exact .inr hp)) (fun p hp => hr p (by simp only [List.flatMap_cons, List.mem_append]; exact .inr hp)))
theorem RSums.trans (hF : ∀ b, F b → F' b) (hW : ∀ b, F b → W'.heap[b]? = W.heap[b]?) {l : List (CV Θ.T ⊕ List (CV Θ.T))} {us : List Value}
    (hb : ∀ p ∈ (AV.tup l).mB, bx' p.1 p.2 = bx p.1 p.2) (hr : ∀ p ∈ (AV.tup l).mR, rw' p.1 p.2 = rw_ p.1 p.2)
    (ha : All2 (RSum Θ W F bx rw_) l us) : All2 (RSum Θ W' F' bx' rw') l us := by
  induction ha with
  | nil => exact .nil
  | cons h t ih =>
    rename_i a b as bs
    refine .cons ?_ (ih (fun p hp => hb p ?_) (fun p hp => hr p ?_))
    · cases a with
      | inl c => exact RCV.trans hF hW (fun p hp => hb p (by simp [AV.mB, hp])) (fun p hp => hr p (by simp [AV.mR, hp])) h
      | inr cs =>
        obtain ⟨us, e, ha⟩ := h
        exact ⟨us, e, RCs.trans hF hW (fun p hp => hb p (by simp only [AV.mB, List.flatMap_cons, List.mem_append]; exact .inl hp)) (fun p hp => hr p (by simp only [AV.mR, List.flatMap_cons, List.mem_append]; exact .inl hp)) ha⟩
    · simp only [AV.mB, List.flatMap_cons, List.mem_append]; exact .inr hp
    · simp only [AV.mR, List.flatMap_cons, List.mem_append]; exact .inr hp
theorem RKV.trans (hF : ∀ b, F b → F' b) (hW : ∀ b, F b → W'.heap[b]? = W.heap[b]?) {v : KV Θ.T} {u : Value} (hb : ∀ p ∈ v.mB, bx' p.1 p.2 = bx p.1 p.2) (hr : ∀ p ∈ v.mR, rw' p.1 p.2 = rw_ p.1 p.2)
    (h : RKV Θ W F bx rw_ v u) : RKV Θ W' F' bx' rw' v u := by
  cases v with
  | c x => exact RCV.trans hF hW hb hr h
  | agg cs => obtain ⟨us, e, ha⟩ := h; exact ⟨us, e, RCs.trans hF hW hb hr ha⟩
  | cel xs =>
    obtain ⟨ad, e, hs, hf, hc⟩ := h
    refine ⟨ad, e, hs, fun hne => hF _ (hf hne), fun j x hx => ?_⟩
    obtain ⟨c, h1, h2⟩ := hc j x hx
    exact ⟨c, (World.cell?_of_block (by rw [Addr.add_block]; exact hW _ (hf fun e => by rw [e] at hx; simp at hx))).trans h1, Rep.mono h2 hF hW⟩
theorem RKVs.trans (hF : ∀ b, F b → F' b) (hW : ∀ b, F b → W'.heap[b]? = W.heap[b]?) {l : List (KV Θ.T)} {us : List Value} (hb : ∀ p ∈ l.flatMap KV.mB, bx' p.1 p.2 = bx p.1 p.2) (hr : ∀ p ∈ l.flatMap KV.mR, rw' p.1 p.2 = rw_ p.1 p.2)
    (h : All2 (RKV Θ W F bx rw_) l us) : All2 (RKV Θ W' F' bx' rw') l us := by
  induction h with
  | nil => exact .nil
  | cons h t ih =>
    exact .cons (RKV.trans hF hW (fun p hp => hb p (by simp [hp])) (fun p hp => hr p (by simp [hp])) h)
      (ih (fun p hp => hb p (by simp only [List.flatMap_cons, List.mem_append]; exact .inr hp)) (fun p hp => hr p (by simp only [List.flatMap_cons, List.mem_append]; exact .inr hp)))
theorem RRec.kept {lb y : Nat} {R : Rng} {rec : Loop} (h : RRec Θ W lb y R rec) (hW : W'.heap[lb]? = W.heap[lb]?) : RRec Θ W' lb y R rec :=
  ⟨hW.trans h.at_, h.ready, h.pending, h.tab, h.ps, h.assign, h.body, h.size⟩
theorem RAV.trans (hF : ∀ b, F b → F' b) (hW : ∀ b, F b → W'.heap[b]? = W.heap[b]?) {v : AV Θ.T} {u : Value} (hb : ∀ p ∈ v.mB, bx' p.1 p.2 = bx p.1 p.2) (hr : ∀ p ∈ v.mR, rw' p.1 p.2 = rw_ p.1 p.2)
    (h : RAV Θ W F bx rw_ v u) : RAV Θ W' F' bx' rw' v u := by
  cases v with
  | c x => exact RCV.trans hF hW hb hr h
  | agg cs => obtain ⟨us, e, ha⟩ := h; exact ⟨us, e, RCs.trans hF hW hb hr ha⟩
  | tup l => obtain ⟨us, e, ha⟩ := h; exact ⟨us, e, RSums.trans hF hW hb hr ha⟩
  | mth f l => obtain ⟨us, e, ha⟩ := h; exact ⟨us, e, RSums.trans hF hW hb hr ha⟩
  | cel xs =>
    obtain ⟨ad, e, hs, hf, hc⟩ := h
    refine ⟨ad, e, hs, fun hne => hF _ (hf hne), fun j x hx => ?_⟩
    obtain ⟨c, h1, h2⟩ := hc j x hx
    exact ⟨c, (World.cell?_of_block (by rw [Addr.add_block]; exact hW _ (hf fun e => by rw [e] at hx; simp at hx))).trans h1, Rep.mono h2 hF hW⟩
  | yld y l =>
    obtain ⟨lb, R, rec, e, hf, hr', ha⟩ := h
    exact ⟨lb, R, rec, e, hF _ hf, hr'.kept (hW _ hf), RKVs.trans hF hW hb hr ha⟩
  | rel r g i sz off =>
    obtain ⟨b, n, cap, e1, h0, h1, e2⟩ := h
    exact ⟨b, n, cap, (hr (r, g) (by simp [AV.mR])).trans e1, h0, h1, e2⟩
  | nilq e => exact h
  | skip => exact h
  | undef => exact h
end
section
variable {Θ : Tab} {E : Env} {s : St Θ.T} {tm : Array Value} {W : World} {bx : Nat → Nat → Nat} {rw_ : Nat → Nat → Value} {P : Program}
theorem noB_slots {k g : Nat} (h : s.noB k g = true) (i : Nat) : ∀ p ∈ (s.at_ i).mB, ¬ (p.1 = k ∧ p.2 = g) := by
  simp only [St.noB, Bool.and_eq_true, List.all_eq_true] at h
  unfold St.at_
  rw [List.getD_eq_getElem?_getD]
  cases hi : s.slots[i]? with
  | none => simp [AV.mB]
  | some a => exact has_false (by simpa using h.1 a (List.mem_of_getElem? hi))
theorem noB_boxes {k g : Nat} (h : s.noB k g = true) {j : Nat} {B : BoxS Θ.T} (hB : look s.boxes j = some B) : ∀ p ∈ B.cells.flatMap CV.mB, ¬ (p.1 = k ∧ p.2 = g) := by
  simp only [St.noB, Bool.and_eq_true, List.all_eq_true] at h
  intro p hp
  obtain ⟨c, hc, hp⟩ := List.mem_flatMap.1 hp
  exact has_false (by simpa using h.2 _ (mem_of_look hB) c hc) p hp
theorem noR_slots {k g : Nat} (h : s.noR k g = true) (i : Nat) : ∀ p ∈ (s.at_ i).mR, ¬ (p.1 = k ∧ p.2 = g) := by
  simp only [St.noR, Bool.and_eq_true, List.all_eq_true] at h
  unfold St.at_
  rw [List.getD_eq_getElem?_getD]
  cases hi : s.slots[i]? with
  | none => simp [AV.mR]
  | some a => exact has_false (by simpa using h.1 a (List.mem_of_getElem? hi))
theorem noR_boxes {k g : Nat} (h : s.noR k g = true) {j : Nat} {B : BoxS Θ.T} (hB : look s.boxes j = some B) : ∀ p ∈ B.cells.flatMap CV.mR, ¬ (p.1 = k ∧ p.2 = g) := by
  simp only [St.noR, Bool.and_eq_true, List.all_eq_true] at h
  intro p hp
  obtain ⟨c, hc, hp⟩ := List.mem_flatMap.1 hp
  exact has_false (by simpa using h.2 _ (mem_of_look hB) c hc) p hp
theorem at_set (l : List (AV Θ.T)) (bs : List (Nat × BoxS Θ.T)) (rs : List (Nat × RowS Θ.T)) (d : Nat) (v : AV Θ.T) (i : Nat) (hd : d < l.length) :
    (⟨l.set d v, bs, rs⟩ : St Θ.T).at_ i = if d = i then v else l.getD i .undef := by
  simp only [St.at_, List.getD_eq_getElem?_getD, List.getElem?_set]
  split
  · rename_i h; subst h; simp [hd]
  · rfl
theorem tm_set (tm : Array Value) (d : Nat) (u : Value) (i : Nat) (hd : d < tm.size) : (tm.setIfInBounds d u).getD i undef = if d = i then u else tm.getD i undef := by
  simp only [Array.getD_eq_getD_getElem?, Array.getElem?_setIfInBounds]
  split
  · rename_i h; subst h; simp [hd]
  · rfl
theorem slots_put {W' : World} {F' : Nat → Prop} {bx' : Nat → Nat → Nat} {rw' : Nat → Nat → Value} {bs : List (Nat × BoxS Θ.T)} {rs : List (Nat × RowS Θ.T)} (hl : s.slots.length = tm.size)
    (d : Nat) {v : AV Θ.T} {u : Value} (hv : RAV Θ W' F' bx' rw' v u) (h : ∀ i, RAV Θ W' F' bx' rw' (s.at_ i) (tm.getD i undef)) (i : Nat) :
    RAV Θ W' F' bx' rw' ((⟨s.slots.set d v, bs, rs⟩ : St Θ.T).at_ i) ((tm.setIfInBounds d u).getD i undef) := by
  by_cases hd : d < s.slots.length
  · rw [at_set _ _ _ _ _ _ hd, tm_set _ _ _ _ (by omega)]
    split
    · exact hv
    · exact h i
  · have e1 : s.slots.set d v = s.slots := List.set_eq_of_length_le (by omega)
    have e2 : tm.setIfInBounds d u = tm := by
      apply Array.ext_getElem?
      intro j
      rw [Array.getElem?_setIfInBounds]
      split
      · rename_i hj; subst hj
        rw [if_neg (by omega)]
        exact (Array.getElem?_eq_none (by omega)).symm
      · rfl
    rw [e1, e2]
    exact h i
theorem Sim.put (hS : Sim Θ E s tm W bx rw_) (d : Nat) {v : AV Θ.T} {u : Value} (hv : RAV Θ W (FF E s bx rw_ W) bx rw_ v u) :
    Sim Θ E (s.put (some d) v) (tm.setIfInBounds d u) W bx rw_ where
  below := hS.below
  glob := hS.glob
  pinB := hS.pinB
  pinR := hS.pinR
  rwsl := hS.rwsl
  boxes := hS.boxes
  rows := hS.rows
  bb := hS.bb
  rr := hS.rr
  br := hS.br
  len := by simp [St.put, hS.len]
  slots := slots_put hS.len d hv hS.slots
theorem Sim.newBox (hS : Sim Θ E s tm W bx rw_) {d t : Nat} {cs : List (CV Θ.T)} {us : List Value} {s' : St Θ.T} (h : s.newBox d t cs = some s') (hc : All2 (RCV Θ W (FF E s bx rw_ W) bx rw_) cs us) (hcs : ∀ c ∈ cs, has c.mB d (s.nextB d) = false) :
    ∃ bx', Sim Θ E s' (tm.setIfInBounds d (.pointer (some ⟨W.heap.size, 0, none⟩))) (W.alloc (.cells us.toArray t)) bx' rw_ := by
  unfold St.newBox at h
  split at h <;> try (cases h; done)
  rename_i hn
  simp only [Bool.and_eq_true, Nat.blt_eq] at hn
  obtain ⟨hn, hdp⟩ := hn
  cases h
  generalize hg : s.nextB d = g at *
  let bx' : Nat → Nat → Nat := fun k q => if k = d ∧ q = g then W.heap.size else bx k q
  have hbx : ∀ l : List (Nat × Nat), (∀ p ∈ l, ¬ (p.1 = d ∧ p.2 = g)) → ∀ p ∈ l, bx' p.1 p.2 = bx p.1 p.2 := fun l hl p hp => if_neg (hl p hp)
  have hlook : ∀ k B, look (keep s.boxes d ⟨g, t, cs⟩) k = some B → (k = d ∧ B = ⟨g, t, cs⟩) ∨ (k ≠ d ∧ look s.boxes k = some B) := by
    intro k B hB
    rw [look_keep] at hB
    split at hB
    · rename_i e; cases hB; exact .inl ⟨e.symm, rfl⟩
    · rename_i e; exact .inr ⟨fun e' => e e'.symm, hB⟩
  have hlt : ∀ k B, look s.boxes k = some B → bx k B.gen < W.heap.size := fun k B hB => by
    obtain ⟨_, cv, hh, _⟩ := hS.boxes k B hB
    exact (Array.getElem?_eq_some_iff.1 hh).1
  have hrlt : ∀ r R b, look s.rows r = some R → ob (rw_ r R.gen) = some b → b < W.heap.size := fun r R b hR hb => by
    obtain ⟨_, us, hown, _⟩ := hS.rows r R hR
    exact hown.lt hb
  have hF : ∀ b, FF E s bx rw_ W b → FF E ⟨s.slots.set d (.c (.box d g 0)), keep s.boxes d ⟨g, t, cs⟩, s.rows⟩ bx' rw_ (W.alloc (.cells us.toArray t)) b := by
    rintro b ⟨h1, h2, h3⟩
    refine ⟨h1, by simp; omega, ?_⟩
    rintro (⟨k, B, hB, hb⟩ | hr)
    · rcases hlook k B hB with ⟨rfl, rfl⟩ | ⟨hk, hB'⟩
      · simp [bx'] at hb; omega
      · have : bx' k B.gen = bx k B.gen := if_neg (fun e => hk e.1)
        exact h3 (.inl ⟨k, B, hB', this ▸ hb⟩)
    · exact h3 (.inr hr)
  have hW : ∀ b, FF E s bx rw_ W b → (W.alloc (.cells us.toArray t)).heap[b]? = W.heap[b]? := fun b hb => heap_alloc_old W _ hb.2.1
  have hown : ∀ b, b < W.heap.size → (W.alloc (.cells us.toArray t)).heap[b]? = W.heap[b]? := fun b hb => heap_alloc_old W _ hb
  refine ⟨bx', ⟨hS.below.alloc _, hS.glob, fun k b hkb => ?_, hS.pinR, hS.rwsl, fun k B hB => ?_, fun r R hR => ?_, ?_, hS.rr, ?_, by simp [hS.len], ?_⟩⟩
  · obtain ⟨h1, h2⟩ := hS.pinB k b hkb
    refine ⟨h1, fun B hB h0 => ?_⟩
    rcases hlook k B hB with ⟨rfl, _⟩ | ⟨hk, hB'⟩
    · omega
    · have e : bx' k 0 = bx k 0 := if_neg (fun e => hk e.1)
      rw [e]; exact h2 B hB' h0
  · rcases hlook k B hB with ⟨rfl, rfl⟩ | ⟨hk, hB'⟩
    · refine ⟨?_, us, ?_, ?_⟩
      · simp only [bx']; simpa using Env.own_new hS.below (Nat.le_refl _)
      · simp only [bx']; simpa using heap_alloc_new W _
      · exact RCs.trans hF hW (hbx _ (fun p hp => by
          obtain ⟨c, hc1, hp⟩ := List.mem_flatMap.1 hp
          exact has_false (hcs c hc1) p hp)) (fun _ _ => rfl) hc
    · have e : bx' k B.gen = bx k B.gen := if_neg (fun e => hk e.1)
      obtain ⟨h1, cv, hh, ha⟩ := hS.boxes k B hB'
      exact ⟨by rw [e]; exact h1, cv, by rw [e, hown _ (hlt k B hB')]; exact hh, RCs.trans hF hW (hbx _ (noB_boxes hn hB')) (fun _ _ => rfl) ha⟩
  · obtain ⟨hob, vs, ho, ha⟩ := hS.rows r R hR
    exact ⟨hob, vs, ho.alloc _, ha.mono fun x u hx => Rep.mono hx hF hW⟩
  · intro k B k' B' hB hB' he
    rcases hlook k B hB with ⟨rfl, rfl⟩ | ⟨hk, hB1⟩ <;> rcases hlook k' B' hB' with ⟨rfl, rfl⟩ | ⟨hk', hB1'⟩
    · rfl
    · have e : bx' k' B'.gen = bx k' B'.gen := if_neg (fun e => hk' e.1)
      have e2 : bx' k g = W.heap.size := if_pos ⟨rfl, rfl⟩
      have := hlt k' B' hB1'
      rw [e] at he
      simp only [e2] at he
      omega
    · have e : bx' k B.gen = bx k B.gen := if_neg (fun e => hk e.1)
      have e2 : bx' k' g = W.heap.size := if_pos ⟨rfl, rfl⟩
      have := hlt k B hB1
      rw [e] at he
      simp only [e2] at he
      omega
    · have e : bx' k B.gen = bx k B.gen := if_neg (fun e => hk e.1)
      have e' : bx' k' B'.gen = bx k' B'.gen := if_neg (fun e => hk' e.1)
      rw [e, e'] at he
      exact hS.bb k B k' B' hB1 hB1' he
  · intro k B r R hB hR he
    rcases hlook k B hB with ⟨rfl, rfl⟩ | ⟨hk, hB1⟩
    · have e2 : bx' k g = W.heap.size := if_pos ⟨rfl, rfl⟩
      simp only [e2] at he
      have := hrlt r R _ hR he
      omega
    · have e : bx' k B.gen = bx k B.gen := if_neg (fun e => hk e.1)
      rw [e] at he
      exact hS.br k B r R hB1 hR he
  · exact slots_put hS.len d (by simp [RAV, RCV, bx']) (fun i => RAV.trans hF hW (hbx _ (noB_slots hn i)) (fun _ _ => rfl) (hS.slots i))
theorem Sim.newRow (hS : Sim Θ E s tm W bx rw_) {d r g : Nat} {e : TypeId} {l : List (Θ.T e)} {v' : Value} {W' : World} {us : List Value} {blk : Option Nat} (hn : s.noR r g = true) (hpin : r < pin ∨ 0 < g)
    (hown : Owns W' e (Θ.sz e) v' l.length us) (hrep : All2 (fun x u => Rep Θ W (FF E s bx rw_ W) u x) (l.flatMap (Θ.enc e)) us) (hg : W.grownBy W' blk)
    (hblk : ∀ b, blk = some b → ∃ R, look s.rows r = some R ∧ ob (rw_ r R.gen) = some b) (hnew : ∀ b, ob v' = some b → blk = some b ∨ W.heap.size ≤ b) :
    ∃ rw', Sim Θ E ⟨s.slots.set d (.c (.row r g)), s.boxes, keep s.rows r ⟨g, e, l⟩⟩ (tm.setIfInBounds d v') W' bx rw' := by
  let rw' : Nat → Nat → Value := fun k q => if k = r ∧ q = g then v' else rw_ k q
  have hrw : ∀ l : List (Nat × Nat), (∀ p ∈ l, ¬ (p.1 = r ∧ p.2 = g)) → ∀ p ∈ l, rw' p.1 p.2 = rw_ p.1 p.2 := fun l hl p hp => if_neg (hl p hp)
  have hlook : ∀ k R, look (keep s.rows r ⟨g, e, l⟩) k = some R → (k = r ∧ R = ⟨g, e, l⟩) ∨ (k ≠ r ∧ look s.rows k = some R) := by
    intro k R hR
    rw [look_keep] at hR
    split at hR
    · rename_i e; cases hR; exact .inl ⟨e.symm, rfl⟩
    · rename_i e; exact .inr ⟨fun e' => e e'.symm, hR⟩
  have hlt : ∀ k B, look s.boxes k = some B → bx k B.gen < W.heap.size := fun k B hB => by
    obtain ⟨_, cv, hh, _⟩ := hS.boxes k B hB
    exact (Array.getElem?_eq_some_iff.1 hh).1
  have hrlt : ∀ r R b, look s.rows r = some R → ob (rw_ r R.gen) = some b → b < W.heap.size := fun r R b hR hb => by
    obtain ⟨_, us, hown, _⟩ := hS.rows r R hR
    exact hown.lt hb
  have hrbase : ∀ r R b, look s.rows r = some R → ob (rw_ r R.gen) = some b → E.Own b := fun r R b hR hb => (hS.rows r R hR).1 b hb
  have hkeep : ∀ b, b < W.heap.size → blk ≠ some b → W'.heap[b]? = W.heap[b]? := fun b hb hne => hg.block b hb (fun e => hne e.symm)
  have hfar : ∀ b, FF E s bx rw_ W b → blk ≠ some b := by
    rintro b ⟨_, _, h3⟩ hb
    obtain ⟨R, hR, hRb⟩ := hblk b hb
    exact h3 (.inr ⟨r, R, hR, hRb⟩)
  have hF : ∀ b, FF E s bx rw_ W b → FF E ⟨s.slots.set d (.c (.row r g)), s.boxes, keep s.rows r ⟨g, e, l⟩⟩ bx rw' W' b := by
    rintro b hb
    have hnb := hfar b hb
    obtain ⟨h1, h2, h3⟩ := hb
    refine ⟨h1, Nat.lt_of_lt_of_le h2 hg.size, ?_⟩
    rintro (hb | ⟨k, R, hR, hb⟩)
    · exact h3 (.inl hb)
    · rcases hlook k R hR with ⟨rfl, rfl⟩ | ⟨hk, hR'⟩
      · have e1 : rw' k g = v' := if_pos ⟨rfl, rfl⟩
        simp only [e1] at hb
        rcases hnew b hb with h | h
        · exact hnb h
        · omega
      · have : rw' k R.gen = rw_ k R.gen := if_neg (fun e => hk e.1)
        rw [this] at hb
        exact h3 (.inr ⟨k, R, hR', hb⟩)
  have hW : ∀ b, FF E s bx rw_ W b → W'.heap[b]? = W.heap[b]? := fun b hb => hkeep b hb.2.1 (hfar b hb)
  have hbox : ∀ k B, look s.boxes k = some B → blk ≠ some (bx k B.gen) := by
    intro k B hB hb
    obtain ⟨R, hR, hRb⟩ := hblk _ hb
    exact hS.br k B r R hB hR hRb
  have hrow : ∀ k R, k ≠ r → look s.rows k = some R → ob (rw_ k R.gen) = none ∨ ob (rw_ k R.gen) ≠ blk := by
    intro k R hk hR
    cases ho : ob (rw_ k R.gen) with
    | none => exact .inl rfl
    | some b =>
      refine .inr fun hb => ?_
      obtain ⟨R', hR', hRb⟩ := hblk b hb.symm
      exact hk (hS.rr k R r R' b hR hR' ho hRb)
  have hbelow : Keeps E W' := hS.below.grown hg (fun b hb => by
    obtain ⟨R, hR, hRb⟩ := hblk b hb
    exact hrbase r R b hR hRb)
  have hvlt : ∀ b, ob v' = some b → E.Own b := fun b hb => by
    rcases hnew b hb with h | h
    · obtain ⟨R, hR, hRb⟩ := hblk b h
      exact hrbase r R b hR hRb
    · exact Env.own_new hS.below h
  refine ⟨rw', ⟨hbelow, hS.glob, hS.pinB, fun k v hkv => ?_, fun k q => ?_, fun k B hB => ?_, fun k R hR => ?_, hS.bb, ?_, ?_, by simp [hS.len], ?_⟩⟩
  · obtain ⟨h1, h2⟩ := hS.pinR k v hkv
    refine ⟨h1, fun R hR h0 => ?_⟩
    rcases hlook k R hR with ⟨rfl, rfl⟩ | ⟨hk, hR'⟩
    · simp only at h0; have := pin_le h1; omega
    · have e : rw' k 0 = rw_ k 0 := if_neg (fun e => hk e.1)
      rw [e]; exact h2 R hR' h0
  · simp only [rw']
    split
    · exact hown.slice
    · exact hS.rwsl k q
  · obtain ⟨h1, cv, hh, ha⟩ := hS.boxes k B hB
    exact ⟨h1, cv, by rw [hkeep _ (hlt k B hB) (hbox k B hB)]; exact hh, RCs.trans hF hW (fun _ _ => rfl) (hrw _ (noR_boxes hn hB)) ha⟩
  · rcases hlook k R hR with ⟨rfl, rfl⟩ | ⟨hk, hR'⟩
    · have e1 : rw' k g = v' := if_pos ⟨rfl, rfl⟩
      exact ⟨by simp only [e1]; exact hvlt, us, by simp only [e1]; exact hown, hrep.mono fun x u hx => Rep.mono hx hF hW⟩
    · have e1 : rw' k R.gen = rw_ k R.gen := if_neg (fun e => hk e.1)
      obtain ⟨hob, vs, ho, ha⟩ := hS.rows k R hR'
      exact ⟨by rw [e1]; exact hob, vs, by rw [e1]; exact ho.kept hg (hrow k R hk hR'), ha.mono fun x u hx => Rep.mono hx hF hW⟩
  · intro k R k' R' b hR hR' hb hb'
    have one : ∀ q R1, q ≠ r → look s.rows q = some R1 → rw' q R1.gen = rw_ q R1.gen := fun q R1 hq _ => if_neg (fun e => hq e.1)
    have two : rw' r g = v' := if_pos ⟨rfl, rfl⟩
    have clash : ∀ q R1, q ≠ r → look s.rows q = some R1 → ob (rw_ q R1.gen) = some b → ob v' = some b → False := by
      intro q R1 hq hR1 h1 h2
      rcases hnew b h2 with h | h
      · rcases hrow q R1 hq hR1 with h' | h'
        · rw [h'] at h1; cases h1
        · exact h' (h1.trans h.symm)
      · have := hrlt q R1 b hR1 h1
        omega
    rcases hlook k R hR with ⟨rfl, rfl⟩ | ⟨hk, hR1⟩ <;> rcases hlook k' R' hR' with ⟨rfl, rfl⟩ | ⟨hk', hR1'⟩
    · rfl
    · simp only [two] at hb
      rw [one _ _ hk' hR1'] at hb'
      exact (clash _ _ hk' hR1' hb' hb).elim
    · simp only [two] at hb'
      rw [one _ _ hk hR1] at hb
      exact (clash _ _ hk hR1 hb hb').elim
    · rw [one _ _ hk hR1] at hb
      rw [one _ _ hk' hR1'] at hb'
      exact hS.rr k R k' R' b hR1 hR1' hb hb'
  · intro k B q R hB hR he
    rcases hlook q R hR with ⟨rfl, rfl⟩ | ⟨hq, hR1⟩
    · have two : rw' q g = v' := if_pos ⟨rfl, rfl⟩
      simp only [two] at he
      rcases hnew _ he with h | h
      · exact hbox k B hB h
      · have := hlt k B hB
        omega
    · have : rw' q R.gen = rw_ q R.gen := if_neg (fun e => hq e.1)
      rw [this] at he
      exact hS.br k B q R hB hR1 he
  · exact slots_put hS.len d (by simp [RAV, RCV, rw']) (fun i => RAV.trans hF hW (fun _ _ => rfl) (hrw _ (noR_slots hn i)) (hS.slots i))
end
end Go.Den
namespace Go.Den
open Go Go.RowKit
section
variable (P : Program) (Θ : Tab)
def St.writeBox {T : TypeId → Type} (s : St T) (k g off : Nat) (vs : List (CV T)) : Option (St T) := match look s.boxes k with
  | some B => if B.gen = g ∧ off + vs.length ≤ B.cells.length then some { s with boxes := keep s.boxes k ⟨B.gen, B.ty, B.cells.take off ++ vs ++ B.cells.drop (off + vs.length)⟩ } else none
  | none => none
def St.writeRow (s : St Θ.T) (r g : Nat) (i : Int) (sz off : Nat) (vs : List (CV Θ.T)) : Option (St Θ.T) := match look s.rows r with
  | some R => if R.gen = g ∧ sz = Θ.sz R.e ∧ off + vs.length ≤ Θ.sz R.e ∧ vs.all plainC then
      (match s.elemOf Θ R.e ((((Θ.enc R.e (elAt Θ R.e R.l i)).map CV.v).take off) ++ vs ++ (((Θ.enc R.e (elAt Θ R.e R.l i)).map CV.v).drop (off + vs.length))) with
        | some y => some { s with rows := keep s.rows r ⟨R.gen, R.e, R.l.set i.toNat y⟩ }
        | none => none) else none
  | none => none
def aStore (s : St Θ.T) (t : TypeId) (ad x : AV Θ.T) : Option (Bool × St Θ.T) := match sizeT P t, cellsOfAV x with
  | some n, some vs => if vs.length = n then (match ad with
      | .c (.box k g off) => (s.writeBox k g off vs).map fun s' => (true, s')
      | .rel r g i sz off => (s.writeRow Θ r g i sz off vs).map fun s' => (true, s')
      | _ => none) else none
  | _, _ => none
def aAlloc {T : TypeId → Type} (s : St T) (d t : Nat) : Option (Bool × St T) := match zeroCells P t with
  | some cs => (s.newBox d t cs).map fun s' => (true, s')
  | none => none
def aBox {T : TypeId → Type} (s : St T) (d t : Nat) (x : AV T) : Option (Bool × St T) := match cellsOfAV x with
  | some cs => if cs.all (fun c => !(has c.mB d (s.nextB d))) then (s.newBox d t cs).map fun s' => (true, s') else none
  | none => none
def St.newRow (s : St Θ.T) (d r e : Nat) (l : List (Θ.T e)) : Option (St Θ.T) :=
  if (s.noR r (s.nextR r) && (Nat.blt r pin || Nat.blt 0 (s.nextR r))) then some ⟨s.slots.set d (.c (.row r (s.nextR r))), s.boxes, keep s.rows r ⟨s.nextR r, e, l⟩⟩ else none
def rowOf (s : St Θ.T) (e : TypeId) : AV Θ.T → Option (List (Θ.T e))
  | .c c => s.get (.sl e) c
  | _ => none
def fitB (n bytes : Nat) : Bool := decide (n * bytes ≤ 140737488355328)
def aAppend (s : St Θ.T) (d t : Nat) (x y : AV Θ.T) : Option (Bool × St Θ.T) := match sliceElem P t with
  | some e => match P.info? e with
    | some i => if i.size = Θ.sz e ∧ 0 < i.size ∧ 0 < i.bytes ∧ (i.zero.map fun z => z.cells.size) = some i.size ∧ slE e = true then (match rowOf Θ s e y with
      | some ys => match x with
        | .c .nil => (s.newRow Θ d d e ys).map fun s' => (fitB ys.length i.bytes, s')
        | .c .e0 => (s.newRow Θ d d e ys).map fun s' => (fitB ys.length i.bytes, s')
        | .c (.row r g) => match look s.rows r with
          | some R => if h : R.gen = g ∧ R.e = e then (s.newRow Θ d r e ((h.2 ▸ R.l) ++ ys)).map fun s' => (fitB (R.l.length + ys.length) i.bytes, s') else none
          | none => none
        | _ => none
      | none => none) else none
    | none => none
  | none => none
def zeroElem (s : St Θ.T) (e : TypeId) : Option (Θ.T e) := match zeroCells P e with
  | some cs => if cs.length = Θ.sz e ∧ cs.all plainC = true then s.elemOf Θ e cs else none
  | none => none
def aMake (s : St Θ.T) (d t : Nat) : AV Θ.T → AV Θ.T → Option (Bool × St Θ.T)
  | .c (.v (.int _ n)), .c (.v (.int _ m)) => match sliceElem P t with
    | some e => match P.info? e with
      | some i => if i.size = Θ.sz e ∧ 0 < i.bytes ∧ slE e = true then (match zeroElem P Θ s e with
        | some y => (s.newRow Θ d d e (List.replicate n.toNat y)).map fun s' => (n == m && decide (0 ≤ n) && decide (n * i.bytes ≤ 281474976710656), s')
        | none => none) else none
      | none => none
    | none => none
  | _, _ => none
def litElems (s : St Θ.T) (e : TypeId) : Nat → List (Nat × Operand) → Option (List (Θ.T e))
  | _, [] => some []
  | j, (i, x) :: r => if i = j then (match cellsOfAV (s.ev x) with
    | some cs => if cs.length = Θ.sz e ∧ cs.all plainC then (match s.elemOf Θ e cs, litElems s e (j + 1) r with
      | some y, some l => some (y :: l)
      | _, _ => none) else none
    | none => none) else none
def aLit (s : St Θ.T) (d t len : Nat) (parts : Array (Nat × Operand)) : Option (Bool × St Θ.T) := match sliceElem P t with
  | some e => match P.info? e with
    | some i => if i.size = Θ.sz e ∧ 0 < i.size ∧ (i.zero.map fun z => z.cells.size) = some i.size ∧ parts.toList.length = len ∧ len * i.size ≤ 16777216 then (match litElems Θ s e 0 parts.toList with
      | some l => some (true, s.put (some d) (if parts.isEmpty then .c .e0 else .c (.v (.sl e l))))
      | none => none) else none
    | none => none
  | none => none
def bytesD (e : TypeId) (b : ByteArray) : List (Θ.T e) := bytesL Θ e b
def ownKey (d t : Nat) : Bool := Θ.L.any fun k => Nat.beq k (100000 * d + t + 50000)
def aBytes (s : St Θ.T) (d src t : TypeId) (b : ByteArray) : Option (Bool × St Θ.T) := match P.underlying src, P.underlying t with
  | some .string, some (.slice e) => (match P.underlying e with
    | some (.int .u8) => if isByte Θ e = true then (if (ownKey Θ d t && slE e) = true then (s.newRow Θ d d e (bytesD Θ e b)).map fun s' => (inB 0 (bytesD Θ e b).length && fitB (bytesD Θ e b).length 1, s') else some (true, s.put (some d) (.c (.v (.sl e (bytesL Θ e b)))))) else none
    | _ => none)
  | _, _ => none
def aLitR (s : St Θ.T) (d t len : Nat) (parts : Array (Nat × Operand)) : Option (Bool × St Θ.T) := match sliceElem P t with
  | some e => match P.info? e with
    | some i => if (i.size = Θ.sz e ∧ 0 < i.size ∧ (i.zero.map fun z => z.cells.size) = some i.size ∧ parts.toList.length = len ∧ len * i.size ≤ 16777216) ∧ slE e = true then (match litElems Θ s e 0 parts.toList with
      | some l => (s.newRow Θ d d e l).map fun s' => (true, s')
      | none => none) else none
    | none => none
  | none => none
def aMakeMap (s : St Θ.T) (d t : Nat) : Option (Bool × St Θ.T) := match P.underlying t with
  | some (.map kt et) => (match P.underlying kt with
    | some .string => (match mapE P t et with
      | some e => (s.newRow Θ d d e []).map fun s' => (true, s')
      | none => none)
    | _ => none)
  | _ => none
def St.writeMap (s : St Θ.T) (r g e : Nat) (k : ByteArray) (vs : List (CV Θ.T)) : Option (St Θ.T) := match look s.rows r with
  | some R => if R.gen = g ∧ R.e = e ∧ vs.length + 1 = Θ.sz R.e ∧ vs.all plainC then
      (match s.elemOf Θ R.e (.v (.str k) :: vs) with
        | some y => some { s with rows := keep s.rows r ⟨R.gen, R.e, putP (fun x => strEq (mkey Θ R.e x) k) y R.l⟩ }
        | none => none) else none
  | none => none
def aggA {T : TypeId → Type} : AV T → Bool
  | .agg _ => true
  | _ => false
def aMapSet (s : St Θ.T) (t : TypeId) (m k x : AV Θ.T) : Option (Bool × St Θ.T) := match P.underlying t with
  | some (.map kt et) => (match P.underlying kt with
    | some .string => (match m with
      | .c (.row r g) => (match k with
        | .c (.v (.str k)) => (match mapE P t et, cellsOfAV x with
          | some e, some vs => if aggA x = aggV' P et then (s.writeMap Θ r g e k vs).map fun s' => (true, s') else none
          | _, _ => none)
        | _ => none)
      | _ => none)
    | _ => none)
  | _ => none
def litR (Θ : Tab) (o : Oper) : Bool := match o.op with
  | .buildSlice t _ _ => (match o.dst with
    | some d => Θ.L.any fun k => Nat.beq k (100000 * d + t)
    | none => false)
  | .slice t _ _ _ _ => (match o.dst with
    | some d => Θ.L.any fun k => Nat.beq k (100000 * d + t)
    | none => false)
  | .convert _ t _ => (match o.dst with
    | some d => Θ.L.any fun k => Nat.beq k (100000 * d + t)
    | none => false)
  | _ => false
def opA (s : St Θ.T) (o : Oper) : Option (Bool × St Θ.T) := match o.dst with
  | some d => (match o.op with
    | .alloc t => aAlloc P s d t
    | .box t x => aBox s d t (s.ev x)
    | .makeSlice t n m => aMake P Θ s d t (s.ev n) (s.ev m)
    | .makeMap t none => aMakeMap P Θ s d t
    | .buildSlice t len parts => aLit P Θ s d t len parts
    | .call c => match c.callee, c.args.toList, c.argTypes.toList with
      | .builtin .append, [x, y], [t, t'] => if t = t' then aAppend P Θ s d t (s.ev x) (s.ev y) else none
      | _, _, _ => none
    | _ => none)
  | none => (match o.op with
    | .store t ad x => aStore P Θ s t (s.ev ad) (s.ev x)
    | .mapUpdate t m k x => aMapSet P Θ s t (s.ev m) (s.ev k) (s.ev x)
    | _ => none)
end
section
variable {Θ : Tab} {E : Env} {s : St Θ.T} {tm : Array Value} {W : World} {bx : Nat → Nat → Nat} {rw_ : Nat → Nat → Value} {P : Program}
theorem sliceElem_ok {t e : TypeId} (h : sliceElem P t = some e) : P.underlying t = some (.slice e) := by
  unfold sliceElem at h
  split at h
  · rename_i hu; cases h; exact hu
  · cases h
theorem one_of_rep {F : Nat → Prop} {xs : List (PV Θ.T)} {us : List Value} (h : All2 (fun p u => Rep Θ W F u p) xs us) : ∀ u ∈ us, u.oneCell' = true := by
  induction h with
  | nil => simp
  | cons h _ ih => intro u hu; simp at hu; rcases hu with rfl | hu; exact Rep.one h; exact ih u hu
theorem St.newRow_eq {d r e : Nat} {l : List (Θ.T e)} {s' : St Θ.T} (h : s.newRow Θ d r e l = some s') : (s.noR r (s.nextR r) = true ∧ (r < pin ∨ 0 < s.nextR r)) ∧ s' = ⟨s.slots.set d (.c (.row r (s.nextR r))), s.boxes, keep s.rows r ⟨s.nextR r, e, l⟩⟩ := by
  unfold St.newRow at h
  split at h
  · rename_i hn; cases h; simp only [Bool.and_eq_true, Bool.or_eq_true, Nat.blt_eq] at hn; exact ⟨hn, rfl⟩
  · cases h
theorem rep_cells {F : Nat → Prop} {e : TypeId} {l : List (Θ.T e)} {ad : Addr} {n cap : Nat} (h : Rep Θ W F (.slice (some ad) n cap) (.sl e l)) :
    ∃ us : List Value, us.length = n * Θ.sz e ∧ All2 (fun p u => Rep Θ W F u p) (l.flatMap (Θ.enc e)) us ∧ ∀ j u, us[j]? = some u → W.cell? (ad.add j) = some u := by
  cases h with
  | sl _ _ _ _ _ f hn hc hz hA hr =>
    subst hn
    by_cases hne : l = []
    · subst hne; exact ⟨[], by simp, .nil, fun j u h => by simp at h⟩
    · obtain ⟨ad', e1, hs, hf, hcell⟩ := hA hne
      cases e1
      let us := (List.range (l.length * Θ.sz e)).map fun q => f (q / Θ.sz e) (q % Θ.sz e)
      refine ⟨us, by simp [us], ?_, fun j u hj => ?_⟩
      · refine All2.of_get (by simp [us, flatMap_length (Θ.enc e) (Θ.sz e) (Θ.length_enc e)]) (fun q p u hp hu => ?_)
        have hq : q < l.length * Θ.sz e := by
          have := (List.getElem?_eq_some_iff.1 hp).1
          rwa [flatMap_length (Θ.enc e) (Θ.sz e) (Θ.length_enc e)] at this
        have hpos : 0 < Θ.sz e := by
          rcases Nat.eq_zero_or_pos (Θ.sz e) with h | h
          · rw [h] at hq; omega
          · exact h
        have hi : q / Θ.sz e < l.length := (Nat.div_lt_iff_lt_mul hpos).2 hq
        have hj : q % Θ.sz e < Θ.sz e := Nat.mod_lt _ hpos
        have hfm := flatMap_get (Θ.enc e) (Θ.sz e) (Θ.length_enc e) l (q / Θ.sz e) (q % Θ.sz e) _ (List.getElem?_eq_getElem hi) hj
        rw [show q / Θ.sz e * Θ.sz e + q % Θ.sz e = q by rw [Nat.mul_comm]; exact Nat.div_add_mod q _] at hfm
        rw [hp] at hfm
        have hu' : u = f (q / Θ.sz e) (q % Θ.sz e) := by
          simp [us, hq] at hu
          exact hu.symm
        subst hu'
        exact hr _ _ _ p (List.getElem?_eq_getElem hi) hfm.symm
      · have hq : j < l.length * Θ.sz e := by
          have := (List.getElem?_eq_some_iff.1 hj).1
          simpa [us] using this
        have hpos : 0 < Θ.sz e := by
          rcases Nat.eq_zero_or_pos (Θ.sz e) with h | h
          · rw [h] at hq; omega
          · exact h
        simp [us, hq] at hj
        subst hj
        have := hcell (j / Θ.sz e) (j % Θ.sz e) ((Nat.div_lt_iff_lt_mul hpos).2 hq) (Nat.mod_lt _ hpos)
        rwa [show j / Θ.sz e * Θ.sz e + j % Θ.sz e = j by rw [Nat.mul_comm]; exact Nat.div_add_mod j _] at this
theorem rowOf_ok (hS : Sim Θ E s tm W bx rw_) {e : TypeId} (hsl : slE e = true) {x : AV Θ.T} {ys : List (Θ.T e)} {u : Value} (h : rowOf Θ s e x = some ys) (hr : RAV Θ W (FF E s bx rw_ W) bx rw_ x u) :
    (u = .slice none 0 0 ∧ ys = []) ∨ ∃ ad n c us, u = .slice (some ad) n c ∧ n = ys.length ∧ us.length = n * Θ.sz e ∧ All2 (fun p u => Rep Θ W (FF E s bx rw_ W) u p) (ys.flatMap (Θ.enc e)) us ∧ ∀ j u, us[j]? = some u → W.cell? (ad.add j) = some u := by
  cases x with
  | c c => ?_
  | _ => cases h
  replace h : s.get (.sl e) c = some ys := h
  cases c with
  | v p =>
    simp only [St.get] at h
    have := Leaf.get_mk h
    subst this
    have hr' : Rep Θ W (FF E s bx rw_ W) u (.sl e ys) := hr
    cases u with
    | slice A n cap =>
      cases A with
      | none =>
        cases hr' with
        | sl _ _ _ _ _ f hn hc hz hA hr =>
          left
          have h0 := hz rfl
          subst h0
          have : n = 0 := by omega
          subst this
          exact ⟨rfl, List.eq_nil_of_length_eq_zero hn⟩
      | some ad =>
        right
        have hn : ys.length = n := by cases hr'; assumption
        obtain ⟨us, h1, h2, h3⟩ := rep_cells hr'
        exact ⟨ad, n, cap, us, rfl, hn.symm, h1, h2, h3⟩
    | _ => cases hr'
  | nil =>
    simp only [St.get] at h
    cases h
    exact .inl ⟨hr, rfl⟩
  | e0 =>
    simp only [St.get] at h
    cases h
    obtain ⟨A, rfl⟩ := hr
    cases A with
    | none => exact .inl ⟨rfl, rfl⟩
    | some ad => exact .inr ⟨ad, 0, 0, [], rfl, rfl, by simp, .nil, fun j u hj => by simp at hj⟩
  | np => simp [St.get] at h
  | ni => simp [St.get] at h
  | nm => simp [St.get] at h
  | row r g =>
    simp only [St.get] at h
    split at h <;> try (cases h; done)
    rename_i R hR
    split at h <;> try (cases h; done)
    rename_i hg
    subst hg
    have he := Leaf.get_mk h
    obtain ⟨_, us, hown, ha⟩ := hS.rows r R hR
    obtain ⟨g0, e0, l0⟩ := R
    simp only [Leaf.mk, PV.sl.injEq] at he
    obtain ⟨rfl, he⟩ := he
    have hown := hown.s hsl
    cases he
    have hu : u = rw_ r g0 := hr
    rw [hu]
    rcases hown with h | ⟨ad, hv, hn0, hx0⟩ | ht
    · rcases h.2 with ⟨hv, hn0⟩ | ⟨b, cap, cur, hv, _⟩
      · exact .inl ⟨hv, List.eq_nil_of_length_eq_zero hn0⟩
      · refine .inr ⟨⟨b, 0, none⟩, l0.length, cap, us, hv, rfl, h.1, ha, fun j u hj => ?_⟩
        exact h.cells (g := b) (by simp only at hv; rw [hv]; rfl) j u hj
    · simp only at hn0
      exact .inr ⟨ad, 0, 0, us, hv, hn0.symm, by rw [hx0]; simp, ha, fun j u hj => by rw [hx0] at hj; simp at hj⟩
    · have ht0 := ht
      obtain ⟨⟨hl, _⟩, b, cap, cur, fz, hv, _⟩ := ht
      exact .inr ⟨⟨b, 0, none⟩, l0.length, cap, us, hv, rfl, hl, ha, fun j u hj => OwnsS.cells (.inr (.inr ht0)) hv j u hj⟩
  | box k g off => simp [St.get] at h
  | fn f caps => simp [St.get] at h
end
end Go.Den
namespace Go.Den
open Go Go.RowKit
def Comes1 (Θ : Tab) (P : Program) (E : Env) (o : Oper) (a : Act) (W : World) (s' : St Θ.T) : Prop :=
  ∃ tm' W' bx' rw', Sim Θ E s' tm' W' bx' rw' ∧ ∀ next Q, next { a with tmps := tm' } W' → o.upon P a next Q ((execOp a.eval o).run P W)
section
variable {Θ : Tab} {E : Env} {s : St Θ.T} {a : Act} {W : World} {bx : Nat → Nat → Nat} {rw_ : Nat → Nat → Value} {P : Program}
theorem comes_value {o : Oper} {d : Nat} {u : Value} {W' : World} {s' : St Θ.T} {bx' : Nat → Nat → Nat} {rw' : Nat → Nat → Value} (hd : o.dst = some d) (hr : (execOp a.eval o).run P W = .ok (.value u) W') (hS : Sim Θ E s' (a.tmps.setIfInBounds d u) W' bx' rw') :
    Comes1 Θ P E o a W s' :=
  ⟨_, W', bx', rw', hS, fun next Q h => by rw [hr, Oper.upon_value]; unfold Act.put; rw [hd]; exact h⟩
theorem constCells_mB : ∀ (l : List Value) (cs : List (CV Θ.T)), constCells l = some cs → ∀ c ∈ cs, c.mB = [] := by
  intro l
  induction l with
  | nil => intro cs h; simp [constCells] at h; subst h; intro c hc; cases hc
  | cons v l ih =>
    intro cs h
    simp only [constCells] at h
    split at h <;> try (cases h; done)
    rename_i c r hc hr
    cases h
    intro c' hc'
    rcases List.mem_cons.1 hc' with e | e
    · rw [e]
      unfold cvConst at hc
      split at hc <;> first | (cases hc; done) | (cases hc; rfl)
    · exact ih r hr c' e
theorem alloc_ok (hS : Sim Θ E s a.tmps W bx rw_) {o : Oper} {d t : Nat} (hd : o.dst = some d) (ho : o.op = .alloc t) {s' : St Θ.T} (h : aAlloc P s d t = some (true, s')) : Comes1 Θ P E o a W s' := by
  unfold aAlloc at h
  split at h <;> try (cases h; done)
  rename_i cs hcs
  cases hn : s.newBox d t cs with
  | none => simp [hn] at h
  | some s1 =>
    simp [hn] at h
    subst h
    obtain ⟨i, z, hi, hz, hc⟩ := zeroCells_ok (W := W) (F := FF E s bx rw_ W) (bx := bx) (rw_ := rw_) hcs
    have hp : ∀ c ∈ cs, c.mB = [] := by
      unfold zeroCells at hcs
      rw [hi] at hcs
      simp only [hz] at hcs
      exact constCells_mB _ _ hcs
    obtain ⟨bx', hS'⟩ := hS.newBox hn hc (fun c hc => by rw [hp c hc]; rfl)
    refine comes_value (W' := W.alloc (.cells z.cells t)) hd ?_ (by simpa using hS')
    simp [execOp, ho, Instr.alloc, zeroValue, typeInfo, hi, hz, newVar, newRow]
theorem box_ok (hS : Sim Θ E s a.tmps W bx rw_) {o : Oper} {d t : Nat} {x : Operand} (hd : o.dst = some d) (ho : o.op = .box t x) {s' : St Θ.T} (h : aBox s d t (s.ev x) = some (true, s')) : Comes1 Θ P E o a W s' := by
  unfold aBox at h
  split at h <;> try (cases h; done)
  rename_i cs hcs
  split at h <;> try (cases h; done)
  rename_i hall
  cases hn : s.newBox d t cs with
  | none => simp [hn] at h
  | some s1 =>
    simp [hn] at h
    subst h
    have hc := cellsOfAV_ok hS.rwsl hcs (hS.ev a rfl x)
    obtain ⟨bx', hS'⟩ := hS.newBox hn hc (fun c hc => by simpa using List.all_eq_true.1 hall c hc)
    refine comes_value (W' := W.alloc (.cells (a.eval x).cells t)) hd ?_ (by simpa using hS')
    simp [execOp, ho, Instr.box, newVar, newRow]
theorem Sim.writeBox (hS : Sim Θ E s a.tmps W bx rw_) {k g off : Nat} {vs : List (CV Θ.T)} {us : List Value} {s' : St Θ.T} (h : s.writeBox k g off vs = some s') (hv : All2 (RCV Θ W (FF E s bx rw_ W) bx rw_) vs us) :
    ∃ W', (storeCells ⟨bx k g, off, none⟩ us).run P W = .ok () W' ∧ Sim Θ E s' a.tmps W' bx rw_ := by
  unfold St.writeBox at h
  split at h <;> try (cases h; done)
  rename_i B hB
  split at h <;> try (cases h; done)
  rename_i hc
  obtain ⟨hg, hle⟩ := hc
  cases h
  subst hg
  obtain ⟨hb0, cs, hh, ha⟩ := hS.boxes k B hB
  have hl : off + 0 + us.length ≤ cs.toArray.size := by rw [← hv.length]; simp; rw [← ha.length]; omega
  have h1 : ∀ u ∈ us, u.oneCell' = true := fun u hu => by
    obtain ⟨i, hi⟩ := List.getElem?_of_mem hu
    obtain ⟨c, _, hr⟩ := hv.get' i hi
    exact (RCV.cells hS.rwsl hr).2
  have hrun := run_storeCells_at P (bx k B.gen) off B.ty us 0 cs.toArray W hh hl h1
  simp only [Nat.add_zero] at hrun
  refine ⟨_, hrun, ?_⟩
  generalize hnew : (cs.toArray.toList.take off ++ us ++ cs.toArray.toList.drop (off + us.length)).toArray = new
  have hnl : new.toList = cs.take off ++ us ++ cs.drop (off + us.length) := by rw [← hnew]
  have hheap := setRow_heap W (bx k B.gen) cs.toArray new B.ty (0, 0) hh
  have hother : ∀ j, j ≠ bx k B.gen → (W.setRow (bx k B.gen) new).heap[j]? = W.heap[j]? := fun j hj => setRow_other W (bx k B.gen) j new hj
  have hlook : ∀ q B', look (keep s.boxes k ⟨B.gen, B.ty, B.cells.take off ++ vs ++ B.cells.drop (off + vs.length)⟩) q = some B' →
      (q = k ∧ B' = ⟨B.gen, B.ty, B.cells.take off ++ vs ++ B.cells.drop (off + vs.length)⟩) ∨ (q ≠ k ∧ look s.boxes q = some B') := by
    intro q B' hB'
    rw [look_keep] at hB'
    split at hB'
    · rename_i e; cases hB'; exact .inl ⟨e.symm, rfl⟩
    · rename_i e; exact .inr ⟨fun e' => e e'.symm, hB'⟩
  have hMut : ∀ b, Mut s bx rw_ b ↔ Mut ⟨s.slots, keep s.boxes k ⟨B.gen, B.ty, B.cells.take off ++ vs ++ B.cells.drop (off + vs.length)⟩, s.rows⟩ bx rw_ b := by
    intro b
    constructor
    · rintro (⟨q, B', hB', hb⟩ | h)
      · by_cases hq : q = k
        · subst hq
          rw [hB] at hB'; cases hB'
          exact .inl ⟨q, ⟨B.gen, B.ty, B.cells.take off ++ vs ++ B.cells.drop (off + vs.length)⟩, by rw [look_keep, if_pos rfl], hb⟩
        · exact .inl ⟨q, B', by rw [look_keep, if_neg (fun e => hq e.symm)]; exact hB', hb⟩
      · exact .inr h
    · rintro (⟨q, B', hB', hb⟩ | h)
      · rcases hlook q B' hB' with ⟨rfl, rfl⟩ | ⟨_, hB1⟩
        · exact .inl ⟨q, B, hB, hb⟩
        · exact .inl ⟨q, B', hB1, hb⟩
      · exact .inr h
  have hsz : (W.setRow (bx k B.gen) new).heap.size = W.heap.size := by simp [World.setRow]
  have hF : ∀ b, FF E s bx rw_ W b → FF E ⟨s.slots, keep s.boxes k ⟨B.gen, B.ty, B.cells.take off ++ vs ++ B.cells.drop (off + vs.length)⟩, s.rows⟩ bx rw_ (W.setRow (bx k B.gen) new) b := by
    rintro b ⟨h1, h2, h3⟩
    exact ⟨h1, by rw [hsz]; exact h2, fun hm => h3 ((hMut b).2 hm)⟩
  have hW : ∀ b, FF E s bx rw_ W b → (W.setRow (bx k B.gen) new).heap[b]? = W.heap[b]? := by
    rintro b ⟨_, _, h3⟩
    exact hother b (fun e => h3 (.inl ⟨k, B, hB, e.symm⟩))
  have hgrow : W.grownBy (W.setRow (bx k B.gen) new) (some (bx k B.gen)) := ⟨rfl, rfl, rfl, by rw [hsz]; exact Nat.le_refl _, fun j _ hj => hother j (fun e => hj (by rw [e]))⟩
  refine ⟨hS.below.grown hgrow (fun j hj => by cases hj; exact hb0), hS.glob, fun q b hq => ?_, hS.pinR, hS.rwsl, fun q B' hB' => ?_, fun r R hR => ?_, ?_, hS.rr, ?_, hS.len, fun i => RAV.trans hF hW (fun _ _ => rfl) (fun _ _ => rfl) (hS.slots i)⟩
  · obtain ⟨h1, h2⟩ := hS.pinB q b hq
    refine ⟨h1, fun B' hB' h0 => ?_⟩
    rcases hlook q B' hB' with ⟨rfl, rfl⟩ | ⟨_, hB1⟩
    · exact h2 B hB h0
    · exact h2 B' hB1 h0
  · rcases hlook q B' hB' with ⟨rfl, rfl⟩ | ⟨hq, hB1⟩
    · refine ⟨hb0, new.toList, by simpa using hheap, ?_⟩
      rw [hnl, ← hv.length]
      exact RCs.trans hF hW (fun _ _ => rfl) (fun _ _ => rfl) (((ha.take off).append hv).append (ha.drop (off + vs.length)))
    · obtain ⟨h1, cv, hh', ha'⟩ := hS.boxes q B' hB1
      exact ⟨h1, cv, by rw [hother _ (fun e => hq (hS.bb q B' k B hB1 hB e))]; exact hh', RCs.trans hF hW (fun _ _ => rfl) (fun _ _ => rfl) ha'⟩
  · obtain ⟨hob, xs, ho, har⟩ := hS.rows r R hR
    refine ⟨hob, xs, ho.kept hgrow ?_, har.mono fun x u hx => Rep.mono hx hF hW⟩
    exact .inr (fun e => hS.br k B r R hB hR e)
  · intro q B1 q' B1' h1 h1' he
    rcases hlook q B1 h1 with ⟨rfl, rfl⟩ | ⟨hq, hB1⟩ <;> rcases hlook q' B1' h1' with ⟨rfl, rfl⟩ | ⟨hq', hB1'⟩
    · rfl
    · exact hS.bb q B q' B1' hB hB1' he
    · exact hS.bb q B1 q' B hB1 hB he
    · exact hS.bb q B1 q' B1' hB1 hB1' he
  · intro q B1 r R h1 hR
    rcases hlook q B1 h1 with ⟨rfl, rfl⟩ | ⟨hq, hB1⟩
    · exact hS.br q B r R hB hR
    · exact hS.br q B1 r R hB1 hR
theorem split_write {A : Type} (l u : List A) (p off sz : Nat) (h1 : off + u.length ≤ sz) (h2 : p + sz ≤ l.length) :
    l.take (p + off) ++ u ++ l.drop (p + off + u.length) = l.take p ++ (((l.drop p).take sz).take off ++ u ++ ((l.drop p).take sz).drop (off + u.length)) ++ l.drop (p + sz) := by
  have e1 : l.take (p + off) = l.take p ++ (l.drop p).take off := List.take_add
  have e2 : ((l.drop p).take sz).take off = (l.drop p).take off := by rw [List.take_take, Nat.min_eq_left (by omega)]
  have e3 : l.drop (p + off + u.length) = ((l.drop p).take sz).drop (off + u.length) ++ l.drop (p + sz) := by
    have hsp : l.drop p = (l.drop p).take sz ++ (l.drop p).drop sz := (List.take_append_drop sz _).symm
    have e4 : l.drop (p + (off + u.length)) = (l.drop p).drop (off + u.length) := by rw [List.drop_drop]
    have e5 : l.drop (p + sz) = (l.drop p).drop sz := by rw [List.drop_drop]
    rw [show p + off + u.length = p + (off + u.length) by omega, e4, e5]
    conv => lhs; rw [hsp]
    rw [List.drop_append_of_le_length (by rw [List.length_take, List.length_drop]; omega)]
  rw [e1, e2, e3]
  simp only [List.append_assoc]
theorem flatMap_set {A B : Type} (f : A → List B) (sz : Nat) (hf : ∀ a, (f a).length = sz) : ∀ (l : List A) (i : Nat) (y : A), i < l.length → (l.set i y).flatMap f = (l.flatMap f).take (i * sz) ++ f y ++ (l.flatMap f).drop (i * sz + sz) := by
  intro l
  induction l with
  | nil => intro i y h; simp at h
  | cons x l ih =>
    intro i y h
    cases i with
    | zero =>
      simp only [List.set_cons_zero, List.flatMap_cons, Nat.zero_mul, List.take_zero, List.nil_append, Nat.zero_add]
      rw [List.drop_append_of_le_length (by rw [hf]; omega), List.drop_of_length_le (by rw [hf]; omega)]
      simp
    | succ i =>
      simp only [List.set_cons_succ, List.flatMap_cons]
      rw [ih i y (by simpa using h)]
      rw [show (i + 1) * sz = sz + i * sz by rw [Nat.succ_mul]; omega]
      rw [List.take_append, List.drop_append, hf]
      rw [List.take_of_length_le (l := f x) (by rw [hf]; omega), List.drop_of_length_le (l := f x) (by rw [hf]; omega)]
      rw [show sz + i * sz - sz = i * sz by omega, show sz + i * sz + sz - sz = i * sz + sz by omega]
      simp
theorem take_write {A : Type} (l u : List A) (o m : Nat) (h : o + u.length ≤ m) (hm : m ≤ l.length) : (l.take o ++ u ++ l.drop (o + u.length)).take m = (l.take m).take o ++ u ++ (l.take m).drop (o + u.length) := by
  have hl : (l.take o ++ u).length = o + u.length := by simp; omega
  rw [List.take_append, List.take_of_length_le (by omega), hl, List.take_take, Nat.min_eq_left (by omega), List.take_drop]
  rw [show o + u.length + (m - (o + u.length)) = m by omega]
theorem one_leaf {T : TypeId → Type} {A : Type} (E : Enc T A) (h1 : E.leaves.length = 1) : ∃ lf, E.leaves = [lf] ∧ ∀ x, ∃ z, HT.list Leaf.mk E.leaves (E.to x) = [lf.mk z] := by
  obtain ⟨ls, to, of, inv, dft⟩ := E
  simp only at h1
  match ls, h1, to with
  | [lf], _, to => exact ⟨lf, rfl, fun x => ⟨to x, rfl⟩⟩
theorem bytes_all {F F' : Nat → Prop} {W W' : World} {e : TypeId} (hsz : Θ.sz e = 1) {l l' : List (Θ.T e)} {xs xs' : List Value} (hne : l ≠ []) (h : All2 (fun x u => Rep Θ W F u x) (l.flatMap (Θ.enc e)) xs)
    (hb : ∀ u ∈ xs, ∃ c, u = .int .u8 c) (h' : All2 (fun x u => Rep Θ W' F' u x) (l'.flatMap (Θ.enc e)) xs') : ∀ u ∈ xs', ∃ c, u = .int .u8 c := by
  obtain ⟨lf, _, hl⟩ := one_leaf (Θ.E e) hsz
  have henc : ∀ x, ∃ z, Θ.enc e x = [lf.mk z] := hl
  have hlf : lf = .int .u8 := by
    cases l with
    | nil => exact absurd rfl hne
    | cons a r =>
      obtain ⟨z, hz⟩ := henc a
      rw [List.flatMap_cons, hz] at h
      cases xs with
      | nil => cases h
      | cons u us =>
        cases h with
        | cons h1 _ =>
          obtain ⟨c, hc⟩ := hb u (by simp)
          subst hc
          cases lf <;> cases h1
          rfl
  subst hlf
  intro u hu
  obtain ⟨j, hj⟩ := List.getElem?_of_mem hu
  obtain ⟨p, hp, hr⟩ := h'.get' j hj
  obtain ⟨x, _, hx⟩ := List.mem_flatMap.1 (List.mem_of_getElem? hp)
  obtain ⟨z, hz⟩ := henc x
  rw [hz, List.mem_singleton] at hx
  subst hx
  cases hr
  exact ⟨_, rfl⟩
theorem Sim.writeRow (hS : Sim Θ E s a.tmps W bx rw_) {r g : Nat} {i : Int} {sz off : Nat} {vs : List (CV Θ.T)} {us : List Value} {s' : St Θ.T} {u : Value} (h : s.writeRow Θ r g i sz off vs = some s') (hr : RAV Θ W (FF E s bx rw_ W) bx rw_ (.rel r g i sz off) u)
    (hv : All2 (RCV Θ W (FF E s bx rw_ W) bx rw_) vs us) :
    ∃ ad W', u = .pointer (some ad) ∧ (storeCells ad us).run P W = .ok () W' ∧ Sim Θ E s' a.tmps W' bx rw_ := by
  unfold St.writeRow at h
  split at h <;> try (cases h; done)
  rename_i R hR
  split at h <;> try (cases h; done)
  rename_i hc
  obtain ⟨hg, rfl, hle, hpl⟩ := hc
  split at h <;> try (cases h; done)
  rename_i y hy
  cases h
  subst hg
  obtain ⟨b, n, cap, e1, h0, h1, rfl⟩ := hr
  obtain ⟨hob, xs, hown00, har⟩ := hS.rows r R hR
  obtain ⟨hsl, hown0⟩ := hown00.sv ⟨_, _, _, e1⟩
  have hcap0 : cap ≠ 0 := by
    obtain ⟨⟨A, c, hv⟩, h2⟩ := hown0.form
    have hn : n = R.l.length := by rw [e1] at hv; cases hv; rfl
    obtain ⟨b', c', hv', hle'⟩ := h2 (by omega)
    rw [e1] at hv'; cases hv'; omega
  obtain ⟨rfl, _, hblk0, hxs, cur, fz, hheap, hfz, hcap, hcm, hcs, htake⟩ := hown0.block e1 hcap0
  have hb0 : E.Own b := hob b hblk0
  have hin : i.toNat < R.l.length := by omega
  have hmul : (i.toNat + 1) * Θ.sz R.e ≤ R.l.length * Θ.sz R.e := Nat.mul_le_mul_right _ hin
  rw [Nat.succ_mul] at hmul
  simp only at hheap
  have hmulc : R.l.length * Θ.sz R.e ≤ cap * Θ.sz R.e := Nat.mul_le_mul_right _ hcap
  have hul : us.length = vs.length := hv.length.symm
  have h1c : ∀ u ∈ us, u.oneCell' = true := fun u hu => by
    obtain ⟨j, hj⟩ := List.getElem?_of_mem hu
    obtain ⟨c, _, hr⟩ := hv.get' j hj
    exact (RCV.cells hS.rwsl hr).2
  have hrun := run_storeCells_mark (P := P) b (i.toNat * Θ.sz R.e + off) R.e fz us 0 cur W hheap (hfz.imp id (·.1)) (by omega) h1c
  simp only [Nat.add_zero] at hrun
  refine ⟨_, _, rfl, hrun, ?_⟩
  generalize hnew : (cur.toList.take (i.toNat * Θ.sz R.e + off) ++ us ++ cur.toList.drop (i.toNat * Θ.sz R.e + off + us.length)).toArray = new
  have hnl : new.toList = cur.toList.take (i.toNat * Θ.sz R.e + off) ++ us ++ cur.toList.drop (i.toNat * Θ.sz R.e + off + us.length) := by rw [← hnew]
  have hother : ∀ j, j ≠ b → (W.setRow b new).heap[j]? = W.heap[j]? := fun j hj => setRow_other W b j new hj
  have hblk : ob (rw_ r R.gen) = some b := hblk0
  have hlook : ∀ q R', look (keep s.rows r ⟨R.gen, R.e, R.l.set i.toNat y⟩) q = some R' → (q = r ∧ R' = ⟨R.gen, R.e, R.l.set i.toNat y⟩) ∨ (q ≠ r ∧ look s.rows q = some R') := by
    intro q R' hR'
    rw [look_keep] at hR'
    split at hR'
    · rename_i e; cases hR'; exact .inl ⟨e.symm, rfl⟩
    · rename_i e; exact .inr ⟨fun e' => e e'.symm, hR'⟩
  have hMut : ∀ c, Mut ⟨s.slots, s.boxes, keep s.rows r ⟨R.gen, R.e, R.l.set i.toNat y⟩⟩ bx rw_ c → Mut s bx rw_ c := by
    rintro c (h | ⟨q, R', hR', hc⟩)
    · exact .inl h
    · rcases hlook q R' hR' with ⟨rfl, rfl⟩ | ⟨_, hR1⟩
      · exact .inr ⟨q, R, hR, hc⟩
      · exact .inr ⟨q, R', hR1, hc⟩
  have hsz : (W.setRow b new).heap.size = W.heap.size := by simp [World.setRow]
  have hF : ∀ c, FF E s bx rw_ W c → FF E ⟨s.slots, s.boxes, keep s.rows r ⟨R.gen, R.e, R.l.set i.toNat y⟩⟩ bx rw_ (W.setRow b new) c := by
    rintro c ⟨h1, h2, h3⟩
    exact ⟨h1, by rw [hsz]; exact h2, fun hm => h3 (hMut c hm)⟩
  have hW : ∀ c, FF E s bx rw_ W c → (W.setRow b new).heap[c]? = W.heap[c]? := by
    rintro c ⟨_, _, h3⟩
    exact hother c (fun e => h3 (.inr ⟨r, R, hR, by rw [e]; exact hblk⟩))
  have hgrow : W.grownBy (W.setRow b new) (some b) := ⟨rfl, rfl, rfl, by rw [hsz]; exact Nat.le_refl _, fun j _ hj => hother j (fun e => hj (by rw [e]))⟩
  refine ⟨hS.below.grown hgrow (fun j hj => by cases hj; exact hb0), hS.glob, hS.pinB, fun q v hq => ?_, hS.rwsl, fun q B' hB' => ?_, fun q R' hR' => ?_, hS.bb, ?_, ?_, hS.len, fun j => RAV.trans hF hW (fun _ _ => rfl) (fun _ _ => rfl) (hS.slots j)⟩
  · obtain ⟨h1, h2⟩ := hS.pinR q v hq
    refine ⟨h1, fun R' hR' h0 => ?_⟩
    rcases hlook q R' hR' with ⟨rfl, rfl⟩ | ⟨_, hR1⟩
    · exact h2 R hR h0
    · exact h2 R' hR1 h0
  · obtain ⟨h1, cv, hh', ha'⟩ := hS.boxes q B' hB'
    exact ⟨h1, cv, by rw [hother _ (fun e => hS.br q B' r R hB' hR (by rw [e]; exact hblk))]; exact hh', RCs.trans hF hW (fun _ _ => rfl) (fun _ _ => rfl) ha'⟩
  · rcases hlook q R' hR' with ⟨rfl, rfl⟩ | ⟨hq, hR1⟩
    ·
      have hel : All2 (fun p u => Rep Θ W (FF E s bx rw_ W) u p) (Θ.enc R.e y) (((xs.drop (i.toNat * Θ.sz R.e)).take (Θ.sz R.e)).take off ++ us ++ ((xs.drop (i.toNat * Θ.sz R.e)).take (Θ.sz R.e)).drop (off + vs.length)) := by
        have hold : All2 (RCV Θ W (FF E s bx rw_ W) bx rw_) ((Θ.enc R.e (elAt Θ R.e R.l i)).map CV.v) ((xs.drop (i.toNat * Θ.sz R.e)).take (Θ.sz R.e)) := by
          refine All2.map_left (All2.of_get ?_ (fun j x u' hx hu' => ?_))
          · rw [Θ.length_enc, List.length_take, List.length_drop, hxs]; omega
          · have hj : j < Θ.sz R.e := by
              have := (List.getElem?_eq_some_iff.1 hx).1
              rwa [Θ.length_enc] at this
            have hfm := flatMap_get (Θ.enc R.e) (Θ.sz R.e) (Θ.length_enc R.e) R.l i.toNat j _ (elAt_get h0 h1) hj
            rw [hx] at hfm
            obtain ⟨u2, hu2, hrep⟩ := har.get _ hfm
            rw [List.getElem?_take, if_pos hj, List.getElem?_drop] at hu'
            rw [hu2] at hu'
            cases hu'
            exact hrep
        refine elem_plain ?_ hy (((hold.take off).append hv).append (hold.drop (off + vs.length)))
        simp only [List.all_append, Bool.and_eq_true]
        refine ⟨⟨?_, hpl⟩, ?_⟩
        · exact List.all_eq_true.2 (fun c hc => by
            obtain ⟨p, _, rfl⟩ := List.mem_map.1 (List.mem_of_mem_take hc)
            rfl)
        · exact List.all_eq_true.2 (fun c hc => by
            obtain ⟨p, _, rfl⟩ := List.mem_map.1 (List.mem_of_mem_drop hc)
            rfl)
      have hmid := split_write xs us (i.toNat * Θ.sz R.e) off (Θ.sz R.e) (by omega) (by omega)
      rw [hul] at hmid
      have hfinal : All2 (fun x u => Rep Θ W (FF E s bx rw_ W) u x) ((R.l.set i.toNat y).flatMap (Θ.enc R.e)) (xs.take (i.toNat * Θ.sz R.e + off) ++ us ++ xs.drop (i.toNat * Θ.sz R.e + off + vs.length)) := by
        rw [hmid]
        have : (R.l.set i.toNat y).flatMap (Θ.enc R.e) = _ := flatMap_set (Θ.enc R.e) (Θ.sz R.e) (Θ.length_enc R.e) R.l i.toNat y hin
        rw [this]
        exact (((har.take _).append hel).append (har.drop _))
      refine ⟨hob, xs.take (i.toNat * Θ.sz R.e + off) ++ us ++ xs.drop (i.toNat * Θ.sz R.e + off + vs.length), .inl ⟨hsl, OwnsS.of_block (cur := new) (by simp only [List.length_set]; exact e1) hcap0 ?_ (setRow_heap W b cur new R.e fz hheap) ?_ (by simp only [List.length_set]; exact hcap) hcm ?_ ?_⟩, ?_⟩
      · simp only [List.length_append, List.length_take, List.length_drop, List.length_set, hxs]; omega
      · rcases hfz with h | ⟨h, hn0, hs1, hq⟩
        · exact .inl h
        · refine .inr ⟨Nat.le_trans (Nat.le_of_eq ?_) h, by simpa using hn0, hs1, bytes_all hs1 (l := R.l) (fun e0 => by rw [e0] at hin; exact absurd hin (Nat.not_lt_zero _)) har hq hfinal⟩
          rw [← Array.length_toList, hnl]
          simp only [List.length_append, List.length_take, List.length_drop, Array.length_toList]
          omega
      · rw [← Array.length_toList, hnl]
        simp only [List.length_append, List.length_take, List.length_drop, Array.length_toList]
        omega
      · simp only [List.length_set]
        rw [hnl, take_write _ _ _ _ (by omega) (by rw [Array.length_toList]; omega), htake, hul]
      · rw [hmid]
        have : (R.l.set i.toNat y).flatMap (Θ.enc R.e) = _ := flatMap_set (Θ.enc R.e) (Θ.sz R.e) (Θ.length_enc R.e) R.l i.toNat y hin
        simp only
        rw [this]
        exact (((har.take _).append hel).append (har.drop _)).mono fun x u hx => Rep.mono hx hF hW
    · obtain ⟨hob', zs, ho, har'⟩ := hS.rows q R' hR1
      refine ⟨hob', zs, ho.kept hgrow ?_, har'.mono fun x u hx => Rep.mono hx hF hW⟩
      cases hobq : ob (rw_ q R'.gen) with
      | none => exact .inl rfl
      | some c => exact .inr (fun e => hq (hS.rr q R' r R c hR1 hR hobq (by rw [hblk, ← e])))
  · intro q R1 q' R1' c h1 h1' hc hc'
    rcases hlook q R1 h1 with ⟨rfl, rfl⟩ | ⟨hq, hR1⟩ <;> rcases hlook q' R1' h1' with ⟨rfl, rfl⟩ | ⟨hq', hR1'⟩
    · rfl
    · exact hS.rr q R q' R1' c hR hR1' hc hc'
    · exact hS.rr q R1 q' R c hR1 hR hc hc'
    · exact hS.rr q R1 q' R1' c hR1 hR1' hc hc'
  · intro q B1 q' R1 h1 hR1
    rcases hlook q' R1 hR1 with ⟨rfl, rfl⟩ | ⟨_, hR2⟩
    · exact hS.br q B1 q' R h1 hR
    · exact hS.br q B1 q' R1 h1 hR2
theorem store_ok (hS : Sim Θ E s a.tmps W bx rw_) {o : Oper} {t : TypeId} {x y : Operand} (hd : o.dst = none) (ho : o.op = .store t x y) {s' : St Θ.T} (h : aStore P Θ s t (s.ev x) (s.ev y) = some (true, s')) : Comes1 Θ P E o a W s' := by
  unfold aStore at h
  split at h <;> try (cases h; done)
  rename_i n vs hn hvs
  split at h <;> try (cases h; done)
  rename_i hl
  obtain ⟨inf, hi, hsz⟩ := sizeT_ok hn
  have hv := cellsOfAV_ok hS.rwsl hvs (hS.ev a rfl y)
  have hx := hS.ev a rfl x
  have hcs : (a.eval y).cells.size = inf.size := by rw [hsz, ← hl, hv.length, Array.length_toList]
  have fin : ∀ ad W' bx', a.eval x = .pointer (some ad) → (storeCells ad (a.eval y).cells.toList).run P W = .ok () W' → Sim Θ E s' a.tmps W' bx' rw_ → Comes1 Θ P E o a W s' := by
    intro ad W' bx' he hrun hS'
    refine ⟨_, W', bx', rw_, hS', fun next Q hk => ?_⟩
    have : (execOp a.eval o).run P W = .ok .skip W' := by
      simp [execOp, ho, Instr.storeAt, he, Instr.sureAddr, storeVar, sizeOf, typeInfo, hi, hcs, hrun]
    rw [this, Oper.upon_skip]
    unfold Act.put
    rw [hd]
    exact hk
  split at h <;> try (cases h; done)
  · rename_i k g off hev
    rw [hev] at hx
    cases hw : s.writeBox k g off vs with
    | none => simp [hw] at h
    | some s1 =>
      simp [hw] at h
      subst h
      obtain ⟨W', hrun, hS'⟩ := hS.writeBox (P := P) hw hv
      exact fin _ _ _ hx hrun hS'
  · rename_i r g i sz off hev
    rw [hev] at hx
    cases hw : s.writeRow Θ r g i sz off vs with
    | none => simp [hw] at h
    | some s1 =>
      simp [hw] at h
      subst h
      obtain ⟨ad, W', he, hrun, hS'⟩ := hS.writeRow (P := P) hw hx hv
      exact fin _ _ _ he hrun hS'
end
end Go.Den
namespace Go.Den
open Go Go.RowKit
section
variable {Θ : Tab} {E : Env} {s : St Θ.T} {a : Act} {W : World} {bx : Nat → Nat → Nat} {rw_ : Nat → Nat → Value} {P : Program}
theorem makeMap_ok (hS : Sim Θ E s a.tmps W bx rw_) {o : Oper} {d t : Nat} (hd : o.dst = some d) (ho : o.op = .makeMap t none) {s' : St Θ.T} (h : aMakeMap P Θ s d t = some (true, s')) : Comes1 Θ P E o a W s' := by
  unfold aMakeMap at h
  split at h <;> try (cases h; done)
  split at h <;> try (cases h; done)
  split at h <;> try (cases h; done)
  rename_i e he
  obtain ⟨hsl, _⟩ := mapE_spec he
  cases hw : s.newRow Θ d d e [] with
  | none => simp [hw] at h
  | some s1 =>
  simp [hw] at h
  subst h
  obtain ⟨⟨h1, h2⟩, rfl⟩ := St.newRow_eq hw
  have hown : Owns (W.alloc (.map #[] 0)) e (Θ.sz e) (.map (some W.heap.size)) ([] : List (Θ.T e)).length [] :=
    .inr ⟨hsl, W.heap.size, #[], 0, rfl, (by show (W.heap.push _)[W.heap.size]? = _; simp), rfl, rfl, fun m hm => by simp at hm⟩
  obtain ⟨rw', hS'⟩ := hS.newRow (d := d) (r := d) (g := s.nextR d) (e := e) (l := []) (v' := .map (some W.heap.size)) (us := []) (blk := none) h1 h2 hown .nil (World.grownBy_alloc W _ none)
    (fun b e => by cases e) (fun b hb => .inr (by simp only [ob, Option.some.injEq] at hb; omega))
  refine comes_value hd (u := .map (some W.heap.size)) (W' := W.alloc (.map #[] 0)) ?_ hS'
  have hrun := run_makeMap (P := P) t W
  simp [execOp, ho, hrun]
theorem ents_set {F : Nat → Prop} {e : TypeId} {l : List (Θ.T e)} {es : List MapEntry} (h : All2 (EntR Θ W F e) l es) (j : Nat) {y : Θ.T e} {m : MapEntry} (hm : EntR Θ W F e y m) : All2 (EntR Θ W F e) (l.set j y) (es.set j m) := h.set j hm
theorem Sim.mapSet (hS : Sim Θ E s a.tmps W bx rw_) {r g e : Nat} {k : ByteArray} {vs : List (CV Θ.T)} {val : Value} {s' : St Θ.T} {t kt et : TypeId} (h : s.writeMap Θ r g e k vs = some s') (hu : P.underlying t = some (.map kt et)) (hkt : P.underlying kt = some .string)
    (hme : mapE P t et = some e) (hval : if aggV' P et = true then val = .agg val.cells else val.cells = #[val]) (hv : All2 (RCV Θ W (FF E s bx rw_ W) bx rw_) vs val.cells.toList) :
    ∃ W', (Instr.mapUpdate t (rw_ r g) (.string k) val).run P W = .ok () W' ∧ Sim Θ E s' a.tmps W' bx rw_ := by
  unfold St.writeMap at h
  split at h <;> try (cases h; done)
  rename_i R hR
  split at h <;> try (cases h; done)
  rename_i hc
  obtain ⟨hg, rfl, hle, hpl⟩ := hc
  split at h <;> try (cases h; done)
  rename_i y hy
  cases h
  subst hg
  obtain ⟨hsl, hpar⟩ := mapE_spec hme
  obtain ⟨hob, xs, hown, har⟩ := hS.rows r R hR
  rcases hown with ⟨h1, _⟩ | ⟨_, b, es, ck, hrv, hheap, hn, hxs, hes⟩
  · rw [hsl] at h1; cases h1
  have hhd := head_of hy
  have hents := ents_of R.l es.toList (by rw [Array.length_toList, hn]) (fun m hm => (hes m hm).1) (by rw [← hxs]; exact har)
  have hyr := elem_plain (cs := .v (.str k) :: vs) (us := .string k :: val.cells.toList) (by simp only [List.all_cons, Bool.and_eq_true]; exact ⟨rfl, hpl⟩) hy (.cons (.str k) hv)
  have hyr' : ∀ bo, EntR Θ W (FF E s bx rw_ W) R.e y ⟨.string k, val, bo⟩ := fun _ => hyr
  have hkis : MapKept.IsKey .string (.string k) := trivial
  have hb0 : E.Own b := hob b (by rw [hrv]; rfl)
  have hblk : ob (rw_ r R.gen) = some b := by rw [hrv]; rfl
  have hok : ∀ bo, (⟨.string k, val, bo⟩ : MapEntry).val.cells.size + 1 = Θ.sz R.e ∧ (if R.e % 2 = 1 then (⟨.string k, val, bo⟩ : MapEntry).val = .agg (⟨.string k, val, bo⟩ : MapEntry).val.cells else (⟨.string k, val, bo⟩ : MapEntry).val.cells = #[(⟨.string k, val, bo⟩ : MapEntry).val]) := by
    intro bo
    refine ⟨by have h1 := hv.length; have h2 : val.cells.toList.length = val.cells.size := Array.length_toList; show val.cells.size + 1 = _; omega, ?_⟩
    show if R.e % 2 = 1 then val = .agg val.cells else val.cells = #[val]
    cases hq : aggV' P et with
    | true => rw [if_pos (hpar.2 hq)]; simpa [hq] using hval
    | false => rw [if_neg (fun e => by have := hpar.1 e; rw [hq] at this; cases this)]; simpa [hq] using hval
  obtain ⟨es', ck', hrun, hlen, hRn, hes'⟩ : ∃ es' ck', (Instr.mapUpdate t (rw_ r R.gen) (.string k) val).run P W = .ok () { W with heap := W.heap.setIfInBounds b (.map es' ck') } ∧
      es'.size = (putP (fun x => strEq (mkey Θ R.e x) k) y R.l).length ∧ All2 (EntR Θ W (FF E s bx rw_ W) R.e) (putP (fun x => strEq (mkey Θ R.e x) k) y R.l) es'.toList ∧
      (∀ m ∈ es'.toList, m.val.cells.size + 1 = Θ.sz R.e ∧ (if R.e % 2 = 1 then m.val = .agg m.val.cells else m.val.cells = #[m.val])) := by
    rw [hrv]
    rcases find_spec hhd k y R.l es.toList 0 hents with ⟨h1, h2, h3, h4⟩ | ⟨j, x, m, h1, h2, h3, h4, h5, h6, h7, h8⟩
    · refine ⟨es.push ⟨.string k, val, ck⟩, ck + 1, ?_, ?_, ?_, ?_⟩
      · simp [Instr.mapUpdate, run_underlying hu, MapKept.run_getObj_map hheap, MapKept.run_checkKey hkt hkis, MapKept.run_findKey hkt h1, MapKept.run_setObj_map _ hheap, Result.andThen]
      · rw [h4]; simp [hn]
      · rw [h4, Array.toList_push]; exact All2.append hents (.cons (hyr' _) .nil)
      · intro m hm
        rw [Array.toList_push] at hm
        rcases List.mem_append.1 hm with hm | hm
        · exact hes m hm
        · simp only [List.mem_singleton] at hm; subst hm; exact hok _
    · have hj : es[j]? = some m := by simpa using h3
      have hml : (es.modify j fun e => { e with key := .string k, val := val }).toList = es.toList.set j ⟨.string k, val, m.born⟩ := by
        rw [Array.toList_modify]
        apply List.ext_getElem?
        intro i
        rw [List.getElem?_modify, List.getElem?_set]
        by_cases hij : j = i
        · subst hij
          simp [hj, (List.getElem?_eq_some_iff.1 h3).1]
          have := (Array.getElem?_eq_some_iff.1 hj).1
          simp [this]
        · simp [hij]
      refine ⟨es.modify j fun e => { e with key := .string k, val := val }, ck, ?_, ?_, ?_, ?_⟩
      · simp [Instr.mapUpdate, run_underlying hu, MapKept.run_getObj_map hheap, MapKept.run_checkKey hkt hkis, MapKept.run_findKey hkt h1, hj, h4, MapKept.run_keyThatStays hkis, MapKept.run_setObj_map _ hheap, Result.andThen]
      · rw [h8]; simp [hn]
      · rw [h8, hml]; exact ents_set hents j (hyr' _)
      · intro m' hm
        rw [hml] at hm
        rcases List.mem_or_eq_of_mem_set hm with hm | hm
        · exact hes m' hm
        · subst hm; exact hok _
  refine ⟨_, hrun, ?_⟩
  generalize hnl : putP (fun x => strEq (mkey Θ R.e x) k) y R.l = nl at hlen hRn
  obtain ⟨W', hW'⟩ : ∃ W', ({ W with heap := W.heap.setIfInBounds b (.map es' ck') } : World) = W' := ⟨_, rfl⟩
  rw [hW']
  have hheap' : W'.heap[b]? = some (.map es' ck') := by rw [← hW']; exact (MapKept.heap_set hheap).1
  have hother : ∀ j, j ≠ b → W'.heap[j]? = W.heap[j]? := by rw [← hW']; exact (MapKept.heap_set hheap).2
  have hlook : ∀ q R', look (keep s.rows r ⟨R.gen, R.e, nl⟩) q = some R' → (q = r ∧ R' = ⟨R.gen, R.e, nl⟩) ∨ (q ≠ r ∧ look s.rows q = some R') := by
    intro q R' hR'
    rw [look_keep] at hR'
    split at hR'
    · rename_i e; cases hR'; exact .inl ⟨e.symm, rfl⟩
    · rename_i e; exact .inr ⟨fun e' => e e'.symm, hR'⟩
  have hMut : ∀ c, Mut ⟨s.slots, s.boxes, keep s.rows r ⟨R.gen, R.e, nl⟩⟩ bx rw_ c → Mut s bx rw_ c := by
    rintro c (h | ⟨q, R', hR', hc⟩)
    · exact .inl h
    · rcases hlook q R' hR' with ⟨rfl, rfl⟩ | ⟨_, hR1⟩
      · exact .inr ⟨q, R, hR, hc⟩
      · exact .inr ⟨q, R', hR1, hc⟩
  have hsz : W'.heap.size = W.heap.size := by rw [← hW']; simp
  have hF : ∀ c, FF E s bx rw_ W c → FF E ⟨s.slots, s.boxes, keep s.rows r ⟨R.gen, R.e, nl⟩⟩ bx rw_ W' c := by
    rintro c ⟨h1, h2, h3⟩
    exact ⟨h1, by rw [hsz]; exact h2, fun hm => h3 (hMut c hm)⟩
  have hW : ∀ c, FF E s bx rw_ W c → W'.heap[c]? = W.heap[c]? := by
    rintro c ⟨_, _, h3⟩
    exact hother c (fun e => h3 (.inr ⟨r, R, hR, by rw [e]; exact hblk⟩))
  have hgrow : W.grownBy W' (some b) := ⟨by rw [← hW'], by rw [← hW'], by rw [← hW'], by rw [hsz]; exact Nat.le_refl _, fun j _ hj => hother j (fun e => hj (by rw [e]))⟩
  refine ⟨hS.below.grown hgrow (fun j hj => by cases hj; exact hb0), hS.glob, hS.pinB, fun q v hq => ?_, hS.rwsl, fun q B' hB' => ?_, fun q R' hR' => ?_, hS.bb, ?_, ?_, hS.len, fun j => RAV.trans hF hW (fun _ _ => rfl) (fun _ _ => rfl) (hS.slots j)⟩
  · obtain ⟨h1, h2⟩ := hS.pinR q v hq
    refine ⟨h1, fun R' hR' h0 => ?_⟩
    rcases hlook q R' hR' with ⟨rfl, rfl⟩ | ⟨_, hR1⟩
    · exact h2 R hR h0
    · exact h2 R' hR1 h0
  · obtain ⟨h1, cv, hh', ha'⟩ := hS.boxes q B' hB'
    exact ⟨h1, cv, by rw [hother _ (fun e => hS.br q B' r R hB' hR (by rw [e]; exact hblk))]; exact hh', RCs.trans hF hW (fun _ _ => rfl) (fun _ _ => rfl) ha'⟩
  · rcases hlook q R' hR' with ⟨rfl, rfl⟩ | ⟨hq, hR1⟩
    ·
      refine ⟨hob, es'.toList.flatMap entCells, .inr ⟨hsl, b, es', ck', hrv, hheap', hlen, rfl, hes'⟩, ?_⟩
      have := ents_to _ _ hRn
      exact this.mono fun x u hx => Rep.mono hx hF hW
    · obtain ⟨hob', zs, ho, har'⟩ := hS.rows q R' hR1
      refine ⟨hob', zs, ho.kept hgrow ?_, har'.mono fun x u hx => Rep.mono hx hF hW⟩
      cases hobq : ob (rw_ q R'.gen) with
      | none => exact .inl rfl
      | some c => exact .inr (fun e => hq (hS.rr q R' r R c hR1 hR hobq (by rw [hblk, ← e])))
  · intro q R1 q' R1' c h1 h1' hc hc'
    rcases hlook q R1 h1 with ⟨rfl, rfl⟩ | ⟨hq, hR1⟩ <;> rcases hlook q' R1' h1' with ⟨rfl, rfl⟩ | ⟨hq', hR1'⟩
    · rfl
    · exact hS.rr q R q' R1' c hR hR1' hc hc'
    · exact hS.rr q R1 q' R c hR1 hR hc hc'
    · exact hS.rr q R1 q' R1' c hR1 hR1' hc hc'
  · intro q B1 q' R1 h1 hR1
    rcases hlook q' R1 hR1 with ⟨rfl, rfl⟩ | ⟨_, hR2⟩
    · exact hS.br q B1 q' R h1 hR
    · exact hS.br q B1 q' R1 h1 hR2
theorem mapset_ok (hS : Sim Θ E s a.tmps W bx rw_) {o : Oper} {t : TypeId} {m x y : Operand} (hd : o.dst = none) (ho : o.op = .mapUpdate t m x y) {s' : St Θ.T} (h : aMapSet P Θ s t (s.ev m) (s.ev x) (s.ev y) = some (true, s')) : Comes1 Θ P E o a W s' := by
  unfold aMapSet at h
  split at h <;> try (cases h; done)
  rename_i kt et hu
  split at h <;> try (cases h; done)
  rename_i hkt
  split at h <;> try (cases h; done)
  rename_i r g hm
  split at h <;> try (cases h; done)
  rename_i k hk
  split at h <;> try (cases h; done)
  rename_i e vs hme hvs
  split at h <;> try (cases h; done)
  rename_i hagg
  cases hw : s.writeMap Θ r g e k vs with
  | none => simp [hw] at h
  | some s1 =>
  simp [hw] at h
  subst h
  have hv := cellsOfAV_ok hS.rwsl hvs (hS.ev a rfl y)
  have hmv : a.eval m = rw_ r g := by have := hS.ev a rfl m; rw [hm] at this; exact this
  have hkv : a.eval x = .string k := by have := hS.ev a rfl x; rw [hk] at this; exact rep_str this
  have hval : if aggV' P et = true then a.eval y = .agg (a.eval y).cells else (a.eval y).cells = #[a.eval y] := by
    rw [← hagg]
    have hy := hS.ev a rfl y
    unfold cellsOfAV at hvs
    revert hvs hy
    generalize s.ev y = w
    intro hvs hy
    cases w <;> simp only at hvs <;> try (cases hvs; done)
    · exact (RCV.cells hS.rwsl hy).1
    · obtain ⟨us, e, _⟩ := hy
      rw [e]; rfl
  obtain ⟨W', hrun, hS'⟩ := hS.mapSet (P := P) hw hu hkt hme hval hv
  refine ⟨_, W', bx, rw_, hS', fun next Q hk' => ?_⟩
  have : (execOp a.eval o).run P W = .ok .skip W' := by
    simp [execOp, ho, hmv, hkv, hrun]
  rw [this, Oper.upon_skip]
  unfold Act.put
  rw [hd]
  exact hk'
end
end Go.Den
namespace Go.Den
open Go Go.RowKit
section
variable {Θ : Tab} {E : Env} {s : St Θ.T} {a : Act} {W : World} {bx : Nat → Nat → Nat} {rw_ : Nat → Nat → Value} {P : Program}
theorem run_append_e0 (W : World) (t ty e : TypeId) (i : TypeInfo) (z : Value) (size : Nat) (ht : P.underlying t = some (.slice e)) (hi : P.info? e = some i) (hz : i.zero = some z)
    (hsize : i.size = size) (hzs : z.cells.size = size) (hsz : 0 < size) (ad : Addr) (a : Addr) (m c : Nat) (news : List Value) (hl : news.length = m * size) (hnews : ∀ j u, news[j]? = some u → W.cell? (a.add j) = some u)
    (h63 : m ≤ maxLen) (hbytes : m * i.bytes ≤ 140737488355328) :
    ∃ v' W', (Builtin.append_ #[t, t] ty #[.slice (some ad) 0 0, .slice (some a) m c]).run P W = .ok v' W' ∧ OwnsS W' e size v' m news ∧ W.grownBy W' none ∧ (ob v' = none ∨ ob v' = some W.heap.size) := by
  subst hsize
  by_cases hm : m = 0
  · subst hm
    have hn : news = [] := List.eq_nil_of_length_eq_zero (by simpa using hl)
    subst hn
    refine ⟨.slice (some ad) 0 0, W, ?_, .inr (.inl ⟨ad, rfl, rfl, rfl⟩), ⟨rfl, rfl, rfl, Nat.le_refl _, fun _ _ _ => rfl⟩, .inl rfl⟩
    simp [Builtin.append_, run_underlying ht, sizeOf, typeInfo, hi, Builtin.lenOf, Builtin.firstCells, loadCells, loadCellsFrom, storeCells]
  · have hsmall : m ≤ 9223372036854775807 := by simp only [maxLen] at h63; omega
    have hr := run_append_grow (P := P) W t ty e i z ht hi hz ad 0 0 [] (by simp) (fun j u h => by simp at h) a m c news hl hnews (by omega) (by omega) (growslice_fits (by omega) (by simpa using hbytes))
    have hge := grownCap_ge W m 0 e
    have hcm : grownCap W m 0 e ≤ maxLen := grownCap_le_maxLen W m 0 e h63
    have hown : (W.drew.alloc (.cells (([] : List Value).toArray ++ news.toArray ++ Builtin.zeroCells z.cells (grownCap W (0 + m) 0 e - (0 + m))) e)).ownsRow 0 e i.size (.slice (some ⟨W.heap.size, 0, none⟩) (0 + m) (grownCap W (0 + m) 0 e)) m news := by
      simp only [Nat.zero_add]
      refine ⟨hl, .inr ⟨W.heap.size, _, _, rfl, Nat.zero_le _, heap_alloc_new W.drew _, hge, hcm, ?_, ?_⟩⟩
      · simp only [Array.size_append, List.size_toArray, size_zeroCells, hzs, hl, List.length_nil, Nat.zero_add, ← Nat.add_mul]
        congr 1
        omega
      · simp only [Array.toList_append, List.nil_append]
        rw [← hl]
        exact List.take_left
    refine ⟨_, _, hr, .inl hown, ⟨rfl, rfl, rfl, by simp, fun k hk _ => heap_alloc_old W.drew _ hk⟩, ?_⟩
    simp only [ob]
    split <;> simp
theorem run_append_owns (W : World) (t ty e : TypeId) (i : TypeInfo) (z : Value) (size : Nat) (ht : P.underlying t = some (.slice e)) (hi : P.info? e = some i) (hz : i.zero = some z)
    (hsize : i.size = size) (hzs : z.cells.size = size) (hsz : 0 < size) (v : Value) (n : Nat) (xs : List Value) (hown : OwnsS W e size v n xs) (a : Addr) (m c : Nat) (news : List Value) (hl : news.length = m * size)
    (hnews : ∀ j u, news[j]? = some u → W.cell? (a.add j) = some u) (h1 : ∀ u ∈ news, u.oneCell' = true) (h63 : n + m ≤ maxLen) (hbytes : (n + m) * i.bytes ≤ 140737488355328) (hbt : OwnsT W e size v n xs → ∀ u ∈ news, ∃ c, u = .int .u8 c) :
    ∃ v' W', (Builtin.append_ #[t, t] ty #[v, .slice (some a) m c]).run P W = .ok v' W' ∧ OwnsS W' e size v' (n + m) (xs ++ news) ∧ W.grownBy W' (ob v) ∧ (∀ b, ob v' = some b → ob v = some b ∨ W.heap.size ≤ b) := by
  have zero : ∀ ad, v = .slice (some ad) 0 0 → n = 0 → xs = [] → ∃ v' W', (Builtin.append_ #[t, t] ty #[v, .slice (some a) m c]).run P W = .ok v' W' ∧ OwnsS W' e size v' (n + m) (xs ++ news) ∧ W.grownBy W' (ob v) ∧ (∀ b, ob v' = some b → ob v = some b ∨ W.heap.size ≤ b) := by
    rintro ad rfl rfl rfl
    obtain ⟨v', W', h1, h2, h3, h4⟩ := run_append_e0 (P := P) W t ty e i z size ht hi hz hsize hzs hsz ad a m c news hl hnews (by omega) (by simpa using hbytes)
    refine ⟨v', W', h1, by simpa using h2, ⟨h3.os, h3.tape, h3.output, h3.size, fun k hk _ => h3.block k hk (by simp)⟩, fun b hb => .inr ?_⟩
    rcases h4 with h | h
    · rw [h] at hb; cases hb
    · rw [h] at hb; cases hb; exact Nat.le_refl _
  rcases hown with hown | ⟨ad, hv, hn, hx⟩ | ht0
  · have fin : v.ownBlock = ob v → ∃ v' W', (Builtin.append_ #[t, t] ty #[v, .slice (some a) m c]).run P W = .ok v' W' ∧ OwnsS W' e size v' (n + m) (xs ++ news) ∧ W.grownBy W' (ob v) ∧ (∀ b, ob v' = some b → ob v = some b ∨ W.heap.size ≤ b) := by
      intro hob
      obtain ⟨v', w', hrun, ho', hg, _, hat⟩ := run_append_own_at (P := P) W 0 t ty e i z size i.bytes ht hi hz hsize rfl hzs hsz v n xs hown a m c news hl hnews h1 h63 hbytes (Nat.zero_le _)
      refine ⟨v', w', hrun, .inl ho', by rw [← hob]; exact hg, fun b hb => ?_⟩
      have := ob_of_own ho' hb
      rcases hat with h | h
      · exact .inl (by rw [← hob, ← h]; exact this)
      · rw [h] at this; cases this; exact .inr (Nat.le_refl _)
    have h0 := hown
    rcases hown.2 with ⟨rfl, rfl⟩ | ⟨g, cap, cur, rfl, _, _, hnc, _⟩
    · exact fin rfl
    · by_cases hc : cap = 0
      · subst hc
        have hn : n = 0 := by omega
        subst hn
        exact zero _ rfl rfl (List.eq_nil_of_length_eq_zero (by simpa using h0.1))
      · exact fin (by simp [ob, hc, Value.ownBlock])
  · exact zero ad hv hn hx
  · have hcells : ∀ {g m' cap' : Nat}, v = .slice (some ⟨g, 0, none⟩) m' cap' → ∀ j u, xs[j]? = some u → W.cell? ((⟨g, 0, none⟩ : Addr).add j) = some u := fun hv => OwnsS.cells (.inr (.inr ht0)) hv
    have hnq := hbt ht0
    obtain ⟨⟨hl0, hn0, hs1, hq⟩, g, cap, cur, fz, rfl, hc0, hg, hf, hnc, hcm, hcs, htk⟩ := ht0
    subst hsize
    have hlen : (xs ++ news).length = (n + m) * i.size := by rw [List.length_append, hl0, hl, Nat.add_mul]
    by_cases hroom : n + m ≤ cap
    · have hfit : n * i.size + news.length ≤ cur.size := by rw [hl, hcs, ← Nat.add_mul]; exact Nat.mul_le_mul_right _ hroom
      have hfc := run_firstCells_some (P := P) W i.size m a m c news hl hnews
      have hst := run_storeCells_mark (P := P) g (n * i.size) e fz news 0 cur W hg (.inr hf) (by simpa using hfit) h1
      simp only [Nat.add_zero] at hst
      have hsz2 : (cur.toList.take (n * i.size) ++ news ++ cur.toList.drop (n * i.size + news.length)).toArray.size = cur.size := by
        simp only [List.size_toArray, List.length_append, List.length_take, List.length_drop, Array.length_toList]
        omega
      refine ⟨.slice (some ⟨g, 0, none⟩) (n + m) cap, W.setRow g (cur.toList.take (n * i.size) ++ news ++ cur.toList.drop (n * i.size + news.length)).toArray, ?_, .inr (.inr ⟨⟨hlen, by omega, hs1, ?_⟩, g, cap, _, fz, rfl, hc0, setRow_heap W g cur _ e _ hg, ?_, hroom, hcm, ?_, ?_⟩), ⟨rfl, rfl, rfl, by simp [World.setRow], fun k _ hk => setRow_other W g k _ (fun e => hk (by simp [ob, hc0, e]))⟩, ?_⟩
      · simp [Builtin.append_, run_underlying ht, sizeOf, typeInfo, hi, Builtin.lenOf, hroom, hfc, Addr.add_lit, hst]
      · intro u hu
        rcases List.mem_append.1 hu with h | h
        · exact hq u h
        · exact hnq u h
      · rw [hsz2]; exact hf
      · rw [hsz2]; exact hcs
      · rw [htk, ← hlen]; exact List.take_left
      · intro b hb; exact .inl (by simpa [ob, hc0] using hb)
    · have hr := run_append_grow (P := P) W t ty e i z ht hi hz ⟨g, 0, none⟩ n cap xs hl0 (hcells rfl) a m c news hl hnews (by omega) (by simp only [maxLen] at h63; omega) (growslice_fits (by omega) hbytes)
      have hge := grownCap_ge W (n + m) cap e
      have hcm2 : grownCap W (n + m) cap e ≤ maxLen := grownCap_le_maxLen W (n + m) cap e h63
      refine ⟨_, _, hr, .inl ⟨hlen, .inr ⟨W.heap.size, _, _, rfl, Nat.zero_le _, heap_alloc_new W.drew _, hge, hcm2, ?_, ?_⟩⟩, ⟨rfl, rfl, rfl, by simp, fun k hk _ => heap_alloc_old W.drew _ hk⟩, ?_⟩
      · simp only [Array.size_append, List.size_toArray, size_zeroCells, hzs, hl0, hl, ← Nat.add_mul]
        congr 1
        omega
      · simp only [Array.toList_append, List.append_assoc]
        rw [← List.append_assoc, ← hlen]
        exact List.take_left
      · intro b hb
        simp only [ob] at hb
        split at hb <;> cases hb
        exact .inr (Nat.le_refl _)
theorem run_append_owns_none (W : World) (t ty e : TypeId) (i : TypeInfo) (size : Nat) (ht : P.underlying t = some (.slice e)) (hi : P.info? e = some i) (v : Value) (n : Nat) (xs : List Value) (hown : OwnsS W e size v n xs) :
    (Builtin.append_ #[t, t] ty #[v, .slice none 0 0]).run P W = .ok v W := by
  rcases hown with hown | ⟨ad, rfl, _⟩ | ⟨_, g, cap, cur, fz, rfl, _, _, _, hnc, _⟩
  · exact run_append_owned_none (P := P) W 0 t ty e i size ht hi v n xs hown
  · simp [Builtin.append_, run_underlying ht, sizeOf, typeInfo, hi, Builtin.lenOf, Builtin.firstCells, storeCells]
  · simp [Builtin.append_, run_underlying ht, sizeOf, typeInfo, hi, Builtin.lenOf, Builtin.firstCells, storeCells, hnc]
theorem append_run (hS : Sim Θ E s a.tmps W bx rw_) {o : Oper} {d t e : Nat} {x y : Operand} (hd : o.dst = some d) (ho : o.op = .call { callee := .builtin .append, args := #[x, y], argTypes := #[t, t] })
    (ht : P.underlying t = some (.slice e)) {i : TypeInfo} (hi : P.info? e = some i) (hsz : i.size = Θ.sz e) (h0 : 0 < i.size) (hb0 : 0 < i.bytes) (hz : (i.zero.map fun z => z.cells.size) = some i.size) (hsl : slE e = true)
    {ys : List (Θ.T e)} (hy : rowOf Θ s e (s.ev y) = some ys) {r : Nat} {l : List (Θ.T e)} {us : List Value} {v : Value} (hv : a.eval x = v) (hown : Owns W e (Θ.sz e) v l.length us)
    (hrep : All2 (fun x u => Rep Θ W (FF E s bx rw_ W) u x) (l.flatMap (Θ.enc e)) us) (hblk : ∀ b, ob v = some b → ∃ R, look s.rows r = some R ∧ ob (rw_ r R.gen) = some b)
    (hfit : fitB (l.length + ys.length) i.bytes = true) {s' : St Θ.T} (h : s.newRow Θ d r e (l ++ ys) = some s') : Comes1 Θ P E o a W s' := by
  obtain ⟨hn, rfl⟩ := St.newRow_eq h
  have hfit' : (l.length + ys.length) * i.bytes ≤ 140737488355328 := by simpa [fitB] using hfit
  have hle : l.length + ys.length ≤ 140737488355328 := Nat.le_trans (Nat.le_mul_of_pos_right _ hb0) hfit'
  obtain ⟨z, hzz, hzs⟩ : ∃ z, i.zero = some z ∧ z.cells.size = i.size := by
    cases hq : i.zero with
    | none => simp [hq] at hz
    | some z => exact ⟨z, rfl, by simpa [hq] using hz⟩
  have hyr := hS.ev a rfl y
  rcases rowOf_ok hS hsl hy hyr with ⟨hu, rfl⟩ | ⟨ad, n, c, news, hu, hnl, hlen, hnr, hcell⟩
  · have hrun := run_append_owns_none (P := P) W t o.type e i (Θ.sz e) ht hi v l.length us (hown.s hsl)
    obtain ⟨rw', hS'⟩ := hS.newRow (d := d) (l := l ++ []) (v' := v) (W' := W) (us := us) (blk := ob v) hn.1 hn.2 (by simpa using hown) (by simpa using hrep)
      ⟨rfl, rfl, rfl, Nat.le_refl _, fun _ _ _ => rfl⟩ hblk (fun b hb => .inl hb)
    refine comes_value (W' := W) hd ?_ hS'
    simp [execOp, ho, resolve, invoke, builtin, hv, hu, hrun]
  · obtain ⟨v', w', hrun, ho', hg, hat⟩ := run_append_owns (P := P) W t o.type e i z (Θ.sz e) ht hi hzz hsz (by rw [hzs, hsz]) (by omega) v l.length us (hown.s hsl)
      ad n c news hlen hcell (one_of_rep hnr) (by simp only [maxLen]; omega) (by rw [hnl]; exact hfit') (fun hT => bytes_all hT.1.2.2.1 (l := l) (fun e0 => by have := hT.1.2.1; rw [e0] at this; exact absurd this (Nat.lt_irrefl 0)) hrep hT.1.2.2.2 hnr)
    obtain ⟨rw', hS'⟩ := hS.newRow (d := d) (l := l ++ ys) (v' := v') (W' := w') (us := us ++ news) (blk := ob v) hn.1 hn.2 (by rw [List.length_append, ← hnl]; exact .inl ⟨hsl, ho'⟩)
      (by rw [List.flatMap_append]; exact hrep.append hnr) hg hblk hat
    refine comes_value (W' := w') hd ?_ hS'
    simp [execOp, ho, resolve, invoke, builtin, hv, hu, hrun]
theorem append_ok (hS : Sim Θ E s a.tmps W bx rw_) {o : Oper} {d t : Nat} {x y : Operand} (hd : o.dst = some d) (ho : o.op = .call { callee := .builtin .append, args := #[x, y], argTypes := #[t, t] })
    {s' : St Θ.T} (h : aAppend P Θ s d t (s.ev x) (s.ev y) = some (true, s')) : Comes1 Θ P E o a W s' := by
  unfold aAppend at h
  split at h <;> try (cases h; done)
  rename_i e he
  have ht := sliceElem_ok he
  split at h <;> try (cases h; done)
  rename_i i hi
  split at h <;> try (cases h; done)
  rename_i hc
  obtain ⟨hsz, h0, hb0, hz, hsl⟩ := hc
  split at h <;> try (cases h; done)
  rename_i ys hys
  have hx := hS.ev a rfl x
  split at h <;> try (cases h; done)
  · rename_i hev
    rw [hev] at hx
    have hx' : a.eval x = .slice none 0 0 := hx
    cases hn : s.newRow Θ d d e ys with
    | none => simp [hn] at h
    | some s1 =>
      simp [hn] at h
      obtain ⟨hfit, rfl⟩ := h
      exact append_run (r := d) (l := []) (us := []) hS hd ho ht hi hsz h0 hb0 hz hsl hys hx' (Owns.nil hsl) .nil (fun b hb => by simp [ob] at hb) (by simpa using hfit) (by simpa using hn)
  · rename_i hev
    rw [hev] at hx
    obtain ⟨A, hx'⟩ := hx
    cases hn : s.newRow Θ d d e ys with
    | none => simp [hn] at h
    | some s1 =>
      simp [hn] at h
      obtain ⟨hfit, rfl⟩ := h
      refine append_run (r := d) (l := []) (us := []) hS hd ho ht hi hsz h0 hb0 hz hsl hys hx' ?_ .nil (fun b hb => by cases A <;> simp [ob] at hb) (by simpa using hfit) (by simpa using hn)
      cases A with
      | none => exact Owns.nil hsl
      | some ad => exact .inl ⟨hsl, .inr (.inl ⟨ad, rfl, rfl, rfl⟩)⟩
  · rename_i r g hev
    rw [hev] at hx
    have hx' : a.eval x = rw_ r g := hx
    split at h <;> try (cases h; done)
    rename_i R hR
    split at h <;> try (cases h; done)
    rename_i hge
    obtain ⟨g0, e0, l0⟩ := R
    obtain ⟨hg, he0⟩ := hge
    simp only at hg he0
    subst hg
    subst he0
    obtain ⟨_, us, hown, hrep⟩ := hS.rows r _ hR
    cases hn : s.newRow Θ d r e0 (l0 ++ ys) with
    | none => simp [hn] at h
    | some s1 =>
      simp [hn] at h
      obtain ⟨hfit, rfl⟩ := h
      exact append_run (r := r) (l := l0) (us := us) hS hd ho ht hi hsz h0 hb0 hz hsl hys hx' hown hrep (fun b hb => ⟨_, hR, hb⟩) hfit hn
theorem madeCells_get (c : Array Value) (n k : Nat) (h : k < n * c.size) : (madeCells c (n * c.size)).toList[k]? = c.toList[k % c.size]? := by
  have hpos : 0 < c.size := by
    rcases Nat.eq_zero_or_pos c.size with h' | h'
    · rw [h'] at h; omega
    · exact h'
  have hm : k % c.size < c.size := Nat.mod_lt _ hpos
  simp [madeCells, h, hm]
theorem make_ok (hS : Sim Θ E s a.tmps W bx rw_) {o : Oper} {d t : Nat} {x y : Operand} (hd : o.dst = some d) (ho : o.op = .makeSlice t x y) {s' : St Θ.T} (h : aMake P Θ s d t (s.ev x) (s.ev y) = some (true, s')) : Comes1 Θ P E o a W s' := by
  unfold aMake at h
  split at h <;> try (cases h; done)
  rename_i k n k' m hex hey
  have hx := hS.ev a rfl x
  have hy := hS.ev a rfl y
  rw [hex] at hx
  rw [hey] at hy
  replace hx := rav_int hx
  replace hy := rav_int hy
  split at h <;> try (cases h; done)
  rename_i e he
  have ht := sliceElem_ok he
  split at h <;> try (cases h; done)
  rename_i i hi
  split at h <;> try (cases h; done)
  rename_i hc
  obtain ⟨hsz, hb0, hsl⟩ := hc
  split at h <;> try (cases h; done)
  rename_i z hz
  cases hn : s.newRow Θ d d e (List.replicate n.toNat z) with
  | none => simp [hn] at h
  | some s1 =>
    simp [hn] at h
    obtain ⟨⟨⟨rfl, h0⟩, hle⟩, rfl⟩ := h
    obtain ⟨hnr, rfl⟩ := St.newRow_eq hn
    unfold zeroElem at hz
    split at hz <;> try (cases hz; done)
    rename_i cs hcs
    split at hz <;> try (cases hz; done)
    rename_i hcl
    obtain ⟨hcl, hpl⟩ := hcl
    obtain ⟨i', zv, hi', hzv, hzr⟩ := zeroCells_ok (W := W) (F := FF E s bx rw_ W) (bx := bx) (rw_ := rw_) hcs
    rw [hi] at hi'
    cases hi'
    have hzz := elem_plain hpl hz hzr
    have hzsz : zv.cells.size = Θ.sz e := by rw [← Array.length_toList, ← hzr.length]; exact hcl
    obtain ⟨q, rfl⟩ := Int.eq_ofNat_of_zero_le h0
    have hle' : i.bytes * q ≤ 281474976710656 := by
      have : ((q * i.bytes : Nat) : Int) ≤ 281474976710656 := by rw [Int.natCast_mul]; exact hle
      rw [Nat.mul_comm]; omega
    have hq : q ≤ maxLen := by
      have := Nat.le_mul_of_pos_left q hb0
      simp only [maxLen]; omega
    obtain ⟨W', hrun, hown, hg⟩ := run_make_full (P := P) W 0 t e i zv (Θ.sz e) ht hi hzv hsz k k' q hle' hq (Nat.zero_le _)
    obtain ⟨rw', hS'⟩ := hS.newRow (d := d) (l := List.replicate q z) (W' := W') (blk := none) hnr.1 hnr.2 (.inl ⟨hsl, .inl (by simpa using hown)⟩) (by
        refine All2.of_get ?_ (fun j x u hx hu => ?_)
        · rw [flatMap_length (Θ.enc e) (Θ.sz e) (Θ.length_enc e), hown.1]; simp
        · have hj : j < q * Θ.sz e := by
            have := (List.getElem?_eq_some_iff.1 hx).1
            rw [flatMap_length (Θ.enc e) (Θ.sz e) (Θ.length_enc e)] at this
            simpa using this
          have hpos : 0 < Θ.sz e := by
            rcases Nat.eq_zero_or_pos (Θ.sz e) with h | h
            · rw [h] at hj; omega
            · exact h
          have hd1 : j / Θ.sz e < q := (Nat.div_lt_iff_lt_mul hpos).2 hj
          have hd2 : j % Θ.sz e < Θ.sz e := Nat.mod_lt _ hpos
          have hfm := flatMap_get (Θ.enc e) (Θ.sz e) (Θ.length_enc e) (List.replicate q z) (j / Θ.sz e) (j % Θ.sz e) z (by simp [hd1]) hd2
          rw [show j / Θ.sz e * Θ.sz e + j % Θ.sz e = j by rw [Nat.mul_comm]; exact Nat.div_add_mod j _, hx] at hfm
          obtain ⟨u2, hu2, hr⟩ := hzz.get _ hfm.symm
          have := madeCells_get zv.cells q j (by rw [hzsz]; exact hj)
          rw [hzsz] at this
          rw [this] at hu
          rw [hu2] at hu
          cases hu
          exact hr) hg (fun b hb => by cases hb) (fun b hb => by simp [ob] at hb; exact .inr (by omega))
    refine comes_value (W' := W') hd ?_ (by simpa using hS')
    simp [execOp, ho, hx, hy, hrun]
theorem lit_run (hS : Sim Θ E s a.tmps W bx rw_) (e size : Nat) (hsz : size = Θ.sz e) : ∀ (parts : List (Nat × Operand)) (j : Nat) (l : List (Θ.T e)) (pre rest : List Value), litElems Θ s e j parts = some l → pre.length = j * size → rest.length = parts.length * size →
    ∃ us : List Value, Instr.fill (fun i => some (i * size, size)) (pre ++ rest).toArray (parts.map fun p => (p.1, a.eval p.2)) = some (pre ++ us).toArray ∧ us.length = parts.length * size ∧ l.length = parts.length ∧
      All2 (fun p u => Rep Θ W (FF E s bx rw_ W) u p) (l.flatMap (Θ.enc e)) us := by
  intro parts
  induction parts with
  | nil =>
    intro j l pre rest h hp hr
    simp [litElems] at h
    subst h
    have : rest = [] := List.eq_nil_of_length_eq_zero (by simpa using hr)
    subst this
    exact ⟨[], rfl, by simp, rfl, .nil⟩
  | cons p parts ih =>
    intro j l pre rest h hp hr
    obtain ⟨i, x⟩ := p
    simp only [litElems] at h
    split at h <;> try (cases h; done)
    rename_i hij
    subst hij
    split at h <;> try (cases h; done)
    rename_i cs hcs
    split at h <;> try (cases h; done)
    rename_i hc
    obtain ⟨hcl, hpl⟩ := hc
    split at h <;> try (cases h; done)
    rename_i y l' hy hl'
    cases h
    have hv := cellsOfAV_ok hS.rwsl hcs (hS.ev a rfl x)
    have hvs : (a.eval x).cells.size = size := by rw [hsz, ← hcl, hv.length, Array.length_toList]
    have hr' : rest.length = parts.length * size + size := by rw [hr, List.length_cons, Nat.succ_mul]
    have hfill := fill_run (fun i => some (i * size, size)) (pre ++ rest) i (i * size) (a.eval x) (parts.map fun p => (p.1, a.eval p.2)) (by simp only [hvs]) (by rw [hvs, List.length_append, hp, hr']; omega)
    have hcut : (pre ++ rest).take (i * size) ++ (a.eval x).cells.toList ++ (pre ++ rest).drop (i * size + (a.eval x).cells.size) = (pre ++ (a.eval x).cells.toList) ++ rest.drop size := by
      rw [hvs, ← hp, List.take_left, List.drop_append, List.drop_of_length_le (l := pre) (by omega), show pre.length + size - pre.length = size by omega]
      simp
    rw [hcut] at hfill
    obtain ⟨us, h1, h2, h3, h4⟩ := ih (i + 1) l' (pre ++ (a.eval x).cells.toList) (rest.drop size) hl' (by rw [List.length_append, hp, Array.length_toList, hvs, Nat.succ_mul]) (by rw [List.length_drop, hr']; omega)
    refine ⟨(a.eval x).cells.toList ++ us, ?_, ?_, by simp [h3], ?_⟩
    · simp only [List.map_cons]
      rw [hfill, h1, List.append_assoc]
    · rw [List.length_append, Array.length_toList, hvs, h2, List.length_cons, Nat.succ_mul]; omega
    · rw [List.flatMap_cons]
      exact (elem_plain hpl hy hv).append h4
theorem Sim.later {tm : Array Value} (hS : Sim Θ E s tm W bx rw_) {W' : World} (h : Below W.heap.size W W') : Sim Θ E s tm W' bx rw_ := by
  have hlt : ∀ k B, look s.boxes k = some B → bx k B.gen < W.heap.size := fun k B hB => by
    obtain ⟨_, cv, hh, _⟩ := hS.boxes k B hB
    exact (Array.getElem?_eq_some_iff.1 hh).1
  have hF : ∀ b, FF E s bx rw_ W b → FF E s bx rw_ W' b := fun b hb => ⟨hb.1, Nat.lt_of_lt_of_le hb.2.1 h.size, hb.2.2⟩
  have hW : ∀ b, FF E s bx rw_ W b → W'.heap[b]? = W.heap[b]? := fun b hb => h.block b hb.2.1
  have hg : W.grownBy W' none := ⟨h.os, h.tape, h.output, h.size, fun b hb _ => h.block b hb⟩
  refine ⟨hS.below.grown hg (fun k e => by cases e), hS.glob, hS.pinB, hS.pinR, hS.rwsl, fun k B hB => ?_, fun r R hR => ?_, hS.bb, hS.rr, hS.br, hS.len, fun i => RAV.trans hF hW (fun _ _ => rfl) (fun _ _ => rfl) (hS.slots i)⟩
  · obtain ⟨h1, cv, hh, ha⟩ := hS.boxes k B hB
    exact ⟨h1, cv, by rw [h.block _ (hlt k B hB)]; exact hh, RCs.trans hF hW (fun _ _ => rfl) (fun _ _ => rfl) ha⟩
  · obtain ⟨h1, us, ho, ha⟩ := hS.rows r R hR
    exact ⟨h1, us, ho.kept hg (by cases ob (rw_ r R.gen) <;> simp), ha.mono fun x u hx => Rep.mono hx hF hW⟩
theorem lit_ok (hS : Sim Θ E s a.tmps W bx rw_) {o : Oper} {d t len : Nat} {parts : Array (Nat × Operand)} (hd : o.dst = some d) (ho : o.op = .buildSlice t len parts) {s' : St Θ.T} (h : aLit P Θ s d t len parts = some (true, s')) : Comes1 Θ P E o a W s' := by
  unfold aLit at h
  split at h <;> try (cases h; done)
  rename_i e he
  have ht := sliceElem_ok he
  split at h <;> try (cases h; done)
  rename_i i hi
  split at h <;> try (cases h; done)
  rename_i hc
  obtain ⟨hsz, h0, hz, hpl, hcap⟩ := hc
  split at h <;> try (cases h; done)
  rename_i l hl
  simp only [Option.some.injEq, Prod.mk.injEq, true_and] at h
  subst h
  · skip
    obtain ⟨z, hzz, hzs⟩ : ∃ z, i.zero = some z ∧ z.cells.size = i.size := by
      cases hq : i.zero with
      | none => simp [hq] at hz
      | some z => exact ⟨z, rfl, by simpa [hq] using hz⟩
    have hzero : ∃ zs : List Value, zs.length = len * i.size ∧ ∀ W : World, (do
        let zero ← (if len * i.size = 0 then pure #[] else do pure (← zeroValue e).cells : Sem (Array Value))
        pure ((Array.range (len * i.size)).map (zero[· % zero.size]!)) : Sem (Array Value)).run P W = .ok zs.toArray W := by
      by_cases h00 : len * i.size = 0
      · exact ⟨[], by simp [h00], fun W => by simp [h00]⟩
      · exact ⟨((Array.range (len * i.size)).map (z.cells[· % z.cells.size]!)).toList, by simp, fun W => by rw [Array.toArray_toList]; simp only [h00, if_false, zeroValue, typeInfo, Sem.run_bind, Sem.run_pure, Result.andThen_ok, hi, hzz, run_program]⟩
    obtain ⟨zs, hzl, hzr⟩ := hzero
    obtain ⟨us, h1, h2, h3, h4⟩ := lit_run hS e i.size hsz parts.toList 0 l [] zs hl (by simp) (by rw [hzl, hpl])
    simp only [List.nil_append] at h1
    have hown := World.ownsRow_lit (base := 0) (e := e) (size := Θ.sz e) W us.toArray len (Nat.zero_le _) (by
      have : len ≤ len * i.size := Nat.le_mul_of_pos_right _ h0
      simp only [maxLen]; omega) (by simp; rw [h2, hpl, hsz])
    have hll : l.length = len := by rw [h3, hpl]
    have hbel : Below W.heap.size W (W.alloc (.cells us.toArray e)) := (Below.refl _ W).alloc (Nat.le_refl _) _
    have hS1 := hS.later hbel
    have hF1 : ∀ b, FF E s bx rw_ W b → FF E s bx rw_ (W.alloc (.cells us.toArray e)) b := fun b hb => ⟨hb.1, Nat.lt_of_lt_of_le hb.2.1 hbel.size, hb.2.2⟩
    have hnew : FF E s bx rw_ (W.alloc (.cells us.toArray e)) W.heap.size := by
      refine ⟨.inr (Env.own_new hS.below (Nat.le_refl _)), by simp, ?_⟩
      rintro (⟨k, B, hB, hb⟩ | ⟨r, R, hR, hb⟩)
      · obtain ⟨_, cv, hh, _⟩ := hS.boxes k B hB
        have := (Array.getElem?_eq_some_iff.1 hh).1
        omega
      · obtain ⟨_, vs, ho, _⟩ := hS.rows r R hR
        have := ho.lt hb
        omega
    have hul : us.length = l.length * Θ.sz e := by rw [h2, hpl, hll, hsz]
    have hrep : Rep Θ (W.alloc (.cells us.toArray e)) (FF E s bx rw_ (W.alloc (.cells us.toArray e))) (.slice (some ⟨W.heap.size, 0, none⟩) len len) (.sl e l) := by
      refine .sl e l _ _ _ (fun i j => us.getD (i * Θ.sz e + j) undef) hll (Nat.le_refl _) (fun h => by cases h) (fun hne => ⟨⟨W.heap.size, 0, none⟩, rfl, rfl, fun _ => ⟨hnew, fun _ => elOf_cells (c := us.toArray) (f := (0, 0)) (by show (W.heap.push _)[W.heap.size]? = _; rw [Array.getElem?_push_size]) (.inl rfl)⟩, fun i j hi hj => ?_⟩) (fun i j y x hy hx => ?_)
      · have hlen : i * Θ.sz e + j < us.length := by
          rw [hul]
          have := Nat.mul_le_mul_right (Θ.sz e) hi
          rw [Nat.succ_mul] at this
          omega
        rw [plain_add, cell_of_row _ W.heap.size _ us.toArray e (0, 0) (heap_alloc_new W _), List.getD_eq_getElem?_getD]
        simp [hlen]
      · have hj : j < Θ.sz e := by
          have := (List.getElem?_eq_some_iff.1 hx).1
          rwa [Θ.length_enc] at this
        have hfm := flatMap_get (Θ.enc e) (Θ.sz e) (Θ.length_enc e) l i j y hy hj
        rw [hx] at hfm
        obtain ⟨u, hu, hr⟩ := h4.get _ hfm
        rw [List.getD_eq_getElem?_getD, hu]
        exact Rep.mono hr hF1 (fun b hb => hbel.block b hb.2.1)
    have hS' : Sim Θ E (s.put (some d) (if parts.isEmpty then .c .e0 else .c (.v (.sl e l)))) (a.tmps.setIfInBounds d (.slice (some ⟨W.heap.size, 0, none⟩) len len)) (W.alloc (.cells us.toArray e)) bx rw_ := by
      refine Sim.put hS1 d ?_
      split
      · rename_i hpe
        have : len = 0 := by rw [← hpl]; simp at hpe; simp [hpe]
        rw [this]; exact ⟨_, rfl⟩
      · exact hrep
    refine comes_value (W' := W.alloc (.cells us.toArray e)) hd ?_ hS'
    have hz1 := hzr W
    have hcap' : ¬ 16777216 < len * i.size := by omega
    by_cases h00 : len * i.size = 0
    · simp only [h00, if_true, Sem.run_bind, Sem.run_pure, Result.andThen_ok] at hz1
      have hz2 : zs = [] := List.eq_nil_of_length_eq_zero (by rw [hzl, h00])
      subst hz2
      have h1' : Instr.fill (fun i_1 => some (i_1 * i.size, i.size)) #[] (List.map (fun x => (x.fst, a.eval x.snd)) parts.toList) = some us.toArray := h1
      have hr0 : Array.map (fun _ => (default : Value)) (Array.range 0) = #[] := by apply Array.ext'; simp
      simp [execOp, ho, Instr.buildSlice, run_underlying ht, sizeOf, typeInfo, hi, h00, hr0, h1', newRow]
    · have hzs' : ((Array.range (len * i.size)).map (z.cells[· % z.cells.size]!)) = zs.toArray := by
        simp [h00, zeroValue, typeInfo, hi, hzz] at hz1
        exact hz1
      have h1' : Instr.fill (fun i_1 => some (i_1 * i.size, i.size)) zs.toArray (List.map (fun x => (x.fst, a.eval x.snd)) parts.toList) = some us.toArray := h1
      simp [execOp, ho, Instr.buildSlice, run_underlying ht, sizeOf, typeInfo, hi, h00, hcap', zeroValue, hzz, hzs', h1', newRow]
theorem litR_ok (hS : Sim Θ E s a.tmps W bx rw_) {o : Oper} {d t len : Nat} {parts : Array (Nat × Operand)} (hd : o.dst = some d) (ho : o.op = .buildSlice t len parts) {s' : St Θ.T} (h : aLitR P Θ s d t len parts = some (true, s')) : Comes1 Θ P E o a W s' := by
  unfold aLitR at h
  split at h <;> try (cases h; done)
  rename_i e he
  have ht := sliceElem_ok he
  split at h <;> try (cases h; done)
  rename_i i hi
  split at h <;> try (cases h; done)
  rename_i hc
  obtain ⟨⟨hsz, h0, hz, hpl, hcap⟩, hsl⟩ := hc
  split at h <;> try (cases h; done)
  rename_i l hl
  cases hn : s.newRow Θ d d e l with
  | none => simp [hn] at h
  | some s1 =>
    simp [hn] at h
    obtain ⟨hnr, hs1⟩ := St.newRow_eq hn
    subst h
    subst hs1
    obtain ⟨z, hzz, hzs⟩ : ∃ z, i.zero = some z ∧ z.cells.size = i.size := by
      cases hq : i.zero with
      | none => simp [hq] at hz
      | some z => exact ⟨z, rfl, by simpa [hq] using hz⟩
    have hzero : ∃ zs : List Value, zs.length = len * i.size ∧ ∀ W : World, (do
        let zero ← (if len * i.size = 0 then pure #[] else do pure (← zeroValue e).cells : Sem (Array Value))
        pure ((Array.range (len * i.size)).map (zero[· % zero.size]!)) : Sem (Array Value)).run P W = .ok zs.toArray W := by
      by_cases h00 : len * i.size = 0
      · exact ⟨[], by simp [h00], fun W => by simp [h00]⟩
      · exact ⟨((Array.range (len * i.size)).map (z.cells[· % z.cells.size]!)).toList, by simp, fun W => by rw [Array.toArray_toList]; simp only [h00, if_false, zeroValue, typeInfo, Sem.run_bind, Sem.run_pure, Result.andThen_ok, hi, hzz, run_program]⟩
    obtain ⟨zs, hzl, hzr⟩ := hzero
    obtain ⟨us, h1, h2, h3, h4⟩ := lit_run hS e i.size hsz parts.toList 0 l [] zs hl (by simp) (by rw [hzl, hpl])
    simp only [List.nil_append] at h1
    have hown := World.ownsRow_lit (base := 0) (e := e) (size := Θ.sz e) W us.toArray len (Nat.zero_le _) (by
      have : len ≤ len * i.size := Nat.le_mul_of_pos_right _ h0
      simp only [maxLen]; omega) (by simp; rw [h2, hpl, hsz])
    have hll : l.length = len := by rw [h3, hpl]
    have hbel : Below W.heap.size W (W.alloc (.cells us.toArray e)) := (Below.refl _ W).alloc (Nat.le_refl _) _
    obtain ⟨rw', hS'⟩ := hS.newRow (d := d) (l := l) (W' := W.alloc (.cells us.toArray e)) (blk := none) hnr.1 hnr.2 (.inl ⟨hsl, .inl (by rw [hll]; simpa using hown)⟩) h4 (World.grownBy_alloc W _ none) (fun b hb => by cases hb) (fun b hb => by
      simp only [ob] at hb
      split at hb <;> try (cases hb; done)
      cases hb; exact .inr (Nat.le_refl _))
    refine comes_value (W' := W.alloc (.cells us.toArray e)) hd ?_ hS'
    have hz1 := hzr W
    have hcap' : ¬ 16777216 < len * i.size := by omega
    by_cases h00 : len * i.size = 0
    · simp only [h00, if_true, Sem.run_bind, Sem.run_pure, Result.andThen_ok] at hz1
      have hz2 : zs = [] := List.eq_nil_of_length_eq_zero (by rw [hzl, h00])
      subst hz2
      have h1' : Instr.fill (fun i_1 => some (i_1 * i.size, i.size)) #[] (List.map (fun x => (x.fst, a.eval x.snd)) parts.toList) = some us.toArray := h1
      have hr0 : Array.map (fun _ => (default : Value)) (Array.range 0) = #[] := by apply Array.ext'; simp
      simp [execOp, ho, Instr.buildSlice, run_underlying ht, sizeOf, typeInfo, hi, h00, hr0, h1', newRow]
    · have hzs' : ((Array.range (len * i.size)).map (z.cells[· % z.cells.size]!)) = zs.toArray := by
        simp [h00, zeroValue, typeInfo, hi, hzz] at hz1
        exact hz1
      have h1' : Instr.fill (fun i_1 => some (i_1 * i.size, i.size)) zs.toArray (List.map (fun x => (x.fst, a.eval x.snd)) parts.toList) = some us.toArray := h1
      simp [execOp, ho, Instr.buildSlice, run_underlying ht, sizeOf, typeInfo, hi, h00, hcap', zeroValue, hzz, hzs', h1', newRow]
theorem byte_leaf {e : TypeId} (hb : isByte Θ e = true) : (Θ.E e).leaves = [.int .u8] := by
  unfold isByte at hb
  split at hb <;> try (cases hb; done)
  rename_i lf r hlf
  rw [Bool.and_eq_true] at hb
  obtain ⟨h1, h2⟩ := hb
  have hr0 : r = [] := by simpa using h2
  subst hr0
  rw [hlf]
  cases lf <;> first | (cases h1; done) | skip
  rename_i k
  have : k = .u8 := of_decide_eq_true h1
  rw [this]
theorem byteIn_enc {T : TypeId → Type} {A : Type} (E : Enc T A) (hl : E.leaves = [.int .u8]) (n : Int) : HT.list Leaf.mk E.leaves (E.to (byteIn E n)) = [.int .u8 n] := by
  obtain ⟨ls, to, of, inv, dft⟩ := E
  simp only at hl
  subst hl
  exact congrArg (HT.list (Leaf.mk (T := T)) [Leaf.int .u8]) (inv n)
theorem byteOf_enc {e : TypeId} (hb : isByte Θ e = true) (n : Int) : Θ.enc e (byteOf Θ e n) = [.int .u8 n] := byteIn_enc (Θ.E e) (byte_leaf hb) n
theorem bytes_ok (hS : Sim Θ E s a.tmps W bx rw_) {o : Oper} {d src t : Nat} {x : Operand} {b : ByteArray} (hd : o.dst = some d) (ho : o.op = .convert src t x) (hx : s.ev x = .c (.v (.str b))) {s' : St Θ.T} (h : aBytes P Θ s d src t b = some (true, s')) : Comes1 Θ P E o a W s' := by
  unfold aBytes at h
  split at h <;> try (cases h; done)
  rename_i e hs ht
  split at h <;> try (cases h; done)
  rename_i hu
  split at h <;> try (cases h; done)
  rename_i hb
  have hxv := hS.ev a rfl x
  rw [hx] at hxv
  have hxe : a.eval x = .string b := rav_str hxv
  have hrun := run_bytes_of_string (P := P) W src t e b hs ht hu
  have hsz : Θ.sz e = 1 := by unfold Tab.sz; rw [byte_leaf hb]; rfl
  have hll : (bytesL Θ e b).length = b.size := by unfold bytesL; rw [List.length_map, Array.length_toList]; rfl
  split at h
  ·
    rename_i hown
    rw [Bool.and_eq_true] at hown
    cases hn : s.newRow Θ d d e (bytesD Θ e b) with
    | none => simp [hn] at h
    | some s2 =>
      rw [hn] at h
      simp only [Option.map_some, Option.some.injEq, Prod.mk.injEq, Bool.and_eq_true] at h
      obtain ⟨⟨hpos, hfit⟩, rfl⟩ := h
      have hl2 : (bytesD Θ e b).length = b.size := hll
      have hp : 0 < b.size := by
        unfold inB at hpos
        rw [hl2] at hpos
        simp only [Bool.and_eq_true, decide_eq_true_eq] at hpos
        omega
      have hf : b.size ≤ 140737488355328 := by unfold fitB at hfit; rw [hl2] at hfit; simpa using hfit
      obtain ⟨hnr, hs1⟩ := St.newRow_eq hn
      subst hs1
      generalize hcap : grownCap W b.size 0 e = cap at hrun
      have hcge : b.size ≤ cap := by rw [← hcap]; exact grownCap_ge W b.size 0 e
      have hcm : cap ≤ maxLen := by rw [← hcap]; exact grownCap_le_maxLen W b.size 0 e (by simp only [maxLen]; omega)
      generalize hcur : bytesRow b cap = cur at hrun
      have hcs : cur.size = cap := by
        rw [← hcur]; unfold bytesRow
        simp only [Array.size_append, Array.size_map, Array.size_replicate]
        have : b.data.size = b.size := rfl
        omega
      have hus : cur.toList.take b.size = b.data.toList.map fun c => Value.int .u8 (c.toNat : Int) := by
        rw [← hcur]; unfold bytesRow
        simp only [Array.toList_append, Array.toList_map]
        exact List.take_left' (by rw [List.length_map, Array.length_toList]; rfl)
      generalize hW1 : W.drew.alloc (.cells cur e (cur.size, cur.size + 1)) = W1 at hrun
      have hheap : W1.heap = W.heap.push (.cells cur e (cur.size, cur.size + 1)) := by rw [← hW1]; rfl
      have hnewb : W1.heap[W.heap.size]? = some (.cells cur e (cur.size, cur.size + 1)) := by rw [hheap]; simp
      have hg : W.grownBy W1 none := ⟨by rw [← hW1]; rfl, by rw [← hW1]; rfl, by rw [← hW1]; rfl, by rw [hheap]; simp, fun k hk _ => by rw [hheap, Array.getElem?_push, if_neg (Nat.ne_of_lt hk)]⟩
      have hT : OwnsT W1 e (Θ.sz e) (.slice (some ⟨W.heap.size, 0, none⟩) b.size cap) (bytesD Θ e b).length (b.data.toList.map fun c => Value.int .u8 (c.toNat : Int)) := by
        rw [hl2, hsz]
        refine ⟨⟨by rw [List.length_map, Array.length_toList, Nat.mul_one]; rfl, hp, rfl, fun u hu => ?_⟩, W.heap.size, cap, cur, _, rfl, by omega, hnewb, Nat.le_refl _, hcge, hcm, by omega, by rw [Nat.mul_one]; exact hus⟩
        obtain ⟨c, _, rfl⟩ := List.mem_map.1 hu
        exact ⟨_, rfl⟩
      have hrep : All2 (fun x u => Rep Θ W (FF E s bx rw_ W) u x) ((bytesD Θ e b).flatMap (Θ.enc e)) (b.data.toList.map fun c => Value.int .u8 (c.toNat : Int)) := by
        unfold bytesD bytesL
        generalize b.data.toList = l
        induction l with
        | nil => exact .nil
        | cons c l ih =>
          simp only [List.map_cons, List.flatMap_cons, byteOf_enc hb, List.singleton_append]
          exact .cons (.int _ _) ih
      obtain ⟨rw', hS'⟩ := hS.newRow (d := d) (l := bytesD Θ e b) (v' := .slice (some ⟨W.heap.size, 0, none⟩) b.size cap) (W' := W1) (blk := none) hnr.1 hnr.2 (.inl ⟨hown.2, .inr (.inr hT)⟩) hrep hg (fun b hb => by cases hb) (fun b' hb' => by
        simp only [ob] at hb'
        split at hb' <;> cases hb'
        exact .inr (Nat.le_refl _))
      refine comes_value (W' := W1) hd ?_ hS'
      simp [execOp, ho, hxe, hrun]
  simp only [Option.some.injEq, Prod.mk.injEq, true_and] at h
  subst h
  generalize hcap : grownCap W b.size 0 e = cap at hrun
  have hcge : b.size ≤ cap := by rw [← hcap]; exact grownCap_ge W b.size 0 e
  generalize hfr : ((bytesRow b cap).size, (bytesRow b cap).size + 1) = fr at hrun
  generalize hW1 : W.drew.alloc (.cells (bytesRow b cap) e fr) = W1 at hrun
  have hheap : W1.heap = W.heap.push (.cells (bytesRow b cap) e fr) := by rw [← hW1]; rfl
  have hnewb : W1.heap[W.heap.size]? = some (.cells (bytesRow b cap) e fr) := by rw [hheap]; simp
  have hbel : Below W.heap.size W W1 := ⟨by rw [← hW1]; rfl, by rw [← hW1]; rfl, by rw [← hW1]; rfl, by rw [hheap]; simp, fun k hk => by rw [hheap, Array.getElem?_push, if_neg (Nat.ne_of_lt hk)]⟩
  have hS1 := hS.later hbel
  have hnew : FF E s bx rw_ W1 W.heap.size := by
    refine ⟨.inr (Env.own_new hS.below (Nat.le_refl _)), by rw [hheap]; simp, ?_⟩
    rintro (⟨k, B, hB, hb⟩ | ⟨r, R, hR, hb⟩)
    · obtain ⟨_, cv, hh, _⟩ := hS.boxes k B hB
      have := (Array.getElem?_eq_some_iff.1 hh).1
      omega
    · obtain ⟨_, vs, ho, _⟩ := hS.rows r R hR
      have := ho.lt hb
      omega
  have hrep : Rep Θ W1 (FF E s bx rw_ W1) (.slice (some ⟨W.heap.size, 0, none⟩) b.size cap) (.sl e (bytesL Θ e b)) := by
    refine .sl e _ _ _ _ (fun i _ => .int .u8 ((b.data.toList.getD i 0).toNat : Int)) hll hcge (fun h => by cases h) (fun hne => ⟨⟨W.heap.size, 0, none⟩, rfl, rfl, fun _ => ⟨hnew, fun _ => elOf_cells hnewb (by rw [← hfr]; exact .inr (Nat.le_refl _))⟩, fun i j hi hj => ?_⟩) (fun i j y x hy hx => ?_)
    · have hj0 : j = 0 := by omega
      subst hj0
      rw [hll] at hi
      rw [hsz, Nat.mul_one, Nat.add_zero, plain_add]
      simp only [World.cell?, hnewb]
      have hi' : i < b.data.size := hi
      have hib : i < (b.data.map fun c => Value.int .u8 (c.toNat : Int)).size := by simpa using hi'
      unfold bytesRow
      simp only [Nat.zero_add]
      rw [Array.getElem?_append_left hib, Array.getElem?_map, Array.getElem?_eq_getElem hi', List.getD_eq_getElem?_getD, Array.getElem?_toList, Array.getElem?_eq_getElem hi']
      rfl
    · have hil : i < (bytesL Θ e b).length := (List.getElem?_eq_some_iff.1 hy).1
      unfold bytesL at hy
      rw [List.getElem?_map] at hy
      cases hq : b.data.toList[i]? with
      | none => simp [hq] at hy
      | some c =>
        simp only [hq, Option.map_some, Option.some.injEq] at hy
        rw [← hy, byteOf_enc hb] at hx
        cases j with
        | zero =>
          simp at hx
          rw [← hx, List.getD_eq_getElem?_getD, hq]
          exact .int _ _
        | succ j => simp at hx
  have hS' : Sim Θ E (s.put (some d) (.c (.v (.sl e (bytesL Θ e b))))) (a.tmps.setIfInBounds d (.slice (some ⟨W.heap.size, 0, none⟩) b.size cap)) W1 bx rw_ := Sim.put hS1 d hrep
  refine comes_value (W' := W1) hd ?_ hS'
  simp [execOp, ho, hxe, hrun]
theorem opA_ok (hS : Sim Θ E s a.tmps W bx rw_) {o : Oper} {s' : St Θ.T} (h : opA P Θ s o = some (true, s')) : Comes1 Θ P E o a W s' := by
  unfold opA at h
  split at h
  · rename_i d hd
    split at h <;> try (cases h; done)
    · rename_i ho; exact alloc_ok hS hd ho h
    · rename_i ho; exact box_ok hS hd ho h
    · rename_i ho; exact make_ok hS hd ho h
    · rename_i ho; exact makeMap_ok hS hd ho h
    · rename_i ho; exact lit_ok hS hd ho h
    · rename_i c ho
      obtain ⟨callee, args, ats⟩ := c
      simp only at h
      split at h <;> try (cases h; done)
      rename_i x y t t' harg hat
      split at h <;> try (cases h; done)
      rename_i htt
      subst htt
      have e1 : args = #[x, y] := by apply Array.ext'; simpa using harg
      have e2 : ats = #[t, t] := by apply Array.ext'; simpa using hat
      subst e1
      subst e2
      exact append_ok hS hd ho h
  · rename_i hd
    split at h <;> try (cases h; done)
    · rename_i ho
      exact store_ok hS hd ho h
    · rename_i ho
      exact mapset_ok hS hd ho h
end
end Go.Den
