/- The values of the evaluator 'den', and what it means that a machine value stands for one. Plain definitions and theorems over the library. -/
import Derived.Below
import Derived.Maps.AppendAt
import Derived.Orders
import Derived.WalkKit
import Derived.KernelRfl
namespace Go.Den
open Go Go.RowKit

/-! ### Rows of differing types -/
def HT {A : Type} (ty : A → Type) : List A → Type
  | [] => Unit
  | [a] => ty a
  | a :: b :: r => ty a × HT ty (b :: r)
def HT.get {A B : Type} {ty : A → Type} (g : (a : A) → B → Option (ty a)) : (as : List A) → List B → Option (HT ty as)
  | [], l => match l with
    | [] => some ()
    | _ :: _ => none
  | [a], l => match l with
    | [] => none
    | b :: bs => match bs with
      | [] => g a b
      | _ :: _ => none
  | a :: a2 :: r, l => match l with
    | [] => none
    | b :: bs => match g a b with
      | some x => match HT.get g (a2 :: r) bs with
        | some xs => some (x, xs)
        | none => none
      | none => none
theorem HT.get_cons {A B : Type} {ty : A → Type} (g : (a : A) → B → Option (ty a)) (a a2 : A) (r : List A) (b : B) (bs : List B) :
    HT.get g (a :: a2 :: r) (b :: bs) = match g a b with
      | some x => match HT.get g (a2 :: r) bs with
        | some xs => some (x, xs)
        | none => none
      | none => none := by rw [HT.get]
theorem HT.get_one {A B : Type} {ty : A → Type} (g : (a : A) → B → Option (ty a)) (a : A) (b : B) : HT.get g [a] [b] = g a b := by rw [HT.get]
theorem HT.get_len {A B : Type} {ty : A → Type} (g : (a : A) → B → Option (ty a)) : ∀ (as : List A) (bs : List B) (x : HT ty as), HT.get g as bs = some x → as.length = bs.length := by
  intro as
  induction as with
  | nil => intro bs x h; cases bs with | nil => rfl | cons b bs => rw [HT.get] at h; cases h
  | cons a as ih =>
    intro bs x h
    cases as with
    | nil =>
      cases bs with
      | nil => rw [HT.get] at h; cases h
      | cons b bs => cases bs with | nil => rfl | cons c bs => rw [HT.get] at h; cases h
    | cons a2 r =>
      cases bs with
      | nil => rw [HT.get] at h; cases h
      | cons b bs =>
        rw [HT.get_cons] at h
        split at h
        · split at h
          · rename_i xs hxs
            have := ih bs xs hxs
            simp only [List.length_cons] at this ⊢
            omega
          · cases h
        · cases h
def HT.list {A C : Type} {ty : A → Type} (m : (a : A) → ty a → C) : (as : List A) → HT ty as → List C
  | [], _ => []
  | [a], x => [m a x]
  | a :: b :: r, x => m a x.1 :: HT.list m (b :: r) x.2

/-! ### Values -/
inductive PV (T : TypeId → Type) : Type where
  | int (k : IntKind) (n : Int)
  | bool (b : Bool)
  | str (s : ByteArray)
  | sl (e : TypeId) (l : List (T e))
inductive Leaf where
  | int (k : IntKind)
  | bool
  | str
  | sl (e : TypeId)
def Leaf.Ty (T : TypeId → Type) : Leaf → Type
  | .int _ => Int
  | .bool => Bool
  | .str => ByteArray
  | .sl e => List (T e)
def Leaf.mk {T : TypeId → Type} : (l : Leaf) → l.Ty T → PV T
  | .int k, n => .int k n
  | .bool, b => .bool b
  | .str, s => .str s
  | .sl e, l => .sl e l
def Leaf.get {T : TypeId → Type} : (l : Leaf) → PV T → Option (l.Ty T)
  | .int k, .int k' n => if k = k' then some n else none
  | .bool, .bool b => some b
  | .str, .str s => some s
  | .sl e, .sl e' l => if h : e' = e then some (h ▸ l) else none
  | _, _ => none
theorem Leaf.get_mk {T : TypeId → Type} {l : Leaf} {p : PV T} {x : l.Ty T} (h : l.get p = some x) : p = l.mk x := by
  cases l <;> cases p <;> simp only [Leaf.get] at h <;> try (cases h; done)
  · split at h
    · rename_i hk; subst hk; injection h with h; subst h; rfl
    · cases h
  · injection h with h; subst h; rfl
  · injection h with h; subst h; rfl
  · split at h
    · rename_i hk; subst hk; injection h with h; subst h; rfl
    · cases h
/-- Does a value of this kind hold no address? -/
def Leaf.flat : Leaf → Bool
  | .sl _ => false
  | _ => true

structure Enc (T : TypeId → Type) (A : Type) where
  leaves : List Leaf
  to : A → HT (Leaf.Ty T) leaves
  of : HT (Leaf.Ty T) leaves → A
  inv : ∀ x, to (of x) = x
  dft : A
/-- The body of a range over a function: its parameters, its codes; which slots of the frame it looks at, and how many there are. -/
structure Rng where
  ps : Array Tmp
  assign : Code
  body : Code
  live : List Nat
  nt : Nat
structure Tab where
  T : TypeId → Type
  E : (e : TypeId) → Enc T (T e)
  Y : Nat → Option Rng := fun _ => none
def Tab.enc (Θ : Tab) (e : TypeId) (x : Θ.T e) : List (PV Θ.T) := HT.list Leaf.mk (Θ.E e).leaves ((Θ.E e).to x)
def Tab.sz (Θ : Tab) (e : TypeId) : Nat := (Θ.E e).leaves.length
theorem HT.length_list {A C : Type} {ty : A → Type} (m : (a : A) → ty a → C) : ∀ (as : List A) (x : HT ty as), (HT.list m as x).length = as.length
  | [], _ => rfl
  | [_], _ => rfl
  | a :: b :: r, x => by simp only [HT.list, List.length_cons]; rw [HT.length_list m (b :: r) x.2]; rfl
theorem Tab.length_enc (Θ : Tab) (e : TypeId) (x : Θ.T e) : (Θ.enc e x).length = Θ.sz e := HT.length_list _ _ _

/-! ### Two lists, item by item -/
inductive All2 {A B : Type} (R : A → B → Prop) : List A → List B → Prop where
  | nil : All2 R [] []
  | cons {a : A} {b : B} {as : List A} {bs : List B} (h : R a b) (t : All2 R as bs) : All2 R (a :: as) (b :: bs)
namespace All2
variable {A B : Type} {R R' : A → B → Prop}
theorem length {as : List A} {bs : List B} (h : All2 R as bs) : as.length = bs.length := by induction h <;> simp_all
theorem mono {as : List A} {bs : List B} (h : All2 R as bs) (hr : ∀ a b, R a b → R' a b) : All2 R' as bs := by
  induction h with
  | nil => exact .nil
  | cons h _ ih => exact .cons (hr _ _ h) ih
theorem get {as : List A} {bs : List B} (h : All2 R as bs) (i : Nat) {a : A} (ha : as[i]? = some a) : ∃ b, bs[i]? = some b ∧ R a b := by
  induction h generalizing i with
  | nil => simp at ha
  | cons h _ ih =>
    cases i with
    | zero => simp at ha; subst ha; exact ⟨_, by simp, h⟩
    | succ i => simp at ha; obtain ⟨b, hb, hr⟩ := ih i ha; exact ⟨b, by simpa using hb, hr⟩
theorem get' {as : List A} {bs : List B} (h : All2 R as bs) (i : Nat) {b : B} (hb : bs[i]? = some b) : ∃ a, as[i]? = some a ∧ R a b := by
  induction h generalizing i with
  | nil => simp at hb
  | cons h _ ih =>
    cases i with
    | zero => simp at hb; subst hb; exact ⟨_, by simp, h⟩
    | succ i => simp at hb; obtain ⟨a, ha, hr⟩ := ih i hb; exact ⟨a, by simpa using ha, hr⟩
theorem append {as as' : List A} {bs bs' : List B} (h : All2 R as bs) (h' : All2 R as' bs') : All2 R (as ++ as') (bs ++ bs') := by
  induction h with
  | nil => exact h'
  | cons h _ ih => exact .cons h ih
theorem set {as : List A} {bs : List B} (h : All2 R as bs) (i : Nat) {a : A} {b : B} (hab : R a b) : All2 R (as.set i a) (bs.set i b) := by
  induction h generalizing i with
  | nil => simp; exact .nil
  | cons h t ih =>
    cases i with
    | zero => simpa using All2.cons hab t
    | succ i => simpa using All2.cons h (ih i)
theorem take {as : List A} {bs : List B} (h : All2 R as bs) (i : Nat) : All2 R (as.take i) (bs.take i) := by
  induction h generalizing i with
  | nil => simp; exact .nil
  | cons h _ ih =>
    cases i with
    | zero => simp; exact .nil
    | succ i => simpa using All2.cons h (ih i)
theorem drop {as : List A} {bs : List B} (h : All2 R as bs) (i : Nat) : All2 R (as.drop i) (bs.drop i) := by
  induction h generalizing i with
  | nil => simp; exact .nil
  | cons h t ih =>
    cases i with
    | zero => simpa using All2.cons h t
    | succ i => simpa using ih i
theorem map_left {C : Type} {f : C → A} {cs : List C} {bs : List B} (h : All2 (fun c b => R (f c) b) cs bs) : All2 R (cs.map f) bs := by
  induction h with
  | nil => exact .nil
  | cons h _ ih => exact .cons h ih
theorem of_map_left {C : Type} {f : C → A} {cs : List C} {bs : List B} (h : All2 R (cs.map f) bs) : All2 (fun c b => R (f c) b) cs bs := by
  induction cs generalizing bs with
  | nil => cases h; exact .nil
  | cons c cs ih => cases h with | cons h t => exact .cons h (ih t)
theorem of_get {as : List A} {bs : List B} (hl : as.length = bs.length) (h : ∀ (i : Nat) (a : A) (b : B), as[i]? = some a → bs[i]? = some b → R a b) : All2 R as bs := by
  induction as generalizing bs with
  | nil => cases bs with | nil => exact .nil | cons _ _ => simp at hl
  | cons a as ih =>
    cases bs with
    | nil => simp at hl
    | cons b bs => exact .cons (h 0 a b (by simp) (by simp)) (ih (by simpa using hl) fun i a' b' ha hb => h (i + 1) a' b' (by simpa using ha) (by simpa using hb))
end All2

/-! ### What stands for a value: it reads blocks of F alone -/
inductive Rep (Θ : Tab) (W : World) (F : Nat → Prop) : Value → PV Θ.T → Prop where
  | int (k : IntKind) (n : Int) : Rep Θ W F (.int k n) (.int k n)
  | bool (b : Bool) : Rep Θ W F (.bool b) (.bool b)
  | str (s : ByteArray) : Rep Θ W F (.string s) (.str s)
  | sl (e : TypeId) (l : List (Θ.T e)) (A : Option Addr) (n cap : Nat) (us : Nat → Nat → Value) (hn : l.length = n) (hc : n ≤ cap) (hz : A = none → cap = 0)
      (hA : l ≠ [] → ∃ ad, A = some ad ∧ ad.spot = none ∧ (0 < Θ.sz e → F ad.block) ∧ ∀ i j, i < l.length → j < Θ.sz e → W.cell? (ad.add (i * Θ.sz e + j)) = some (us i j))
      (hr : ∀ i j y x, l[i]? = some y → (Θ.enc e y)[j]? = some x → Rep Θ W F (us i j) x) : Rep Θ W F (.slice A n cap) (.sl e l)
theorem Addr.add_block (ad : Addr) (n : Nat) : (ad.add n).block = ad.block := by unfold Addr.add; split <;> rfl
theorem Rep.mono {Θ : Tab} {W W' : World} {F F' : Nat → Prop} {v : Value} {x : PV Θ.T} (h : Rep Θ W F v x) (hf : ∀ b, F b → F' b)
    (hw : ∀ b, F b → W'.heap[b]? = W.heap[b]?) : Rep Θ W' F' v x := by
  induction h with
  | int k n => exact .int k n
  | bool b => exact .bool b
  | str s => exact .str s
  | sl e l A n cap us hn hcap hz hA _ ih =>
    refine .sl e l A n cap us hn hcap hz (fun hne => ?_) (fun i j y x hy hx => ih i j y x hy hx)
    obtain ⟨ad, e1, e2, e3, e4⟩ := hA hne
    exact ⟨ad, e1, e2, fun h => hf _ (e3 h), fun i j hi hj => (World.cell?_of_block (by rw [Addr.add_block]; exact hw _ (e3 (by omega)))).trans (e4 i j hi hj)⟩
theorem Rep.nil (Θ : Tab) (W : World) (F : Nat → Prop) (e : TypeId) : Rep Θ W F (.slice none 0 0) (.sl e []) :=
  .sl e [] none 0 0 (fun _ _ => default) rfl (Nat.le_refl _) (fun _ => rfl) (fun h => absurd rfl h) (fun i j y x hy => by simp at hy)
theorem Rep.e0 (Θ : Tab) (W : World) (F : Nat → Prop) (e : TypeId) (A : Option Addr) : Rep Θ W F (.slice A 0 0) (.sl e []) :=
  .sl e [] A 0 0 (fun _ _ => default) rfl (Nat.le_refl _) (fun _ => rfl) (fun h => absurd rfl h) (fun i j y x hy => by simp at hy)
theorem Rep.one {Θ : Tab} {W : World} {F : Nat → Prop} {v : Value} {x : PV Θ.T} (h : Rep Θ W F v x) : v.oneCell' = true := by cases h <;> rfl
theorem Rep.cells {Θ : Tab} {W : World} {F : Nat → Prop} {v : Value} {x : PV Θ.T} (h : Rep Θ W F v x) : v.cells = #[v] := by cases h <;> rfl

end Go.Den
