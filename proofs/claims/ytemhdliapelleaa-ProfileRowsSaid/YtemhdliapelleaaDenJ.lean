/- Contracts; one step, one region. -/
import Derived.Test.YtemhdliapelleaaDenX
import Derived.RangeFuncIn
namespace Go.Den
open Go Go.RowKit

def KV.av {T : TypeId → Type} : KV T → AV T
  | .c x => .c x
  | .agg cs => .agg cs
  | .cel xs => .cel xs
def sumAV {T : TypeId → Type} : CV T ⊕ List (CV T) → AV T
  | .inl c => .c c
  | .inr cs => .agg cs
/-- A function's contract: what it is handed; its ways out; what it computes. -/
structure Spec (T : TypeId → Type) : Type where
  hin : Shape
  outs : List (Ex × Shape)
  F : hin.X T → Option (Outs T outs)
/-- What holds where a call has ended. -/
def Post (Θ : Tab) (E : Env) (outs : List (Ex × Shape)) (z : Outs Θ.T outs) (e : Ending) (w' : World) : Prop :=
  outTo outs (fun ex _ t => ex = .ret ∧ ∃ us bx rw_, e = .returned (tupleOf us) ∧ Sim Θ E t us.toArray w' bx rw_) z
structure PCalls (P : Program) (Θ : Tab) (g : FuncId) (sp : Spec Θ.T) : Prop where
  enters : Go.Proofs.Enters P g
  lent : sp.hin.lentOk = true
  calls : ∀ x z, sp.F x = some z → ∀ (E : Env) (vs : List Value) (bx : Nat → Nat → Nat) (rw_ : Nat → Nat → Value), E.D = [] → Sim Θ E (sp.hin.st x) vs.toArray E.w0 bx rw_ → Calls P g vs.toArray E.w0 (Post Θ E sp.outs z)
/-- The contract of a loop's body, in a range over a function. -/
structure PYields (P : Program) (Θ : Tab) (y : Nat) (sp : Spec Θ.T) : Prop where
  lent : sp.hin.lentOk = true
  arity : ∀ R, Θ.Y y = some R → R.ps.size + R.live.length = sp.hin.slots.length
  rounds : ∀ x z, sp.F x = some z → ∀ (E : Env) (lb m : Nat) (R : Rng) (rec : Loop) (args : List Value) (bx : Nat → Nat → Nat) (rw_ : Nat → Nat → Value), E.D = [] → RRec Θ E.w0 lb y R rec → ¬ E.Z lb →
    Sim Θ E (sp.hin.st x) (args ++ R.live.map fun i => rec.tmps.getD i undef).toArray E.w0 bx rw_ →
    RoundIn Fence.wide m P lb rec.fn ((R.ps.zip args.toArray).foldl (fun t p => t.setIfInBounds p.1 p.2) rec.tmps) R.assign R.body E.w0 (Post Θ E sp.outs z)
/-- A contract that says a relation: what may be handed back. -/
structure NSpec (T : TypeId → Type) : Type where
  hin : Shape
  outs : List (Ex × Shape)
  R : hin.X T → Outs T outs → Prop
/-- The same, where one thing is handed back. -/
def NSpec.one {T : TypeId → Type} (ns : NSpec T) (z : Outs T ns.outs) : Spec T := ⟨ns.hin, ns.outs, fun _ => some z⟩
def NSpec.none_ {T : TypeId → Type} (ns : NSpec T) : Spec T := ⟨ns.hin, ns.outs, fun _ => none⟩
structure PAmb (P : Program) (Θ : Tab) (g : FuncId) (ns : NSpec Θ.T) : Prop where
  enters : Go.Proofs.Enters P g
  lent : ns.hin.lentOk = true
  calls : ∀ x, ∀ (E : Env) (vs : List Value) (bx : Nat → Nat → Nat) (rw_ : Nat → Nat → Value), E.D = [] → Sim Θ E (ns.hin.st x) vs.toArray E.w0 bx rw_ → Calls P g vs.toArray E.w0 fun e w' => ∃ z, ns.R x z ∧ Post Θ E ns.outs z e w'
/-- All that 'den' knows beside the code: the program, the tables of types, the struct types compared cell by cell, the contracts of functions. -/
structure Cx where
  P : Program
  Θ : Tab
  eqs : List TypeId
  Γ : List (Nat × Spec Θ.T)
  Δ : List (Nat × Spec Θ.T)
  N : List (Nat × NSpec Θ.T)
structure Cx.Ok (C : Cx) : Prop where
  mixed : C.P.follows .mixedOrders = true
  eqs : ∀ t ∈ C.eqs, EqT C.P t
  Γ : ∀ p ∈ C.Γ, PCalls C.P C.Θ p.1 p.2
  Δ : ∀ p ∈ C.Δ, PYields C.P C.Θ p.1 p.2
  N : ∀ p ∈ C.N, PAmb C.P C.Θ p.1 p.2

def isMem : Op → Bool
  | .alloc _ => true
  | .box _ _ => true
  | .makeSlice _ _ _ => true
  | .buildSlice _ _ _ => true
  | .store _ _ _ => true
  | .call c => match c.callee with
    | .builtin .append => true
    | _ => false
  | _ => false
section
variable (C : Cx)
def plain1 (s : St C.Θ.T) (o : Oper) : Option (Bool × St C.Θ.T) := if isMem o.op then opA C.P C.Θ s o else match opV C.P C.Θ C.eqs s o.op with
  | some (c, v) => some (c, s.put o.dst v)
  | none => none
/-- The function that is called; what goes ahead of its arguments, and behind them. -/
def calleeOf (s : St C.Θ.T) (f : Operand) : Option (Nat × List (AV C.Θ.T) × List (AV C.Θ.T)) := match s.ev f with
  | .c (.fn g caps) => some (g, [], caps.map fun kg => .c (.box kg.1 kg.2 0))
  | .mth g l => some (g, l.map sumAV, [])
  | _ => none
/-- The first contract of a function that fits what it is handed. -/
structure Hit (T : TypeId → Type) : Type where
  sp : Spec T
  y : Ext T sp.hin
def flatOuts (fe : TypeId → Bool) (es : List (Ex × Shape)) : Bool := es.all fun o => (AT.hss o.2.slots).all Leaf.flat && ((boxHs o.2.boxes).all Leaf.flat && o.2.rows.all fun r => fe r.2)
def rowsIn {T : TypeId → Type} : List (CV T) → List Nat
  | [] => []
  | .row r _ :: l => r :: rowsIn l
  | _ :: l => rowsIn l
/-- Cells as plain values of their kinds. -/
def leafs {T : TypeId → Type} (s : St T) : List Leaf → List (CV T) → Option (List (PV T))
  | [], _ => some []
  | l :: ls, cs => match cs with
    | [] => none
    | c :: r => match s.get l c with
      | some x => match leafs s ls r with
        | some xs => some (l.mk x :: xs)
        | none => none
      | none => none
def celA {T : TypeId → Type} (rd : St T → AV T → Option (List (CV T))) (s : St T) (ls : List Leaf) (v : AV T) : AV T := match rd s v with
  | some cs => match leafs s ls cs with
    | some xs => .cel xs
    | none => v
  | none => v
/-- An argument as a callee that only reads takes it: rows stand still; a pointer shows what lies there. -/
def lendA {T : TypeId → Type} (rd : St T → AV T → Option (List (CV T))) (s : St T) (ks : List Nat) : AT → AV T → AV T
  | .cel ls, v => match v with
    | .cel xs => .cel (xs.take ls.length)
    | v => celA rd s ls v
  | _, v => frA s ks v
def lendAs {T : TypeId → Type} (rd : St T → AV T → Option (List (CV T))) (s : St T) (ks : List Nat) : List AT → List (AV T) → List (AV T)
  | [], vs => vs
  | t :: ts, vs => match vs with
    | [] => []
    | v :: r => lendA rd s ks t v :: lendAs rd s ks ts r
def refKs {T : TypeId → Type} : List (AV T) → List Nat
  | [] => []
  | v :: r => v.mR.map (·.1) ++ refKs r
/-- What a contract's function is handed. -/
def entryOf {T : TypeId → Type} (fe : TypeId → Bool) (rd : St T → AV T → Option (List (CV T))) (sp : Spec T) (s : St T) (avs : List (AV T)) : Option (Ext T sp.hin) :=
  if sp.hin.cel then (if plainIn sp.hin && flatOuts fe sp.outs then sp.hin.extB ⟨lendAs rd s (refKs avs) sp.hin.slots avs, [], []⟩ else none) else sp.hin.extB ⟨avs, s.boxes, s.rows⟩
def findSpec {T : TypeId → Type} (fe : TypeId → Bool) (rd : St T → AV T → Option (List (CV T))) : List (Nat × Spec T) → Nat → St T → List (AV T) → Option (Hit T)
  | [], _, _, _ => none
  | p :: r, g, s, avs => if p.1 = g then (match entryOf fe rd p.2 s avs with
    | some y => some ⟨p.2, y⟩
    | none => findSpec fe rd r g s avs) else findSpec fe rd r g s avs
/-- A call made ready: the caller's state (rows that are read by who may hand them back are given up), the contract, what it is handed. -/
structure Ready (T : TypeId → Type) : Type where
  s : St T
  sp : Spec T
  avs : List (AV T)
  y : Ext T sp.hin
def ready {T : TypeId → Type} (fe : TypeId → Bool) (rd : St T → AV T → Option (List (CV T))) (Γ : List (Nat × Spec T)) (s : St T) (g : Nat) (avs : List (AV T)) : Option (Ready T) := match findSpec fe rd Γ g s avs with
  | some h => if (flatOuts fe h.sp.outs || h.y.hs.all notRow) then some ⟨s, h.sp, avs, h.y⟩
    else match h.sp.hin.extB ⟨avs.map (frA s (rowsIn h.y.hs)), (s.freeze (rowsIn h.y.hs)).boxes, (s.freeze (rowsIn h.y.hs)).rows⟩ with
      | some y => if y.hs.all notRow then some ⟨s.freeze (rowsIn h.y.hs), h.sp, avs.map (frA s (rowsIn h.y.hs)), y⟩ else none
      | none => none
  | none => none
def callK {T : TypeId → Type} {R : Type} (fe : TypeId → Bool) (r : Ready T) (dst : Option Nat) (K : St T → Option R) : Option R := (r.sp.F r.y.x).bind fun z => outTo r.sp.outs (fun ex _ t => match ex with
  | .ret => match after fe r.s r.sp.hin r.y t (flatOuts fe r.sp.outs) dst with
    | some s' => K s'
    | none => none
  | _ => none) z
/-- One operation, with what follows: kn: of which slots the bool is known. -/
def stepC {R : Type} (kn : List (Nat × Bool)) (s : St C.Θ.T) (o : Oper) (K : St C.Θ.T → Option R) : Option R := match o.op with
  | .pick c x y => match (match c with
      | .tmp t => look kn t
      | _ => none) with
    | some b => if b then K (s.put o.dst (s.ev x)) else K (s.put o.dst (s.ev y))
    | none => match s.ev c with
      | .c (.v (.bool b)) => cond b (K (s.put o.dst (s.ev x))) (K (s.put o.dst (s.ev y)))
      | _ => none
  | .call c => match c.callee with
    | .value f => match s.ev f with
      | .yld y l => match ready (flatE C.Θ) (St.cellsAt C.Θ) C.Δ s y (c.args.toList.map s.ev ++ l.map KV.av) with
        | some r => callK (flatE C.Θ) r o.dst K
        | none => none
      | _ => match calleeOf C s f with
      | some q => match ready (flatE C.Θ) (St.cellsAt C.Θ) C.Γ s q.1 (q.2.1 ++ c.args.toList.map s.ev ++ q.2.2) with
        | some r => callK (flatE C.Θ) r o.dst K
        | none => none
      | none => none
    | _ => match plain1 C s o with
      | some (c, s') => cond c (K s') none
      | none => none
  | _ => match plain1 C s o with
    | some (c, s') => cond c (K s') none
    | none => none
def stepD (s : St C.Θ.T) (o : Oper) : Option (St C.Θ.T) := stepC C [] s o some
def forget (kn : List (Nat × Bool)) (d : Option Nat) : List (Nat × Bool) := match d with
  | none => kn
  | some d => drop1 kn d
/-- The operations of a region, in the text's order. -/
def opsC {R : Type} (ops : Array Oper) : List Oper → List (Nat × Bool) → St C.Θ.T → (St C.Θ.T → Option R) → Option R
  | [], _, s, K => K s
  | o :: rest, kn, s, K => match o.guard with
    | none => stepC C kn s o fun s' => opsC ops rest (forget kn o.dst) s' K
    | some (j, want) => match (ops[j]?).bind (·.dst) with
      | none => none
      | some d => match look kn d with
        | some b => if b = want then stepC C kn s o fun s' => opsC ops rest (forget kn o.dst) s' K else opsC ops rest (forget kn o.dst) (s.put o.dst .skip) K
        | none => match s.at_ d with
          | .c (.v (.bool b)) => cond b
            (if want then stepC C ((d, true) :: kn) s o fun s' => opsC ops rest (forget ((d, true) :: kn) o.dst) s' K else opsC ops rest (forget ((d, true) :: kn) o.dst) (s.put o.dst .skip) K)
            (if want then opsC ops rest (forget ((d, false) :: kn) o.dst) (s.put o.dst .skip) K else stepC C ((d, false) :: kn) s o fun s' => opsC ops rest (forget ((d, false) :: kn) o.dst) s' K)
          | .skip => opsC ops rest (forget kn o.dst) (s.put o.dst .skip) K
          | _ => none
/-- The same, without what follows. -/
def guardD (ops : Array Oper) (s : St C.Θ.T) (o : Oper) : Option (St C.Θ.T) := match o.guard with
  | none => stepD C s o
  | some (j, want) => match (ops[j]?).bind (·.dst) with
    | none => none
    | some d => match s.at_ d with
      | .c (.v (.bool b)) => if b = want then stepD C s o else some (s.put o.dst .skip)
      | .skip => some (s.put o.dst .skip)
      | _ => none
def opsD (ops : Array Oper) : List Oper → St C.Θ.T → Option (St C.Θ.T)
  | [], s => some s
  | o :: rest, s => match guardD C ops s o with
    | some s' => opsD ops rest s'
    | none => none
end

/-- What is known of slots is so. -/
def Known {T : TypeId → Type} (kn : List (Nat × Bool)) (s : St T) : Prop := ∀ d b, look kn d = some b → s.at_ d = .c (.v (.bool b))
section
variable {C : Cx} {R : Type}
theorem look_drop1 {B : Type} (l : List (Nat × B)) (k j : Nat) : look (drop1 l k) j = if k = j then none else look l j := by
  induction l with
  | nil => simp [drop1, look]
  | cons x l ih =>
    obtain ⟨i, c⟩ := x
    simp only [drop1]
    by_cases h : i = k
    · subst h
      rw [if_pos rfl, ih]
      by_cases hj : i = j
      · simp [hj]
      · simp [hj, look]
    · rw [if_neg h]
      simp only [look, ih]
      by_cases hij : i = j
      · subst hij
        have : ¬ k = i := fun e => h e.symm
        simp [this]
      · simp [hij]
theorem at_put_ne {T : TypeId → Type} (s : St T) (d : Nat) (v : AV T) (i : Nat) (h : d ≠ i) : (s.put (some d) v).at_ i = s.at_ i := by
  simp only [St.put, St.at_, List.getD_eq_getElem?_getD, List.getElem?_set_ne h]
theorem bind_cond {A B : Type} (c : Bool) (x y : Option A) (K : A → Option B) : (cond c x y).bind K = cond c (x.bind K) (y.bind K) := by cases c <;> rfl
theorem plain_bind {r : Option (Bool × St C.Θ.T)} (K : St C.Θ.T → Option R) :
    (match r with
      | some (c, s') => cond c (K s') none
      | none => none) = (match r with
      | some (c, s') => cond c (some s') none
      | none => none : Option (St C.Θ.T)).bind K := by
  cases r with
  | none => rfl
  | some q => obtain ⟨c, s'⟩ := q; cases c <;> rfl
theorem outTo_bind {T : TypeId → Type} {A B : Type} (k : A → Option B) : ∀ (es : List (Ex × Shape)) (f : Ex → Shape → St T → Option A) (g : Ex → Shape → St T → Option B) (z : Outs T es), (∀ e h t, g e h t = (f e h t).bind k) → outTo es g z = (outTo es f z).bind k := by
  intro es
  induction es with
  | nil => intro f g z _; cases z
  | cons a es ih =>
    intro f g z h
    cases es with
    | nil => exact h _ _ _
    | cons b es =>
      simp only [outTo]
      cases z with
      | inl z => exact h _ _ _
      | inr z => exact ih f g z h
theorem callK_eq {T : TypeId → Type} {R : Type} (fe : TypeId → Bool) (r : Ready T) (dst : Option Nat) (K : St T → Option R) : callK fe r dst K = (callK fe r dst some).bind K := by
  unfold callK
  rw [Option.bind_assoc]
  congr 1
  funext z
  refine outTo_bind K _ _ _ z fun e h t => ?_
  cases e with
  | ret =>
    simp only
    cases after fe r.s r.sp.hin r.y t (flatOuts fe r.sp.outs) dst <;> rfl
  | normal => rfl
  | exit i => rfl
theorem outTo_some {T : TypeId → Type} {A : Type} : ∀ (es : List (Ex × Shape)) (f : Ex → Shape → St T → A) (z : Outs T es), ∃ a ∈ es, ∃ x, outTo es f z = f a.1 a.2 (a.2.st x) ∧ ∀ {B : Type} (g : Ex → Shape → St T → B), outTo es g z = g a.1 a.2 (a.2.st x) := by
  intro es
  induction es with
  | nil => intro f z; cases z
  | cons a es ih =>
    intro f z
    cases es with
    | nil => exact ⟨a, by simp, z, rfl, fun g => rfl⟩
    | cons b es =>
      cases z with
      | inl z => exact ⟨a, by simp, z, rfl, fun g => rfl⟩
      | inr z =>
        obtain ⟨c, hc, x, h1, h2⟩ := ih f z
        exact ⟨c, by simp [hc], x, h1, h2⟩
theorem callK_some {T : TypeId → Type} {fe : TypeId → Bool} {r : Ready T} {dst : Option Nat} {s' : St T} (h : callK fe r dst some = some s') : ∃ z a x, r.sp.F r.y.x = some z ∧ a ∈ r.sp.outs ∧ a.1 = .ret ∧ after fe r.s r.sp.hin r.y (a.2.st x) (flatOuts fe r.sp.outs) dst = some s' ∧ ∀ {B : Type} (g : Ex → Shape → St T → B), outTo r.sp.outs g z = g a.1 a.2 (a.2.st x) := by
  unfold callK at h
  cases hF : r.sp.F r.y.x with
  | none => simp [hF] at h
  | some z =>
    simp only [hF, Option.bind_some] at h
    obtain ⟨a, ha, x, h1, h2⟩ := outTo_some r.sp.outs (fun ex _ t => match ex with
      | .ret => match after fe r.s r.sp.hin r.y t (flatOuts fe r.sp.outs) dst with
        | some s' => some s'
        | none => none
      | _ => none) z
    rw [h1] at h
    split at h <;> try (cases h; done)
    rename_i e
    split at h <;> try (cases h; done)
    rename_i s'' hs
    cases h
    exact ⟨z, a, x, rfl, ha, e, hs, h2⟩
theorem after_slots {T : TypeId → Type} {fe : TypeId → Bool} {s s' : St T} {hin : Shape} {y : Ext T hin} {t : St T} {flat : Bool} {dst : Option Nat} (h : after fe s hin y t flat dst = some s') (i : Nat) (hi : dst ≠ some i) : s'.at_ i = s.at_ i := by
  unfold after at h
  split at h <;> try (cases h; done)
  split at h <;> try (cases h; done)
  split at h <;> try (cases h; done)
  split at h <;> try (cases h; done)
  split at h <;> try (cases h; done)
  split at h <;> try (cases h; done)
  split at h <;> try (cases h; done)
  cases h
  cases dst with
  | none => rfl
  | some d => exact at_put_ne _ d _ i (fun e => hi (by rw [e]))
theorem frA_bool {T : TypeId → Type} (s : St T) (ks : List Nat) (v : AV T) (b : Bool) (h : v = .c (.v (.bool b))) : frA s ks v = .c (.v (.bool b)) := by subst h; rfl
theorem freeze_bool {T : TypeId → Type} {s : St T} {ks : List Nat} {i : Nat} {b : Bool} (h : s.at_ i = .c (.v (.bool b))) : (s.freeze ks).at_ i = .c (.v (.bool b)) := by
  simp only [St.at_, List.getD_eq_getElem?_getD] at h ⊢
  simp only [St.freeze, List.getElem?_map]
  cases hq : s.slots[i]? with
  | none => simp [hq] at h
  | some v => simp [hq] at h; subst h; rfl
theorem freeze_skip {T : TypeId → Type} {s : St T} {ks : List Nat} {i : Nat} (h : s.at_ i = .skip) : (s.freeze ks).at_ i = .skip := by
  simp only [St.at_, List.getD_eq_getElem?_getD] at h ⊢
  simp only [St.freeze, List.getElem?_map]
  cases hq : s.slots[i]? with
  | none => simp [hq] at h
  | some v => simp [hq] at h; subst h; rfl
theorem ready_s {T : TypeId → Type} {fe : TypeId → Bool} {rd : St T → AV T → Option (List (CV T))} {Γ : List (Nat × Spec T)} {s : St T} {g : Nat} {avs : List (AV T)} {r : Ready T} (h : ready fe rd Γ s g avs = some r) : r.s = s ∨ ∃ ks, r.s = s.freeze ks := by
  unfold ready at h
  split at h <;> try (cases h; done)
  split at h
  · cases h; exact .inl rfl
  · split at h <;> try (cases h; done)
    split at h <;> try (cases h; done)
    cases h
    exact .inr ⟨_, rfl⟩
theorem stepC_eq {kn : List (Nat × Bool)} {s : St C.Θ.T} (hk : Known kn s) (o : Oper) (K : St C.Θ.T → Option R) : stepC C kn s o K = (stepD C s o).bind K := by
  unfold stepD stepC
  split
  · rename_i c x y _
    have main : ∀ (v : AV C.Θ.T), (match v with
      | .c (.v (.bool b)) => cond b (K (s.put o.dst (s.ev x))) (K (s.put o.dst (s.ev y)))
      | _ => none : Option R) = (match v with
      | .c (.v (.bool b)) => cond b (some (s.put o.dst (s.ev x))) (some (s.put o.dst (s.ev y)))
      | _ => none : Option (St C.Θ.T)).bind K := by
      intro v
      split
      · rename_i b; cases b <;> rfl
      · rfl
    cases c with
    | tmp t =>
      cases hb : look kn t with
      | none => simp only [hb]; exact main _
      | some b =>
        have := hk t b hb
        simp only [hb, look, St.ev, this]
        cases b <;> rfl
    | const v => exact main (s.ev (.const v))
    | func f => exact main (s.ev (.func f))
    | global g => exact main (s.ev (.global g))
  · rename_i c
    split
    · split
      · split
        · exact callK_eq _ _ _ K
        · rfl
      · split
        · split
          · exact callK_eq _ _ _ K
          · rfl
        · rfl
    · exact plain_bind K
  · exact plain_bind K
theorem newBox_slots {s s' : St C.Θ.T} {d t : Nat} {cs : List (CV C.Θ.T)} (h : s.newBox d t cs = some s') (i : Nat) (hi : d ≠ i) : s'.at_ i = s.at_ i := by
  unfold St.newBox at h
  split at h <;> try (cases h; done)
  cases h
  simp only [St.at_, List.getD_eq_getElem?_getD, List.getElem?_set_ne hi]
theorem newRow_slots {s s' : St C.Θ.T} {d r e : Nat} {l : List (C.Θ.T e)} (h : s.newRow C.Θ d r e l = some s') (i : Nat) (hi : d ≠ i) : s'.at_ i = s.at_ i := by
  unfold St.newRow at h
  split at h <;> try (cases h; done)
  cases h
  simp only [St.at_, List.getD_eq_getElem?_getD, List.getElem?_set_ne hi]
theorem map_pair {A : Type} {x : Option A} {f : A → Bool × A} {c : Bool} {y : A} (h : x.map f = some (c, y)) (hf : ∀ a, (f a).2 = a) : x = some y := by
  cases x with
  | none => cases h
  | some a => simp at h; have := hf a; rw [h] at this; simp at this; rw [this]
theorem opA_slots {s s' : St C.Θ.T} {o : Oper} {c : Bool} (h : opA C.P C.Θ s o = some (c, s')) (i : Nat) (hi : o.dst ≠ some i) : s'.at_ i = s.at_ i := by
  unfold opA at h
  split at h
  · rename_i d hd
    have hdi : d ≠ i := fun e => hi (by rw [hd, e])
    split at h <;> try (cases h; done)
    · unfold aAlloc at h
      split at h <;> try (cases h; done)
      exact newBox_slots (map_pair h fun _ => rfl) i hdi
    · unfold aBox at h
      split at h <;> try (cases h; done)
      split at h <;> try (cases h; done)
      exact newBox_slots (map_pair h fun _ => rfl) i hdi
    · unfold aMake at h
      split at h <;> try (cases h; done)
      split at h <;> try (cases h; done)
      split at h <;> try (cases h; done)
      split at h <;> try (cases h; done)
      split at h <;> try (cases h; done)
      exact newRow_slots (map_pair h fun _ => rfl) i hdi
    · unfold aLit at h
      split at h <;> try (cases h; done)
      split at h <;> try (cases h; done)
      split at h <;> try (cases h; done)
      split at h <;> try (cases h; done)
      cases h
      exact at_put_ne s d _ i hdi
    · split at h <;> try (cases h; done)
      split at h <;> try (cases h; done)
      unfold aAppend at h
      split at h <;> try (cases h; done)
      split at h <;> try (cases h; done)
      split at h <;> try (cases h; done)
      split at h <;> try (cases h; done)
      split at h <;> try (cases h; done)
      · exact newRow_slots (map_pair h fun _ => rfl) i hdi
      · exact newRow_slots (map_pair h fun _ => rfl) i hdi
      · split at h <;> try (cases h; done)
        split at h <;> try (cases h; done)
        exact newRow_slots (map_pair h fun _ => rfl) i hdi
  · split at h <;> try (cases h; done)
    unfold aStore at h
    split at h <;> try (cases h; done)
    split at h <;> try (cases h; done)
    split at h <;> try (cases h; done)
    · have := map_pair h fun _ => rfl
      unfold St.writeBox at this
      split at this <;> try (cases this; done)
      split at this <;> try (cases this; done)
      cases this
      rfl
    · have := map_pair h fun _ => rfl
      unfold St.writeRow at this
      split at this <;> try (cases this; done)
      split at this <;> try (cases this; done)
      split at this <;> try (cases this; done)
      cases this
      rfl
theorem put_slots {s : St C.Θ.T} (d : Option Nat) (v : AV C.Θ.T) (i : Nat) (hi : d ≠ some i) : (s.put d v).at_ i = s.at_ i := by
  cases d with
  | none => rfl
  | some d => exact at_put_ne s d v i (fun e => hi (by rw [e]))
theorem plain1_slots {s s' : St C.Θ.T} {o : Oper} {c : Bool} (h : plain1 C s o = some (c, s')) (i : Nat) (hi : o.dst ≠ some i) : s'.at_ i = s.at_ i := by
  unfold plain1 at h
  split at h
  · exact opA_slots h i hi
  · split at h <;> try (cases h; done)
    cases h
    exact put_slots _ _ i hi
theorem stepD_slots' {s s' : St C.Θ.T} {o : Oper} (h : stepD C s o = some s') (i : Nat) (hi : o.dst ≠ some i) : s'.at_ i = s.at_ i ∨ ∃ ks, s'.at_ i = (s.freeze ks).at_ i := by
  unfold stepD stepC at h
  have hp : ∀ {r : Option (Bool × St C.Θ.T)}, r = plain1 C s o → (match r with | some (c, s') => cond c (some s') none | none => none : Option (St C.Θ.T)) = some s' → s'.at_ i = s.at_ i ∨ ∃ ks, s'.at_ i = (s.freeze ks).at_ i := by
    intro r hr h
    cases r with
    | none => cases h
    | some q =>
      obtain ⟨c, s1⟩ := q
      cases c with
      | false => cases h
      | true => cases h; exact .inl (plain1_slots hr.symm i hi)
  split at h
  · rename_i c x y _
    have hnil : (match c with | .tmp t => look ([] : List (Nat × Bool)) t | _ => none) = none := by cases c <;> rfl
    simp only [hnil] at h
    split at h <;> try (cases h; done)
    rename_i b _
    cases b <;> (cases h; exact .inl (put_slots _ _ i hi))
  · have hc : ∀ {Γ : List (Nat × Spec C.Θ.T)} {g : Nat} {avs : List (AV C.Θ.T)} {r : Ready C.Θ.T}, ready (flatE C.Θ) (St.cellsAt C.Θ) Γ s g avs = some r → callK (flatE C.Θ) r o.dst some = some s' → s'.at_ i = s.at_ i ∨ ∃ ks, s'.at_ i = (s.freeze ks).at_ i := by
      intro Γ g avs r hr h
      obtain ⟨z, q, x, _, _, _, h1, _⟩ := callK_some h
      have := after_slots h1 i hi
      rcases ready_s hr with e | ⟨ks, e⟩
      · left; rw [this, e]
      · right; exact ⟨ks, by rw [this, e]⟩
    split at h
    · split at h
      · split at h <;> try (cases h; done)
        rename_i r hr
        exact hc hr h
      · split at h <;> try (cases h; done)
        split at h <;> try (cases h; done)
        rename_i r hr
        exact hc hr h
    · exact hp rfl h
  · exact hp rfl h
theorem stepD_slots {s s' : St C.Θ.T} {o : Oper} (h : stepD C s o = some s') (i : Nat) (b : Bool) (hi : o.dst ≠ some i) (hb : s.at_ i = .c (.v (.bool b))) : s'.at_ i = .c (.v (.bool b)) := by
  rw [← hb]
  refine (stepD_slots' h i hi).elim (fun h => h) (fun ⟨ks, h⟩ => ?_)
  rw [h, hb]; exact freeze_bool hb
theorem known_forget {kn : List (Nat × Bool)} {s s' : St C.Θ.T} (hk : Known kn s) (d : Option Nat) (h : ∀ i b, d ≠ some i → s.at_ i = .c (.v (.bool b)) → s'.at_ i = .c (.v (.bool b))) : Known (forget kn d) s' := by
  intro i b hb
  cases d with
  | none => exact h i b (by simp) (hk i b hb)
  | some d =>
    simp only [forget, look_drop1] at hb
    split at hb
    · cases hb
    · rename_i hd; exact h i b (by simpa using hd) (hk i b hb)
theorem known_cons {kn : List (Nat × Bool)} {s : St C.Θ.T} {d : Nat} {b : Bool} (hk : Known kn s) (h : s.at_ d = .c (.v (.bool b))) : Known ((d, b) :: kn) s := by
  intro i c hc
  simp only [look] at hc
  split at hc
  · rename_i e; subst e; cases hc; exact h
  · exact hk i c hc
theorem opsC_eq (ops : Array Oper) : ∀ (l : List Oper) (kn : List (Nat × Bool)) (s : St C.Θ.T) (K : St C.Θ.T → Option R), Known kn s → opsC C ops l kn s K = (opsD C ops l s).bind K := by
  intro l
  induction l with
  | nil => intro kn s K _; rfl
  | cons o rest ih =>
    intro kn s K hk
    have run : ∀ kn, Known kn s → (stepC C kn s o fun s' => opsC C ops rest (forget kn o.dst) s' K) = (stepD C s o).bind fun s' => (opsD C ops rest s').bind K := by
      intro kn hk
      rw [stepC_eq hk]
      cases hs : stepD C s o with
      | none => rfl
      | some s' => exact ih _ s' K (known_forget hk o.dst (stepD_slots hs))
    have skip : ∀ kn, Known kn s → opsC C ops rest (forget kn o.dst) (s.put o.dst .skip) K = (opsD C ops rest (s.put o.dst .skip)).bind K :=
      fun kn hk => ih _ _ K (known_forget hk o.dst (fun i b hi hb => by rw [put_slots o.dst _ i hi]; exact hb))
    have unf : (opsD C ops (o :: rest) s).bind K = (guardD C ops s o).bind fun s' => (opsD C ops rest s').bind K := by
      simp only [opsD]
      cases guardD C ops s o <;> rfl
    rw [unf]
    unfold guardD
    simp only [opsC]
    split
    · exact run kn hk
    · rename_i j want _
      split
      · rfl
      · rename_i d _
        split
        · rename_i b hb
          have := hk d b hb
          simp only [this]
          split
          · exact run kn hk
          · exact skip kn hk
        · split
          · rename_i b hb
            cases b with
            | true =>
              simp only [cond_true]
              cases want with
              | true => simpa using run _ (known_cons hk hb)
              | false => simpa using skip _ (known_cons hk hb)
            | false =>
              simp only [cond_false]
              cases want with
              | true => simpa using skip _ (known_cons hk hb)
              | false => simpa using run _ (known_cons hk hb)
          · exact skip kn hk
          · rfl
end
end Go.Den
