/- One step, one region. -/
import Derived.Test.YthkcpgiibmajhaaDenI
namespace Go.Den
open Go Go.RowKit

/-- All that 'den' knows beside the code: the program, the tables of types, the struct types compared cell by cell, the contracts of functions. -/
structure Cx where
  P : Program
  Θ : Tab
  eqs : List TypeId
  Γ : List (Nat × Spec Θ.T)
structure Cx.Ok (C : Cx) : Prop where
  mixed : C.P.follows .mixedOrders = true
  eqs : ∀ t ∈ C.eqs, EqT C.P t
  Γ : ∀ g sp, look C.Γ g = some sp → PCalls C.P C.Θ g sp

def isMem : Op → Bool
  | .alloc _ => true
  | .box _ _ => true
  | .makeSlice _ _ _ => true
  | .buildSlice _ _ _ => true
  | .store _ _ _ => true
  | .call c => match c.callee with
    | .builtin .append => true
    | _ => false
  | _ => false
section
variable (C : Cx)
def plain1 (s : St C.Θ.T) (o : Oper) : Option (Bool × St C.Θ.T) := if isMem o.op then opA C.P C.Θ s o else match opV C.P C.Θ C.eqs s o.op with
  | some (c, v) => some (c, s.put o.dst v)
  | none => none
/-- The function that is called: a plain one, or a bound method; and what goes ahead of its arguments. -/
def calleeOf (s : St C.Θ.T) (f : Operand) : Option (Nat × Spec C.Θ.T × List (AV C.Θ.T)) := match s.ev f with
  | .c (.fn g caps) => match caps with
    | [] => match look C.Γ g with
      | some sp => some (g, sp, [])
      | none => none
    | _ :: _ => none
  | .mth g l => match look C.Γ g with
    | some sp => some (g, sp, l.map sumAV)
    | none => none
  | _ => none
def afterCall (s : St C.Θ.T) (dst : Option Nat) (sp : Spec C.Θ.T) (avs : List (AV C.Θ.T)) (y : HT (PD.Ty C.Θ.T) sp.rds) : St C.Θ.T :=
  (s.lend (sp.rds.all PD.flat) avs).put dst (resAV sp.rds y)
/-- One operation, with what follows: kn: of which slots the bool is known. -/
def stepC {R : Type} (kn : List (Nat × Bool)) (s : St C.Θ.T) (o : Oper) (K : St C.Θ.T → Option R) : Option R := match o.op with
  | .pick c x y => match (match c with
      | .tmp t => look kn t
      | _ => none) with
    | some b => if b then K (s.put o.dst (s.ev x)) else K (s.put o.dst (s.ev y))
    | none => match s.ev c with
      | .c (.v (.bool b)) => cond b (K (s.put o.dst (s.ev x))) (K (s.put o.dst (s.ev y)))
      | _ => none
  | .call c => match c.callee with
    | .value f => match calleeOf C s f with
      | some (_, sp, l) => match HT.get s.pget sp.pds (l ++ c.args.toList.map s.ev) with
        | some x => (sp.F x).bind fun y => K (afterCall C s o.dst sp (l ++ c.args.toList.map s.ev) y)
        | none => none
      | none => none
    | _ => match plain1 C s o with
      | some (c, s') => cond c (K s') none
      | none => none
  | _ => match plain1 C s o with
    | some (c, s') => cond c (K s') none
    | none => none
def stepD (s : St C.Θ.T) (o : Oper) : Option (St C.Θ.T) := stepC C [] s o some
def forget (kn : List (Nat × Bool)) (d : Option Nat) : List (Nat × Bool) := match d with
  | none => kn
  | some d => drop1 kn d
/-- The operations of a region, in the text's order. -/
def opsC {R : Type} (ops : Array Oper) : List Oper → List (Nat × Bool) → St C.Θ.T → (St C.Θ.T → Option R) → Option R
  | [], _, s, K => K s
  | o :: rest, kn, s, K => match o.guard with
    | none => stepC C kn s o fun s' => opsC ops rest (forget kn o.dst) s' K
    | some (j, want) => match (ops[j]?).bind (·.dst) with
      | none => none
      | some d => match look kn d with
        | some b => if b = want then stepC C kn s o fun s' => opsC ops rest (forget kn o.dst) s' K else opsC ops rest (forget kn o.dst) (s.put o.dst .skip) K
        | none => match s.at_ d with
          | .c (.v (.bool b)) => cond b
            (if want then stepC C ((d, true) :: kn) s o fun s' => opsC ops rest (forget ((d, true) :: kn) o.dst) s' K else opsC ops rest (forget ((d, true) :: kn) o.dst) (s.put o.dst .skip) K)
            (if want then opsC ops rest (forget ((d, false) :: kn) o.dst) (s.put o.dst .skip) K else stepC C ((d, false) :: kn) s o fun s' => opsC ops rest (forget ((d, false) :: kn) o.dst) s' K)
          | .skip => opsC ops rest (forget kn o.dst) (s.put o.dst .skip) K
          | _ => none
/-- The same, without what follows. -/
def guardD (ops : Array Oper) (s : St C.Θ.T) (o : Oper) : Option (St C.Θ.T) := match o.guard with
  | none => stepD C s o
  | some (j, want) => match (ops[j]?).bind (·.dst) with
    | none => none
    | some d => match s.at_ d with
      | .c (.v (.bool b)) => if b = want then stepD C s o else some (s.put o.dst .skip)
      | .skip => some (s.put o.dst .skip)
      | _ => none
def opsD (ops : Array Oper) : List Oper → St C.Θ.T → Option (St C.Θ.T)
  | [], s => some s
  | o :: rest, s => match guardD C ops s o with
    | some s' => opsD ops rest s'
    | none => none
end

/-- What is known of slots is so. -/
def Known {T : TypeId → Type} (kn : List (Nat × Bool)) (s : St T) : Prop := ∀ d b, look kn d = some b → s.at_ d = .c (.v (.bool b))
section
variable {C : Cx} {R : Type}
theorem look_drop1 {B : Type} (l : List (Nat × B)) (k j : Nat) : look (drop1 l k) j = if k = j then none else look l j := by
  induction l with
  | nil => simp [drop1, look]
  | cons x l ih =>
    obtain ⟨i, c⟩ := x
    simp only [drop1]
    by_cases h : i = k
    · subst h
      rw [if_pos rfl, ih]
      by_cases hj : i = j
      · simp [hj]
      · simp [hj, look]
    · rw [if_neg h]
      simp only [look, ih]
      by_cases hij : i = j
      · subst hij
        have : ¬ k = i := fun e => h e.symm
        simp [this]
      · simp [hij]
theorem at_put_ne {T : TypeId → Type} (s : St T) (d : Nat) (v : AV T) (i : Nat) (h : d ≠ i) : (s.put (some d) v).at_ i = s.at_ i := by
  simp only [St.put, St.at_, List.getD_eq_getElem?_getD, List.getElem?_set_ne h]
theorem bind_cond {A B : Type} (c : Bool) (x y : Option A) (K : A → Option B) : (cond c x y).bind K = cond c (x.bind K) (y.bind K) := by cases c <;> rfl
theorem plain_bind {r : Option (Bool × St C.Θ.T)} (K : St C.Θ.T → Option R) :
    (match r with
      | some (c, s') => cond c (K s') none
      | none => none) = (match r with
      | some (c, s') => cond c (some s') none
      | none => none : Option (St C.Θ.T)).bind K := by
  cases r with
  | none => rfl
  | some q => obtain ⟨c, s'⟩ := q; cases c <;> rfl
theorem stepC_eq {kn : List (Nat × Bool)} {s : St C.Θ.T} (hk : Known kn s) (o : Oper) (K : St C.Θ.T → Option R) : stepC C kn s o K = (stepD C s o).bind K := by
  unfold stepD stepC
  split
  · rename_i c x y _
    have main : ∀ (v : AV C.Θ.T), (match v with
      | .c (.v (.bool b)) => cond b (K (s.put o.dst (s.ev x))) (K (s.put o.dst (s.ev y)))
      | _ => none : Option R) = (match v with
      | .c (.v (.bool b)) => cond b (some (s.put o.dst (s.ev x))) (some (s.put o.dst (s.ev y)))
      | _ => none : Option (St C.Θ.T)).bind K := by
      intro v
      split
      · rename_i b; cases b <;> rfl
      · rfl
    cases c with
    | tmp t =>
      cases hb : look kn t with
      | none => simp only [hb]; exact main _
      | some b =>
        have := hk t b hb
        simp only [hb, look, St.ev, this]
        cases b <;> rfl
    | const v => exact main (s.ev (.const v))
    | func f => exact main (s.ev (.func f))
    | global g => exact main (s.ev (.global g))
  · rename_i c
    split
    · split
      · split
        · rw [Option.bind_assoc]; rfl
        · rfl
      · rfl
    · exact plain_bind K
  · exact plain_bind K
theorem newBox_slots {s s' : St C.Θ.T} {d t : Nat} {cs : List (CV C.Θ.T)} (h : s.newBox d t cs = some s') (i : Nat) (hi : d ≠ i) : s'.at_ i = s.at_ i := by
  unfold St.newBox at h
  split at h <;> try (cases h; done)
  cases h
  simp only [St.at_, List.getD_eq_getElem?_getD, List.getElem?_set_ne hi]
theorem newRow_slots {s s' : St C.Θ.T} {d r e : Nat} {l : List (C.Θ.T e)} (h : s.newRow C.Θ d r e l = some s') (i : Nat) (hi : d ≠ i) : s'.at_ i = s.at_ i := by
  unfold St.newRow at h
  split at h <;> try (cases h; done)
  cases h
  simp only [St.at_, List.getD_eq_getElem?_getD, List.getElem?_set_ne hi]
theorem map_pair {A : Type} {x : Option A} {f : A → Bool × A} {c : Bool} {y : A} (h : x.map f = some (c, y)) (hf : ∀ a, (f a).2 = a) : x = some y := by
  cases x with
  | none => cases h
  | some a => simp at h; have := hf a; rw [h] at this; simp at this; rw [this]
theorem opA_slots {s s' : St C.Θ.T} {o : Oper} {c : Bool} (h : opA C.P C.Θ s o = some (c, s')) (i : Nat) (hi : o.dst ≠ some i) : s'.at_ i = s.at_ i := by
  unfold opA at h
  split at h
  · rename_i d hd
    have hdi : d ≠ i := fun e => hi (by rw [hd, e])
    split at h <;> try (cases h; done)
    · unfold aAlloc at h
      split at h <;> try (cases h; done)
      exact newBox_slots (map_pair h fun _ => rfl) i hdi
    · unfold aBox at h
      split at h <;> try (cases h; done)
      split at h <;> try (cases h; done)
      exact newBox_slots (map_pair h fun _ => rfl) i hdi
    · unfold aMake at h
      split at h <;> try (cases h; done)
      split at h <;> try (cases h; done)
      split at h <;> try (cases h; done)
      split at h <;> try (cases h; done)
      split at h <;> try (cases h; done)
      exact newRow_slots (map_pair h fun _ => rfl) i hdi
    · unfold aLit at h
      split at h <;> try (cases h; done)
      split at h <;> try (cases h; done)
      split at h <;> try (cases h; done)
      split at h <;> try (cases h; done)
      exact newRow_slots (map_pair h fun _ => rfl) i hdi
    · split at h <;> try (cases h; done)
      split at h <;> try (cases h; done)
      unfold aAppend at h
      split at h <;> try (cases h; done)
      split at h <;> try (cases h; done)
      split at h <;> try (cases h; done)
      split at h <;> try (cases h; done)
      split at h <;> try (cases h; done)
      · exact newRow_slots (map_pair h fun _ => rfl) i hdi
      · split at h <;> try (cases h; done)
        split at h <;> try (cases h; done)
        exact newRow_slots (map_pair h fun _ => rfl) i hdi
  · split at h <;> try (cases h; done)
    unfold aStore at h
    split at h <;> try (cases h; done)
    split at h <;> try (cases h; done)
    split at h <;> try (cases h; done)
    · have := map_pair h fun _ => rfl
      unfold St.writeBox at this
      split at this <;> try (cases this; done)
      split at this <;> try (cases this; done)
      cases this
      rfl
    · have := map_pair h fun _ => rfl
      unfold St.writeRow at this
      split at this <;> try (cases this; done)
      split at this <;> try (cases this; done)
      split at this <;> try (cases this; done)
      cases this
      rfl
theorem put_slots {s : St C.Θ.T} (d : Option Nat) (v : AV C.Θ.T) (i : Nat) (hi : d ≠ some i) : (s.put d v).at_ i = s.at_ i := by
  cases d with
  | none => rfl
  | some d => exact at_put_ne s d v i (fun e => hi (by rw [e]))
theorem plain1_slots {s s' : St C.Θ.T} {o : Oper} {c : Bool} (h : plain1 C s o = some (c, s')) (i : Nat) (hi : o.dst ≠ some i) : s'.at_ i = s.at_ i := by
  unfold plain1 at h
  split at h
  · exact opA_slots h i hi
  · split at h <;> try (cases h; done)
    cases h
    exact put_slots _ _ i hi
theorem lend_slots {s : St C.Θ.T} (f : Bool) (avs : List (AV C.Θ.T)) (i : Nat) : (s.lend f avs).at_ i = s.at_ i := by
  unfold St.lend; split <;> rfl
theorem stepD_slots {s s' : St C.Θ.T} {o : Oper} (h : stepD C s o = some s') (i : Nat) (hi : o.dst ≠ some i) : s'.at_ i = s.at_ i := by
  unfold stepD stepC at h
  have hp : ∀ {r : Option (Bool × St C.Θ.T)}, r = plain1 C s o → (match r with | some (c, s') => cond c (some s') none | none => none : Option (St C.Θ.T)) = some s' → s'.at_ i = s.at_ i := by
    intro r hr h
    cases r with
    | none => cases h
    | some q =>
      obtain ⟨c, s1⟩ := q
      cases c with
      | false => cases h
      | true => cases h; exact plain1_slots hr.symm i hi
  split at h
  · rename_i c x y _
    have hnil : (match c with | .tmp t => look ([] : List (Nat × Bool)) t | _ => none) = none := by cases c <;> rfl
    simp only [hnil] at h
    split at h <;> try (cases h; done)
    rename_i b _
    cases b <;> (cases h; exact put_slots _ _ i hi)
  · split at h
    · split at h <;> try (cases h; done)
      split at h <;> try (cases h; done)
      rename_i sp _ _ _ x _
      cases hF : sp.F x with
      | none => simp [hF] at h
      | some y =>
        simp [hF] at h
        subst h
        unfold afterCall
        rw [put_slots _ _ i hi, lend_slots]
    · exact hp rfl h
  · exact hp rfl h
theorem guardD_slots {ops : Array Oper} {s s' : St C.Θ.T} {o : Oper} (h : guardD C ops s o = some s') (i : Nat) (hi : o.dst ≠ some i) : s'.at_ i = s.at_ i := by
  unfold guardD at h
  split at h
  · exact stepD_slots h i hi
  · split at h <;> try (cases h; done)
    split at h <;> try (cases h; done)
    · split at h
      · exact stepD_slots h i hi
      · cases h; exact put_slots _ _ i hi
    · cases h; exact put_slots _ _ i hi
theorem known_forget {kn : List (Nat × Bool)} {s s' : St C.Θ.T} (hk : Known kn s) (d : Option Nat) (h : ∀ i, d ≠ some i → s'.at_ i = s.at_ i) : Known (forget kn d) s' := by
  intro i b hb
  cases d with
  | none => rw [h i (by simp)]; exact hk i b hb
  | some d =>
    simp only [forget, look_drop1] at hb
    split at hb
    · cases hb
    · rename_i hd; rw [h i (by simpa using hd)]; exact hk i b hb
theorem known_cons {kn : List (Nat × Bool)} {s : St C.Θ.T} {d : Nat} {b : Bool} (hk : Known kn s) (h : s.at_ d = .c (.v (.bool b))) : Known ((d, b) :: kn) s := by
  intro i c hc
  simp only [look] at hc
  split at hc
  · rename_i e; subst e; cases hc; exact h
  · exact hk i c hc
theorem opsC_eq (ops : Array Oper) : ∀ (l : List Oper) (kn : List (Nat × Bool)) (s : St C.Θ.T) (K : St C.Θ.T → Option R), Known kn s → opsC C ops l kn s K = (opsD C ops l s).bind K := by
  intro l
  induction l with
  | nil => intro kn s K _; rfl
  | cons o rest ih =>
    intro kn s K hk
    have run : ∀ kn, Known kn s → (stepC C kn s o fun s' => opsC C ops rest (forget kn o.dst) s' K) = (stepD C s o).bind fun s' => (opsD C ops rest s').bind K := by
      intro kn hk
      rw [stepC_eq hk]
      cases hs : stepD C s o with
      | none => rfl
      | some s' => exact ih _ s' K (known_forget hk o.dst (stepD_slots hs))
    have skip : ∀ kn, Known kn s → opsC C ops rest (forget kn o.dst) (s.put o.dst .skip) K = (opsD C ops rest (s.put o.dst .skip)).bind K :=
      fun kn hk => ih _ _ K (known_forget hk o.dst (put_slots o.dst _))
    have unf : (opsD C ops (o :: rest) s).bind K = (guardD C ops s o).bind fun s' => (opsD C ops rest s').bind K := by
      simp only [opsD]
      cases guardD C ops s o <;> rfl
    rw [unf]
    unfold guardD
    simp only [opsC]
    split
    · exact run kn hk
    · rename_i j want _
      split
      · rfl
      · rename_i d _
        split
        · rename_i b hb
          have := hk d b hb
          simp only [this]
          split
          · exact run kn hk
          · exact skip kn hk
        · split
          · rename_i b hb
            cases b with
            | true =>
              simp only [cond_true]
              cases want with
              | true => simpa using run _ (known_cons hk hb)
              | false => simpa using skip _ (known_cons hk hb)
            | false =>
              simp only [cond_false]
              cases want with
              | true => simpa using skip _ (known_cons hk hb)
              | false => simpa using run _ (known_cons hk hb)
          · exact skip kn hk
          · rfl
end
end Go.Den
