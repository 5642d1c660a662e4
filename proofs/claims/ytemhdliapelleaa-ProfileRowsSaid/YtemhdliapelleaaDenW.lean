/- Regions whose order is drawn, in which memory is made: the steps. -/
import Derived.Test.YtemhdliapelleaaDenR
namespace Go.Den
open Go Go.RowKit

section
variable {C : Cx} {s t s1 : St C.Θ.T}
/-! ### Kinds -/
def bK (C : Cx) (o : Oper) : List Nat := match kindOf C o, o.dst with
  | .B, some d => [d]
  | _, _ => []
def aK (C : Cx) (o : Oper) : List Nat := match kindOf C o, o.dst with
  | .A, some d => [d]
  | _, _ => []
def fK (C : Cx) (o : Oper) : List Nat := match kindOf C o, o.dst with
  | .F, some d => (match calleeC o with
    | some g => freshKeys C d C.Γ g
    | none => [d])
  | _, _ => []
theorem kind_P {o : Oper} (h : kindOf C o = .P) : pureOp o.op = true := by
  unfold kindOf at h
  split at h
  · assumption
  · split at h <;> try (cases h; done)
    split at h
    · split at h <;> try (cases h; done)
      split at h <;> try (cases h; done)
      split at h <;> try (cases h; done)
      split at h <;> try (cases h; done)
      split at h <;> cases h
    · split at h <;> try (cases h; done)
      split at h <;> cases h
theorem kind_Q {o : Oper} (h : kindOf C o = .Q) : readOp o.op = true := by
  unfold kindOf at h
  split at h <;> try (cases h; done)
  split at h
  · assumption
  · split at h
    · split at h <;> try (cases h; done)
      split at h <;> try (cases h; done)
      split at h <;> try (cases h; done)
      split at h <;> try (cases h; done)
      split at h <;> cases h
    · split at h <;> try (cases h; done)
      split at h <;> cases h
theorem kind_QC {o : Oper} (h : kindOf C o = .QC) : ∃ g, calleeC o = some g ∧ ∀ p ∈ C.Γ, p.1 = g → quietSpec (flatE C.Θ) p.2 = true ∧ plainIn p.2.hin = true := by
  have key : ∀ g, (C.Γ.all fun p => !(p.1 == g) || (quietSpec (flatE C.Θ) p.2 && plainIn p.2.hin)) = true → ∀ p ∈ C.Γ, p.1 = g → quietSpec (flatE C.Θ) p.2 = true ∧ plainIn p.2.hin = true := by
    intro g hg p hp e
    have := List.all_eq_true.1 hg p hp
    simpa [e] using this
  unfold kindOf at h
  split at h <;> try (cases h; done)
  split at h <;> try (cases h; done)
  split at h
  · split at h <;> try (cases h; done)
    split at h <;> try (cases h; done)
    split at h <;> try (cases h; done)
    rename_i g hg
    split at h
    · rename_i hq; exact ⟨g, hg, key g hq⟩
    · split at h <;> cases h
  · split at h <;> try (cases h; done)
    rename_i g hg
    split at h <;> try (cases h; done)
    rename_i hq; exact ⟨g, hg, key g hq⟩
theorem kind_B {o : Oper} (h : kindOf C o = .B) : ∃ d, o.dst = some d ∧ o.guard = none ∧ ((∃ ty, o.op = .alloc ty) ∨ ∃ ty x, o.op = .box ty x) := by
  unfold kindOf at h
  split at h <;> try (cases h; done)
  split at h <;> try (cases h; done)
  split at h
  · rename_i d hd hg
    split at h
    · rename_i ty ho; exact ⟨d, hd, hg, .inl ⟨ty, ho⟩⟩
    · rename_i ty x ho; exact ⟨d, hd, hg, .inr ⟨ty, x, ho⟩⟩
    · cases h
    · split at h <;> try (cases h; done)
      split at h <;> try (cases h; done)
      split at h <;> try (cases h; done)
      split at h <;> cases h
  · split at h <;> try (cases h; done)
    split at h <;> cases h
theorem kind_A {o : Oper} (h : kindOf C o = .A) : ∃ d, o.dst = some d ∧ o.guard = none ∧ appOp o.op = true := by
  unfold kindOf at h
  split at h <;> try (cases h; done)
  split at h <;> try (cases h; done)
  split at h
  · rename_i d hd hg
    split at h <;> try (cases h; done)
    split at h
    · rename_i ha; exact ⟨d, hd, hg, ha⟩
    · split at h <;> try (cases h; done)
      split at h <;> try (cases h; done)
      split at h <;> cases h
  · split at h <;> try (cases h; done)
    split at h <;> cases h
theorem kind_F {o : Oper} (h : kindOf C o = .F) : ∃ d, o.dst = some d ∧ o.guard = none ∧ ((∃ ty n m, o.op = .makeSlice ty n m) ∨ ∃ g, calleeC o = some g ∧ ∀ p ∈ C.Γ, p.1 = g → freshSpec C p.2 = true) := by
  unfold kindOf at h
  split at h <;> try (cases h; done)
  split at h <;> try (cases h; done)
  split at h
  · rename_i d hd hg
    split at h <;> try (cases h; done)
    · rename_i ty n m ho; exact ⟨d, hd, hg, .inl ⟨ty, n, m, ho⟩⟩
    · split at h <;> try (cases h; done)
      split at h <;> try (cases h; done)
      rename_i g hc
      split at h <;> try (cases h; done)
      split at h <;> try (cases h; done)
      rename_i hq
      refine ⟨d, hd, hg, .inr ⟨g, hc, fun p hp e => ?_⟩⟩
      have := List.all_eq_true.1 hq p hp
      simpa [e] using this
  · split at h <;> try (cases h; done)
    split at h <;> cases h
theorem callee_of {o : Oper} {g : Nat} (h : calleeC o = some g) : ∃ args ats, o.op = .call ⟨.value (.func g), args, ats⟩ := by
  unfold calleeC at h
  split at h <;> try (cases h; done)
  rename_i c hc
  obtain ⟨callee, args, ats⟩ := c
  split at h <;> try (cases h; done)
  rename_i f hf
  split at h <;> try (cases h; done)
  simp only at hf
  cases h
  exact ⟨args, ats, by rw [hc, hf]⟩
/-! ### Steps that put one value -/
theorem elemOf_plain {e : TypeId} {cs : List (CV C.Θ.T)} (h : cs.all plainC = true) : t.elemOf C.Θ e cs = s.elemOf C.Θ e cs := by
  unfold St.elemOf
  rw [htget_congr (g := s.get)]
  intro l c hc
  have := List.all_eq_true.1 h c hc
  cases c <;> first | rfl | (simp [plainC] at this)
theorem litElems_alike (e : TypeId) : ∀ (l : List (Nat × Operand)) (j : Nat), (∀ p ∈ l, t.ev p.2 = s.ev p.2) → litElems C.Θ t e j l = litElems C.Θ s e j l := by
  intro l
  induction l with
  | nil => intro j _; rfl
  | cons x l ih =>
    intro j hx
    obtain ⟨i, x⟩ := x
    simp only [litElems]
    have hx0 : t.ev x = s.ev x := hx (i, x) (by simp)
    rw [hx0, ih (j + 1) fun p hp => hx p (by simp [hp])]
    split
    · split
      · rename_i cs _
        split
        · rename_i hc
          rw [elemOf_plain (s := s) hc.2]
        · rfl
      · rfl
    · rfl
/-- What must be the same in memory, for a step to come to the same. -/
def MemR (k : Kd) (s t : St C.Θ.T) (l : List Operand) : Prop := match k with
  | .P => True
  | .Q => (∀ x ∈ l, ∀ p ∈ (s.ev x).mB, ∀ B, look s.boxes p.1 = some B → B.gen = p.2 → look t.boxes p.1 = some B) ∧ ∀ x ∈ l, ∀ p ∈ (s.ev x).mR, ∀ R, look s.rows p.1 = some R → R.gen = p.2 → look t.rows p.1 = some R
  | .QC => Shown s t (l.map s.ev)
  | _ => False
theorem ren_nil {c c' : CV C.Θ.T} (h : renC [] [] c = some c') : c'.mB = [] ∧ c'.mR = [] := by
  cases c <;> simp only [renC] at h
  case row r g => split at h <;> simp [look] at h
  case box k g off => split at h <;> simp [look] at h
  case fn f caps =>
    cases caps with
    | nil => simp [renCaps] at h; subst h; exact ⟨rfl, rfl⟩
    | cons p r => simp [renCaps, look] at h
  all_goals cases h; exact ⟨rfl, rfl⟩
theorem rens_nil : ∀ {cs cs' : List (CV C.Θ.T)}, renCs [] [] cs = some cs' → ∀ c ∈ cs', c.mB = [] ∧ c.mR = [] := by
  intro cs
  induction cs with
  | nil => intro cs' h; cases h; intro c hc; cases hc
  | cons c cs ih =>
    intro cs' h
    simp only [renCs] at h
    split at h <;> try (cases h; done)
    rename_i c' hc
    split at h <;> try (cases h; done)
    rename_i l hl
    cases h
    intro d hd
    rcases List.mem_cons.1 hd with e | e
    · subst e; exact ren_nil hc
    · exact ih hl d e
theorem mem_none {l : List (CV C.Θ.T)} (h : ∀ c ∈ l, c.mB = [] ∧ c.mR = []) : l.flatMap CV.mB = [] ∧ l.flatMap CV.mR = [] := by
  constructor <;> rw [List.flatMap_eq_nil_iff]
  · exact fun c hc => (h c hc).1
  · exact fun c hc => (h c hc).2
theorem resA_nil {l : List (AV C.Θ.T)} {v : AV C.Θ.T} (h : resA [] [] l = some v) : v.mB = [] ∧ v.mR = [] := by
  have tup : ∀ (l : List (AV C.Θ.T)) (xs : List (CV C.Θ.T ⊕ List (CV C.Θ.T))), renSs [] [] l = some xs → ∀ q ∈ xs, (sumAV q).mB = [] ∧ (sumAV q).mR = [] := by
    intro l
    induction l with
    | nil => intro xs h; cases h; intro q hq; cases hq
    | cons v l ih =>
      intro xs h
      simp only [renSs] at h
      split at h <;> try (cases h; done)
      rename_i x hx
      split at h <;> try (cases h; done)
      rename_i r hr
      cases h
      intro q hq
      rcases List.mem_cons.1 hq with e | e
      · subst e
        cases v <;> simp only [renS] at hx <;> try (cases hx; done)
        case c c =>
          cases hc : renC ([] : List (Nat × Nat × Nat)) [] c with
          | none => simp [hc] at hx
          | some c' => simp [hc] at hx; subst hx; exact ren_nil hc
        case agg cs =>
          cases hc : renCs ([] : List (Nat × Nat × Nat)) [] cs with
          | none => simp [hc] at hx
          | some c' => simp [hc] at hx; subst hx; exact mem_none (rens_nil hc)
      · exact ih r hr q e
  have many : ∀ (l : List (AV C.Θ.T)), (renSs [] [] l).map AV.tup = some v → v.mB = [] ∧ v.mR = [] := by
    intro l h
    cases hx : renSs ([] : List (Nat × Nat × Nat)) [] l with
    | none => simp [hx] at h
    | some xs =>
      simp [hx] at h
      subst h
      have := tup l xs hx
      constructor
      · simp only [AV.mB]; rw [List.flatMap_eq_nil_iff]; intro q hq; have := (this q hq).1; cases q <;> exact this
      · simp only [AV.mR]; rw [List.flatMap_eq_nil_iff]; intro q hq; have := (this q hq).2; cases q <;> exact this
  unfold resA at h
  split at h
  · rename_i w
    cases w <;> simp only [renA] at h <;> try (cases h; done)
    case c c =>
      cases hc : renC ([] : List (Nat × Nat × Nat)) [] c with
      | none => simp [hc] at h
      | some c' => simp [hc] at h; subst h; exact ren_nil hc
    case agg cs =>
      cases hc : renCs ([] : List (Nat × Nat × Nat)) [] cs with
      | none => simp [hc] at h
      | some c' => simp [hc] at h; subst h; exact mem_none (rens_nil hc)
    case rel r g i sz off => split at h <;> simp [look] at h
  · exact many _ h
theorem in_none {v : AV C.Θ.T} (h : v.mB = [] ∧ v.mR = []) : InA s v := ⟨fun p hp => (by rw [h.1] at hp; cases hp), fun p hp => (by rw [h.2] at hp; cases hp)⟩
theorem quiet_after' {s s' : St C.Θ.T} {hin : Shape} {y : Ext C.Θ.T hin} {es : Shape} {x : es.X C.Θ.T} {flat : Bool} {dst : Option Nat} (he : es.boxes = [] ∧ es.rows = []) (hb : hin.boxes = []) (hr : hin.rows = [])
    {fe : TypeId → Bool} (h : after fe s hin y (es.st x) flat dst = some s') : ∃ v, (v.mB = [] ∧ v.mR = []) ∧ (∀ t : St C.Θ.T, after fe t hin y (es.st x) flat dst = some (t.put dst v)) ∧ s' = s.put dst v := by
  have e1 : (es.st x).boxes = [] := by unfold Shape.st Shape.mk'; simp only [he.1]; rfl
  have e2 : (es.st x).rows = [] := by unfold Shape.st Shape.mk'; simp only [he.2]; rfl
  have key : ∀ t : St C.Θ.T, after fe t hin y (es.st x) flat dst = if (flat && !((es.st x).flat fe)) = true then none else match resA [] [] (es.st x).slots with
    | some v => some (t.put dst v)
    | none => none := by
    intro t
    unfold after
    rw [e1, e2, hb, hr]
    simp only [renBs, renRs, newBs, newRs, keysOf, apartKs, boxKs, rowKs, lentBs, lentRs, List.append_nil, List.nil_append, dropBoxes_nil, dropRows_nil, Bool.and_self, if_true]
    split
    · rfl
    · cases resA (T := C.Θ.T) [] [] (es.st x).slots <;> rfl
  rw [key] at h
  split at h <;> try (cases h; done)
  rename_i hc
  split at h <;> try (cases h; done)
  rename_i v hv
  cases h
  exact ⟨v, resA_nil hv, fun t => by rw [key, if_neg hc, hv], rfl⟩
/-- A step of a kind that puts one value. -/
theorem read_step {o : Oper} {k : Kd} (hk : kindOf C o = k) (hk' : k = .P ∨ k = .Q ∨ k = .QC) (h : stepD C s o = some s1) :
    ∃ v, s1 = s.put o.dst v ∧ InA s v ∧ ∀ t, (∀ x ∈ o.op.operands.toList, t.ev x = s.ev x) → MemR k s t o.op.operands.toList → stepD C t o = some (t.put o.dst v) := by
  obtain ⟨dst, op, ty, pos, after, guard⟩ := o
  -- what is computed by opV
  have main : isMem op = false → (∀ t : St C.Θ.T, stepD C t ⟨dst, op, ty, pos, after, guard⟩ = match plain1 C t ⟨dst, op, ty, pos, after, guard⟩ with
      | some (c, s') => cond c (some s') none
      | none => none) → (∀ r t, opV C.P C.Θ C.eqs s op = some r → (∀ x ∈ op.operands.toList, t.ev x = s.ev x) → MemR k s t op.operands.toList → opV C.P C.Θ C.eqs t op = some r) →
      ∃ v, s1 = s.put dst v ∧ InA s v ∧ ∀ t, (∀ x ∈ op.operands.toList, t.ev x = s.ev x) → MemR k s t op.operands.toList → stepD C t ⟨dst, op, ty, pos, after, guard⟩ = some (t.put dst v) := by
    intro hm hst hop
    have pl : ∀ t : St C.Θ.T, plain1 C t ⟨dst, op, ty, pos, after, guard⟩ = (match opV C.P C.Θ C.eqs t op with | some (c, v) => some (c, t.put dst v) | none => none) := fun t => by
      unfold plain1; rw [if_neg (by simp [hm])]; rfl
    rw [hst, pl] at h
    cases ho : opV C.P C.Θ C.eqs s op with
    | none => simp [ho] at h
    | some q =>
      obtain ⟨c, v⟩ := q
      simp only [ho] at h
      cases c with
      | false => cases h
      | true =>
        simp only [cond_true, Option.some.injEq] at h
        refine ⟨v, h.symm, opV_in ho, fun t ht hmr => ?_⟩
        rw [hst, pl, hop _ t ho ht hmr]
        rfl
  rcases hk' with rfl | rfl | rfl
  · -- P
    have hp : pureOp op = true := kind_P hk
    have mainP := fun (hm : isMem op = false) hst => main hm hst (fun r t hr ht _ => by rw [opV_pure hp ht]; exact hr)
    cases op <;> try (simp [pureOp] at hp; done)
    case pick c x y =>
      have hst : ∀ t : St C.Θ.T, stepD C t ⟨dst, .pick c x y, ty, pos, after, guard⟩ = match t.ev c with
        | .c (.v (.bool b)) => cond b (some (t.put dst (t.ev x))) (some (t.put dst (t.ev y)))
        | _ => none := by intro t; cases c <;> rfl
      rw [hst] at h
      split at h <;> try (cases h; done)
      rename_i b hb
      refine ⟨cond b (s.ev x) (s.ev y), ?_, ?_, fun t ht _ => ?_⟩
      · cases b <;> (cases h; rfl)
      · cases b <;> exact in_ev _
      · rw [hst]
        have h1 := ht c (by simp [Op.operands])
        have h2 := ht x (by simp [Op.operands])
        have h3 := ht y (by simp [Op.operands])
        rw [h1, hb, h2, h3]
        cases b <;> rfl
    case buildSlice lt len parts =>
      have hst : ∀ t : St C.Θ.T, stepD C t ⟨dst, .buildSlice lt len parts, ty, pos, after, guard⟩ = match opA C.P C.Θ t ⟨dst, .buildSlice lt len parts, ty, pos, after, guard⟩ with
        | some (c, s') => cond c (some s') none
        | none => none := fun t => rfl
      rw [hst] at h
      cases dst with
      | none => simp [opA] at h
      | some d =>
        have hop : ∀ t : St C.Θ.T, opA C.P C.Θ t ⟨some d, .buildSlice lt len parts, ty, pos, after, guard⟩ = aLit C.P C.Θ t d lt len parts := fun t => rfl
        rw [hop] at h
        cases ha : aLit C.P C.Θ s d lt len parts with
        | none => simp [ha] at h
        | some q =>
        obtain ⟨c, s2⟩ := q
        simp only [ha] at h
        cases c with
        | false => cases h
        | true =>
        simp only [cond_true, Option.some.injEq] at h
        subst h
        unfold aLit at ha
        split at ha <;> try (cases ha; done)
        rename_i e he
        split at ha <;> try (cases ha; done)
        rename_i inf hi
        split at ha <;> try (cases ha; done)
        rename_i hc
        split at ha <;> try (cases ha; done)
        rename_i l hl
        simp only [Option.some.injEq, Prod.mk.injEq, true_and] at ha
        refine ⟨_, ha.symm, ?_, fun t ht _ => ?_⟩
        · split
          · exact in_none ⟨rfl, rfl⟩
          · exact in_none ⟨rfl, rfl⟩
        · rw [hst, hop]
          unfold aLit
          simp only [he, hi, if_pos hc]
          rw [litElems_alike (s := s) e parts.toList 0 (fun p hp => ht p.2 (by
            simp only [Op.operands, List.mem_map]
            exact ⟨p, hp, rfl⟩)), hl]
          rfl
    case call c =>
      obtain ⟨callee, args, ats⟩ := c
      cases callee <;> try (simp [pureOp] at hp; done)
      rename_i b
      cases b <;> try (simp [pureOp] at hp; done)
      all_goals exact mainP rfl fun t => rfl
    all_goals exact mainP rfl fun t => rfl
  · -- Q
    have hp : readOp op = true := kind_Q hk
    have mainQ := fun (hm : isMem op = false) hst => main hm hst (fun r t hr ht hmr => opV_read hp ⟨ht, hmr.1, hmr.2⟩ hr)
    cases op <;> try (simp [readOp] at hp; done)
    case call c =>
      obtain ⟨callee, args, ats⟩ := c
      cases callee <;> try (simp [readOp] at hp; done)
      rename_i b
      cases b <;> try (simp [readOp] at hp; done)
      exact mainQ rfl fun t => rfl
    all_goals exact mainQ rfl fun t => rfl
  · -- QC
    obtain ⟨g, hg, hsp⟩ := kind_QC hk
    obtain ⟨args, ats, e⟩ := callee_of hg
    simp only at e
    subst e
    have hst : ∀ t : St C.Θ.T, stepD C t ⟨dst, .call ⟨.value (.func g), args, ats⟩, ty, pos, after, guard⟩ = match ready (flatE C.Θ) (St.cellsAt C.Θ) C.Γ t g (args.toList.map t.ev) with
      | some r => callK (flatE C.Θ) r dst some
      | none => none := by
      intro t
      have : calleeOf C t (.func g) = some (g, [], []) := rfl
      simp only [stepD, stepC, this, List.nil_append, List.append_nil]
      rfl
    rw [hst] at h
    split at h <;> try (cases h; done)
    rename_i r hr
    have hq : ∀ p ∈ C.Γ, p.1 = g → plainIn p.2.hin = true ∧ flatOuts (flatE C.Θ) p.2.outs = true := fun p hp e => by
      obtain ⟨h1, h2⟩ := hsp p hp e
      simp only [quietSpec, Bool.and_eq_true] at h1
      exact ⟨h2, h1.1.2⟩
    obtain ⟨e1, hm, hres⟩ := ready_plain hq hr
    obtain ⟨z, q, x, hF, hmem, e2, haf, hto⟩ := callK_some h
    have hqs := (hsp _ hm rfl).1
    simp only [quietSpec, Bool.and_eq_true, List.isEmpty_iff, List.all_eq_true] at hqs
    obtain ⟨⟨⟨h2, h3⟩, _⟩, h4⟩ := hqs
    obtain ⟨v, hvn, hv, hz⟩ := quiet_after' (h4 q hmem) h2 h3 haf
    refine ⟨v, by rw [hz, e1], in_none hvn, fun t ht hmr => ?_⟩
    · rw [hst]
      have hav : args.toList.map t.ev = args.toList.map s.ev := map_alike _ fun z hz => ht z (by simp [Op.operands, Call.operands] at hz ⊢; exact .inr hz)
      have hsub : ∀ v ∈ args.toList.map s.ev, v ∈ (Op.call ⟨.value (.func g), args, ats⟩).operands.toList.map s.ev := by
        intro v hv
        obtain ⟨z, hz, rfl⟩ := List.mem_map.1 hv
        exact List.mem_map.2 ⟨z, by simp [Op.operands, Call.operands] at hz ⊢; exact .inr hz, rfl⟩
      have hmr' : Shown s t (Op.call ⟨.value (.func g), args, ats⟩ |>.operands.toList.map s.ev) := hmr
      rw [hav, hres t ⟨fun v hv => hmr'.box v (hsub v hv), fun v hv => hmr'.cell v (hsub v hv), fun v hv => hmr'.row v (hsub v hv)⟩]
      simp only
      unfold callK
      simp only [hF, Option.bind_some]
      rw [hto]
      simp only [e2]
      rw [hv t]
/-! ### Nothing speaks of what is about to be made -/
structure Tame (L : List Oper) (s : St C.Θ.T) : Prop where
  rb : ∀ p ∈ refsB C s, (∀ B, look s.boxes p.1 = some B → p.2 ≤ B.gen) ∧ (look s.boxes p.1 = none → ∀ o ∈ L, p.1 ∉ bK C o)
  rr : ∀ p ∈ refsR C s, (∀ R, look s.rows p.1 = some R → p.2 ≤ R.gen) ∧ (look s.rows p.1 = none → ∀ o ∈ L, p.1 ∉ aK C o ∧ p.1 ∉ fK C o)
  kb : ∀ o ∈ L, ∀ k ∈ bK C o, look s.boxes k = none
  kf : ∀ o ∈ L, ∀ k ∈ fK C o, look s.rows k = none
theorem Tame.sub {L L' : List Oper} (h : Tame L s) (hs : ∀ o ∈ L', o ∈ L) : Tame L' s :=
  ⟨fun p hp => ⟨(h.rb p hp).1, fun e o ho => (h.rb p hp).2 e o (hs o ho)⟩, fun p hp => ⟨(h.rr p hp).1, fun e o ho => (h.rr p hp).2 e o (hs o ho)⟩, fun o ho => h.kb o (hs o ho), fun o ho => h.kf o (hs o ho)⟩
theorem noB_of {k g : Nat} (h : ∀ p ∈ refsB C s, ¬ (p.1 = k ∧ p.2 = g)) : s.noB k g = true := by
  unfold St.noB
  simp only [Bool.and_eq_true, List.all_eq_true, Bool.not_eq_true']
  have f : ∀ l : List (Nat × Nat), (∀ p ∈ l, p ∈ refsB C s) → has l k g = false := by
    intro l hl
    unfold has
    rw [List.any_eq_false]
    intro p hp hc
    simp at hc
    exact h p (hl p hp) hc
  exact ⟨fun a ha => f _ fun p hp => List.mem_append_left _ (List.mem_flatMap.2 ⟨a, ha, hp⟩), fun b hb c hc => f _ fun p hp => List.mem_append_right _ (List.mem_flatMap.2 ⟨b, hb, List.mem_flatMap.2 ⟨c, hc, hp⟩⟩)⟩
theorem noR_of {k g : Nat} (h : ∀ p ∈ refsR C s, ¬ (p.1 = k ∧ p.2 = g)) : s.noR k g = true := by
  unfold St.noR
  simp only [Bool.and_eq_true, List.all_eq_true, Bool.not_eq_true']
  have f : ∀ l : List (Nat × Nat), (∀ p ∈ l, p ∈ refsR C s) → has l k g = false := by
    intro l hl
    unfold has
    rw [List.any_eq_false]
    intro p hp hc
    simp at hc
    exact h p (hl p hp) hc
  exact ⟨fun a ha => f _ fun p hp => List.mem_append_left _ (List.mem_flatMap.2 ⟨a, ha, hp⟩), fun b hb c hc => f _ fun p hp => List.mem_append_right _ (List.mem_flatMap.2 ⟨b, hb, List.mem_flatMap.2 ⟨c, hc, hp⟩⟩)⟩
theorem Tame.noB {L : List Oper} (h : Tame L s) {o : Oper} (ho : o ∈ L) {k : Nat} (hk : k ∈ bK C o) : s.nextB k = 0 ∧ s.noB k 0 = true := by
  have h0 := h.kb o ho k hk
  refine ⟨by simp only [St.nextB, h0], noB_of fun p hp hc => ?_⟩
  obtain ⟨q, g⟩ := p
  obtain ⟨rfl, rfl⟩ := hc
  exact (h.rb _ hp).2 h0 o ho hk
theorem Tame.noR {L : List Oper} (h : Tame L s) {k : Nat} (hk : (look s.rows k).isSome = true ∨ ∃ o ∈ L, k ∈ aK C o ∨ k ∈ fK C o) : s.noR k (s.nextR k) = true ∧ ∀ p ∈ refsR C s, p.1 = k → p.2 < s.nextR k := by
  have key : ∀ p ∈ refsR C s, p.1 = k → p.2 < s.nextR k := by
    intro p hp e
    obtain ⟨q, g⟩ := p
    simp only at e
    subst e
    cases hl : look s.rows q with
    | some R =>
      have := (h.rr _ hp).1 R hl
      simp only [St.nextR, hl] at this ⊢
      omega
    | none =>
      rcases hk with hk | ⟨o, ho, hk⟩
      · rw [hl] at hk; cases hk
      · have := (h.rr _ hp).2 hl o ho
        rcases hk with hk | hk
        · exact absurd hk this.1
        · exact absurd hk this.2
  refine ⟨noR_of fun p hp hc => ?_, key⟩
  have := key p hp hc.1
  omega
/-! ### A variable is made -/
theorem zero_in {ty : TypeId} {cs : List (CV C.Θ.T)} (h : zeroCells C.P ty = some cs) : ∀ c ∈ cs, InC s c := by
  unfold zeroCells at h
  split at h <;> try (cases h; done)
  split at h <;> try (cases h; done)
  exact in_const h
theorem box_step {o : Oper} {d : Nat} (hd : o.dst = some d) (hop : (∃ ty, o.op = .alloc ty) ∨ ∃ ty x, o.op = .box ty x) (h : stepD C s o = some s1) :
    ∃ ty cs, s1 = ⟨s.slots.set d (.c (.box d (s.nextB d) 0)), keep s.boxes d ⟨s.nextB d, ty, cs⟩, s.rows⟩ ∧ (∀ c ∈ cs, InC s c) ∧
      ∀ t : St C.Θ.T, (∀ x ∈ o.op.operands.toList, t.ev x = s.ev x) → t.nextB d = s.nextB d → t.noB d (s.nextB d) = true → stepD C t o = some ⟨t.slots.set d (.c (.box d (s.nextB d) 0)), keep t.boxes d ⟨s.nextB d, ty, cs⟩, t.rows⟩ := by
  obtain ⟨dst, op, ty, pos, after, guard⟩ := o
  simp only at hd hop
  subst hd
  have nb : ∀ {r : St C.Θ.T} {ty' : Nat} {cs : List (CV C.Θ.T)}, s.newBox d ty' cs = some r → r = ⟨s.slots.set d (.c (.box d (s.nextB d) 0)), keep s.boxes d ⟨s.nextB d, ty', cs⟩, s.rows⟩ ∧ ∀ t : St C.Θ.T, t.nextB d = s.nextB d → t.noB d (s.nextB d) = true → t.newBox d ty' cs = some ⟨t.slots.set d (.c (.box d (s.nextB d) 0)), keep t.boxes d ⟨s.nextB d, ty', cs⟩, t.rows⟩ := by
    intro r ty' cs h
    unfold St.newBox at h
    split at h <;> try (cases h; done)
    rename_i hc
    cases h
    simp only [Bool.and_eq_true] at hc
    refine ⟨rfl, fun t h1 h2 => ?_⟩
    unfold St.newBox
    rw [h1, h2, hc.2]
    rfl
  rcases hop with ⟨ty', rfl⟩ | ⟨ty', x, rfl⟩
  · have hst : ∀ t : St C.Θ.T, stepD C t ⟨some d, .alloc ty', ty, pos, after, guard⟩ = match aAlloc C.P t d ty' with
        | some (c, s') => cond c (some s') none
        | none => none := fun t => rfl
    rw [hst] at h
    unfold aAlloc at h
    cases hz : zeroCells (T := C.Θ.T) C.P ty' with
    | none => simp [hz] at h
    | some cs =>
      simp only [hz] at h
      cases hn : s.newBox d ty' cs with
      | none => simp [hn] at h
      | some r =>
        simp only [hn, Option.map_some, cond_true, Option.some.injEq] at h
        subst h
        obtain ⟨e, ht⟩ := nb hn
        refine ⟨ty', cs, e, zero_in hz, fun t _ h1 h2 => ?_⟩
        rw [hst]
        unfold aAlloc
        simp only [hz, ht t h1 h2]
        rfl
  · have hst : ∀ t : St C.Θ.T, stepD C t ⟨some d, .box ty' x, ty, pos, after, guard⟩ = match aBox t d ty' (t.ev x) with
        | some (c, s') => cond c (some s') none
        | none => none := fun t => rfl
    rw [hst] at h
    unfold aBox at h
    cases hz : cellsOfAV (s.ev x) with
    | none => simp [hz] at h
    | some cs =>
      simp only [hz] at h
      by_cases hc : cs.all (fun c => !(has c.mB d (s.nextB d))) = true
      · rw [if_pos hc] at h
        cases hn : s.newBox d ty' cs with
        | none => simp [hn] at h
        | some r =>
          simp only [hn, Option.map_some, cond_true, Option.some.injEq] at h
          subst h
          obtain ⟨e, ht⟩ := nb hn
          refine ⟨ty', cs, e, in_cells hz (in_ev x), fun t hev h1 h2 => ?_⟩
          rw [hst]
          unfold aBox
          rw [hev x (by simp [Op.operands])]
          simp only [hz, h1, if_pos hc, ht t h1 h2]
          rfl
      · rw [if_neg hc] at h; cases h
/-! ### Rows are made -/
/-- What making rows does: at keys of N; v: what is put. -/
structure Made (s : St C.Θ.T) (R' : List (Nat × RowS C.Θ.T)) (v : AV C.Θ.T) (N : Nat → Prop) : Prop where
  off : ∀ k, ¬ N k → look R' k = look s.rows k
  on : ∀ k, N k → ∃ R1, look R' k = some R1 ∧ ∀ p ∈ refsR C s, p.1 = k → p.2 < R1.gen
  vb : ∀ p ∈ v.mB, p ∈ refsB C s
  vr : ∀ p ∈ v.mR, p ∈ refsR C s ∨ ∃ R1, look R' p.1 = some R1 ∧ p.2 ≤ R1.gen
/-- One row is made, or grows. -/
theorem newRow_made {L : List Oper} (hT : Tame L s) {d r e : Nat} {l : List (C.Θ.T e)} {s' : St C.Θ.T} (hk : (look s.rows r).isSome = true ∨ ∃ o ∈ L, r ∈ aK C o ∨ r ∈ fK C o) (h : s.newRow C.Θ d r e l = some s') :
    s' = ⟨(s.put (some d) (.c (.row r (s.nextR r)))).slots, s.boxes, keep s.rows r ⟨s.nextR r, e, l⟩⟩ ∧ Made s (keep s.rows r ⟨s.nextR r, e, l⟩) (.c (.row r (s.nextR r))) (fun k => k = r) ∧
      ∀ t : St C.Θ.T, t.rows = s.rows → Tame L t → t.newRow C.Θ d r e l = some ⟨(t.put (some d) (.c (.row r (s.nextR r)))).slots, t.boxes, keep s.rows r ⟨s.nextR r, e, l⟩⟩ := by
  have ht := hT.noR hk
  unfold St.newRow at h
  split at h <;> try (cases h; done)
  rename_i hc
  cases h
  simp only [Bool.and_eq_true] at hc
  refine ⟨rfl, ⟨fun k hk => ?_, fun k hk => ?_, fun p hp => by simp [AV.mB, CV.mB] at hp, fun p hp => .inr ?_⟩, fun t htr htT => ?_⟩
  · rw [look_keep, if_neg (fun e => hk e.symm)]
  · subst hk
    exact ⟨_, by rw [look_keep, if_pos rfl], ht.2⟩
  · simp only [AV.mR, CV.mR, List.mem_singleton] at hp
    subst hp
    exact ⟨⟨s.nextR r, e, l⟩, by rw [look_keep, if_pos rfl], Nat.le_refl _⟩
  · have hn : t.nextR r = s.nextR r := by simp only [St.nextR, htr]
    have := (htT.noR (k := r) (by rw [htr]; exact hk)).1
    unfold St.newRow
    rw [this, hn, hc.2, htr]
    rfl
theorem app_step {L : List Oper} (hT : Tame L s) {o : Oper} (ho : o ∈ L) (hk : kindOf C o = .A) (h : stepD C s o = some s1) :
    ∃ v R' N, s1 = ⟨(s.put o.dst v).slots, s.boxes, R'⟩ ∧ Made s R' v N ∧ (∀ k, N k → k ∈ aK C o ∨ (look s.rows k).isSome = true) ∧
      ∀ t : St C.Θ.T, (∀ x ∈ o.op.operands.toList, t.ev x = s.ev x) → t.rows = s.rows → Tame L t → stepD C t o = some ⟨(t.put o.dst v).slots, t.boxes, R'⟩ := by
  obtain ⟨d, hd, hg, ha⟩ := kind_A hk
  have hak : d ∈ aK C o := by unfold aK; rw [hk, hd]; simp
  obtain ⟨dst, op, ty, pos, after, guard⟩ := o
  simp only at hd ha
  subst hd
  cases op <;> try (simp [appOp] at ha; done)
  rename_i c
  obtain ⟨callee, args, ats⟩ := c
  cases callee <;> try (simp [appOp] at ha; done)
  rename_i b
  cases b <;> try (simp [appOp] at ha; done)
  have hst : ∀ t : St C.Θ.T, stepD C t ⟨some d, .call ⟨.builtin .append, args, ats⟩, ty, pos, after, guard⟩ = match opA C.P C.Θ t ⟨some d, .call ⟨.builtin .append, args, ats⟩, ty, pos, after, guard⟩ with
      | some (c, s') => cond c (some s') none
      | none => none := fun t => rfl
  rw [hst] at h
  cases hoo : opA C.P C.Θ s ⟨some d, .call ⟨.builtin .append, args, ats⟩, ty, pos, after, guard⟩ with
  | none => simp [hoo] at h
  | some q =>
    obtain ⟨c, s2⟩ := q
    simp only [hoo] at h
    cases c with
    | false => cases h
    | true =>
    simp only [cond_true, Option.some.injEq] at h
    subst h
    have haa := hoo
    simp only [opA] at haa
    split at haa <;> try (cases haa; done)
    rename_i x y t1 t2 _ hal htl
    split at haa <;> try (cases haa; done)
    rename_i htt
    have hop : ∀ t : St C.Θ.T, opA C.P C.Θ t ⟨some d, .call ⟨.builtin .append, args, ats⟩, ty, pos, after, guard⟩ = aAppend C.P C.Θ t d t1 (t.ev x) (t.ev y) := fun t => by
      simp only [opA, hal, htl, if_pos htt]
    -- at another state
    have fin : ∀ v R', (∀ t : St C.Θ.T, (t.ev x = s.ev x) → (t.ev y = s.ev y) → t.rows = s.rows → Tame L t → aAppend C.P C.Θ t d t1 (t.ev x) (t.ev y) = some (true, ⟨(t.put (some d) v).slots, t.boxes, R'⟩)) →
        ∀ t : St C.Θ.T, (∀ z ∈ (Op.call ⟨.builtin .append, args, ats⟩).operands.toList, t.ev z = s.ev z) → t.rows = s.rows → Tame L t → stepD C t ⟨some d, .call ⟨.builtin .append, args, ats⟩, ty, pos, after, guard⟩ = some ⟨(t.put (some d) v).slots, t.boxes, R'⟩ := by
      intro v R' hh t hev hr htT
      have hmem : ∀ z, z ∈ args.toList → z ∈ (Op.call ⟨.builtin .append, args, ats⟩).operands.toList := fun z hz => by simp [Op.operands, Call.operands] at hz ⊢; exact hz
      rw [hst, hop]
      rw [hh t (hev x (hmem x (by simp [hal]))) (hev y (hmem y (by simp [hal]))) hr htT]
      rfl
    unfold aAppend at haa
    split at haa <;> try (cases haa; done)
    rename_i e he
    split at haa <;> try (cases haa; done)
    rename_i inf hi
    split at haa <;> try (cases haa; done)
    rename_i hc
    split at haa <;> try (cases haa; done)
    rename_i ys hys
    have hys' : ∀ t : St C.Θ.T, t.rows = s.rows → rowOf C.Θ t e (s.ev y) = some ys := fun t ht => by
      rw [← hys]; unfold rowOf; rw [get_rows' ht]
    -- a row of its own
    have own : ∀ (hx : s.ev x = .c .nil ∨ s.ev x = .c .e0), (s.newRow C.Θ d d e ys).map (fun s' => (fitB ys.length inf.bytes, s')) = some (true, s2) → ∃ v R' N, s2 = ⟨(s.put (some d) v).slots, s.boxes, R'⟩ ∧ Made s R' v N ∧ (∀ k, N k → k ∈ aK C ⟨some d, .call ⟨.builtin .append, args, ats⟩, ty, pos, after, guard⟩ ∨ (look s.rows k).isSome = true) ∧
        ∀ t : St C.Θ.T, (t.ev x = s.ev x) → (t.ev y = s.ev y) → t.rows = s.rows → Tame L t → aAppend C.P C.Θ t d t1 (t.ev x) (t.ev y) = some (true, ⟨(t.put (some d) v).slots, t.boxes, R'⟩) := by
      intro hx h
      cases hn : s.newRow C.Θ d d e ys with
      | none => simp [hn] at h
      | some s3 =>
        simp only [hn, Option.map_some, Option.some.injEq, Prod.mk.injEq] at h
        obtain ⟨hf, rfl⟩ := h
        obtain ⟨e1, m, ht⟩ := newRow_made hT (.inr ⟨_, ho, .inl hak⟩) hn
        refine ⟨_, _, _, e1, m, fun k hk => .inl (by rw [hk]; exact hak), fun t h1 h2 hr htT => ?_⟩
        rw [h1, h2]
        unfold aAppend
        simp only [he, hi, if_pos hc, hys' t hr]
        rcases hx with hx | hx <;> simp only [hx, ht t hr htT, Option.map_some, hf]
    split at haa <;> try (cases haa; done)
    · rename_i hx
      obtain ⟨v, R', N, h1, h2, h3, h4⟩ := own (.inl hx) haa
      exact ⟨v, R', N, h1, h2, h3, fin v R' h4⟩
    · rename_i hx
      obtain ⟨v, R', N, h1, h2, h3, h4⟩ := own (.inr hx) haa
      exact ⟨v, R', N, h1, h2, h3, fin v R' h4⟩
    · rename_i r g hx
      split at haa <;> try (cases haa; done)
      rename_i R hR
      split at haa <;> try (cases haa; done)
      rename_i hge
      cases hn : s.newRow C.Θ d r e ((hge.2 ▸ R.l) ++ ys) with
      | none => simp [hn] at haa
      | some s3 =>
        simp only [hn, Option.map_some, Option.some.injEq, Prod.mk.injEq] at haa
        obtain ⟨hf, rfl⟩ := haa
        obtain ⟨e1, m, ht⟩ := newRow_made hT (.inl (by simp [hR])) hn
        refine ⟨_, _, _, e1, m, fun k hk => .inr (by rw [hk, hR]; rfl), fin _ _ fun t h1 h2 hr htT => ?_⟩
        rw [h1, h2]
        unfold aAppend
        simp only [he, hi, if_pos hc, hys' t hr, hx, hr, hR, dif_pos hge, ht t hr htT, Option.map_some, hf]
theorem ren_in {nR : List (Nat × CV C.Θ.T)} (hn : ∀ b ∈ nR, b.2.mB = []) {c c' : CV C.Θ.T} (h : renC [] nR c = some c') : c'.mB = [] ∧ ∀ p ∈ c'.mR, ∃ b ∈ nR, p ∈ b.2.mR := by
  have lk : ∀ {r : Nat} {x : CV C.Θ.T}, look nR r = some x → (r, x) ∈ nR := fun h => mem_of_look h
  cases c <;> simp only [renC] at h
  case row r g =>
    split at h <;> try (cases h; done)
    have := lk h
    exact ⟨hn _ this, fun p hp => ⟨_, this, hp⟩⟩
  case box k g off => split at h <;> simp [look] at h
  case fn f caps =>
    cases caps with
    | nil => simp [renCaps] at h; subst h; exact ⟨rfl, fun p hp => by cases hp⟩
    | cons p r => simp [renCaps, look] at h
  all_goals cases h; exact ⟨rfl, fun p hp => by cases hp⟩
theorem rens_in {nR : List (Nat × CV C.Θ.T)} (hn : ∀ b ∈ nR, b.2.mB = []) : ∀ {cs cs' : List (CV C.Θ.T)}, renCs [] nR cs = some cs' → ∀ c ∈ cs', c.mB = [] ∧ ∀ p ∈ c.mR, ∃ b ∈ nR, p ∈ b.2.mR := by
  intro cs
  induction cs with
  | nil => intro cs' h; cases h; intro c hc; cases hc
  | cons c cs ih =>
    intro cs' h
    simp only [renCs] at h
    split at h <;> try (cases h; done)
    rename_i c' hc
    split at h <;> try (cases h; done)
    rename_i l hl
    cases h
    intro d hd
    rcases List.mem_cons.1 hd with e | e
    · subst e; exact ren_in hn hc
    · exact ih hl d e
theorem mems_in {nR : List (Nat × CV C.Θ.T)} {l : List (CV C.Θ.T)} (h : ∀ c ∈ l, c.mB = [] ∧ ∀ p ∈ c.mR, ∃ b ∈ nR, p ∈ b.2.mR) : l.flatMap CV.mB = [] ∧ ∀ p ∈ l.flatMap CV.mR, ∃ b ∈ nR, p ∈ b.2.mR := by
  constructor
  · rw [List.flatMap_eq_nil_iff]; exact fun c hc => (h c hc).1
  · intro p hp
    obtain ⟨c, hc, hp⟩ := List.mem_flatMap.1 hp
    exact (h c hc).2 p hp
theorem resA_in {nR : List (Nat × CV C.Θ.T)} (hn : ∀ b ∈ nR, b.2.mB = []) {l : List (AV C.Θ.T)} {v : AV C.Θ.T} (h : resA [] nR l = some v) : v.mB = [] ∧ ∀ p ∈ v.mR, ∃ b ∈ nR, p ∈ b.2.mR := by
  have tup : ∀ (l : List (AV C.Θ.T)) (xs : List (CV C.Θ.T ⊕ List (CV C.Θ.T))), renSs [] nR l = some xs → ∀ q ∈ xs, (sumAV q).mB = [] ∧ ∀ p ∈ (sumAV q).mR, ∃ b ∈ nR, p ∈ b.2.mR := by
    intro l
    induction l with
    | nil => intro xs h; cases h; intro q hq; cases hq
    | cons v l ih =>
      intro xs h
      simp only [renSs] at h
      split at h <;> try (cases h; done)
      rename_i x hx
      split at h <;> try (cases h; done)
      rename_i r hr
      cases h
      intro q hq
      rcases List.mem_cons.1 hq with e | e
      · subst e
        cases v <;> simp only [renS] at hx <;> try (cases hx; done)
        case c c =>
          cases hc : renC ([] : List (Nat × Nat × Nat)) nR c with
          | none => simp [hc] at hx
          | some c' => simp [hc] at hx; subst hx; exact ren_in hn hc
        case agg cs =>
          cases hc : renCs ([] : List (Nat × Nat × Nat)) nR cs with
          | none => simp [hc] at hx
          | some c' => simp [hc] at hx; subst hx; exact mems_in (rens_in hn hc)
      · exact ih r hr q e
  have many : ∀ (l : List (AV C.Θ.T)), (renSs [] nR l).map AV.tup = some v → v.mB = [] ∧ ∀ p ∈ v.mR, ∃ b ∈ nR, p ∈ b.2.mR := by
    intro l h
    cases hx : renSs ([] : List (Nat × Nat × Nat)) nR l with
    | none => simp [hx] at h
    | some xs =>
      simp [hx] at h
      subst h
      have := tup l xs hx
      constructor
      · simp only [AV.mB]; rw [List.flatMap_eq_nil_iff]; intro q hq; have := (this q hq).1; cases q <;> exact this
      · intro p hp
        simp only [AV.mR] at hp
        obtain ⟨q, hq, hp⟩ := List.mem_flatMap.1 hp
        have := (this q hq).2 p
        cases q <;> exact this hp
  unfold resA at h
  split at h
  · rename_i w
    cases w <;> simp only [renA] at h <;> try (cases h; done)
    case c c =>
      cases hc : renC ([] : List (Nat × Nat × Nat)) nR c with
      | none => simp [hc] at h
      | some c' => simp [hc] at h; subst h; exact ren_in hn hc
    case agg cs =>
      cases hc : renCs ([] : List (Nat × Nat × Nat)) nR cs with
      | none => simp [hc] at h
      | some c' => simp [hc] at h; subst h; exact mems_in (rens_in hn hc)
    case rel r g i sz off =>
      split at h <;> try (cases h; done)
      split at h <;> try (cases h; done)
      rename_i x hx
      split at h <;> try (cases h; done)
      cases h
      exact ⟨rfl, fun p hp => ⟨_, mem_of_look hx, hp⟩⟩
  · exact many _ h
/-- New rows of a call, named. -/
theorem renRs_fresh {hin : Shape} (hr : hin.rows = []) {bs : List (Nat × CV C.Θ.T)} {d : Nat} : ∀ (l : List (Nat × RowS C.Θ.T)) (nR : List (Nat × CV C.Θ.T)), renRs s hin bs d l = some nR →
    nR = l.map (fun b => (b.1, .row (freshK d b.1) (s.nextR (freshK d b.1)))) ∧ ∀ t : St C.Θ.T, (∀ b ∈ l, t.nextR (freshK d b.1) = s.nextR (freshK d b.1) ∧ t.noR (freshK d b.1) (s.nextR (freshK d b.1)) = true) → renRs t hin bs d l = some nR := by
  have ent : ∀ (t : St C.Θ.T) k, entR t hin bs d k = freshR t d k := fun t k => by
    unfold entR; rw [hr]; simp [keyIn]
  intro l
  induction l with
  | nil => intro nR h; cases h; exact ⟨rfl, fun t _ => rfl⟩
  | cons b l ih =>
    intro nR h
    simp only [renRs] at h
    split at h <;> try (cases h; done)
    rename_i c hc
    split at h <;> try (cases h; done)
    rename_i hg
    split at h <;> try (cases h; done)
    rename_i l' hl
    cases h
    rw [ent] at hc
    obtain ⟨e, ht⟩ := ih l' hl
    unfold freshR at hc
    split at hc <;> try (cases hc; done)
    rename_i hcc
    cases hc
    simp only [Bool.and_eq_true] at hcc
    refine ⟨by rw [e]; rfl, fun t hh => ?_⟩
    obtain ⟨h1, h2⟩ := hh b (by simp)
    simp only [renRs, ent]
    rw [ht t fun b' hb' => hh b' (by simp [hb'])]
    unfold freshR
    rw [h1, h2, hcc.2]
    simp [hg]
theorem newRs_fresh {f : Nat → Nat × Nat} : ∀ (l l0 : List (Nat × RowS C.Θ.T)), (∀ b ∈ l, b ∈ l0) → newRs (l0.map fun b => (b.1, CV.row (T := C.Θ.T) (f b.1).1 (f b.1).2)) l = some (l.map fun b => ((f b.1).1, ⟨(f b.1).2, b.2.e, b.2.l⟩)) := by
  intro l l0
  have lk : ∀ b ∈ l0, look (l0.map fun b => (b.1, CV.row (T := C.Θ.T) (f b.1).1 (f b.1).2)) b.1 = some (CV.row (f b.1).1 (f b.1).2) := by
    clear l
    induction l0 with
    | nil => intro b hb; cases hb
    | cons x l0 ih =>
      intro b hb
      simp only [List.map_cons, look]
      by_cases hx : x.1 = b.1
      · rw [if_pos hx, hx]
      · rw [if_neg hx]
        rcases List.mem_cons.1 hb with e | e
        · exact absurd (by rw [e]) hx
        · exact ih b e
  induction l with
  | nil => intro _; rfl
  | cons b l ih =>
    intro h
    simp only [newRs]
    rw [lk b (h b (by simp)), ih fun b' hb' => h b' (by simp [hb'])]
    rfl
theorem fillRs_keys : ∀ (ts : List (Nat × Nat)) (ps : List (PV C.Θ.T)), ∀ b ∈ fillRs ts ps, ∃ r ∈ ts, b.1 = r.1 := by
  intro ts
  induction ts with
  | nil => intro ps b hb; cases hb
  | cons t ts ih =>
    intro ps b hb
    cases ps with
    | nil => cases hb
    | cons p ps =>
      simp only [fillRs, List.mem_cons] at hb
      rcases hb with e | e
      · exact ⟨t, by simp, by rw [e]⟩
      · obtain ⟨r, hr, e⟩ := ih ps b e; exact ⟨r, by simp [hr], e⟩
theorem mem_freshKeys {d g : Nat} : ∀ (Γ : List (Nat × Go.Den.Spec C.Θ.T)) (p : Nat × Go.Den.Spec C.Θ.T) (q : Ex × Shape) (r : Nat × Nat), p ∈ Γ → p.1 = g → q ∈ p.2.outs → r ∈ q.2.rows → freshK d r.1 ∈ freshKeys C d Γ g := by
  intro Γ
  induction Γ with
  | nil => intro p q r hp; cases hp
  | cons x Γ ih =>
    intro p q r hp hg hq hr
    simp only [freshKeys]
    rcases List.mem_cons.1 hp with e | e
    · subst e
      rw [if_pos (by simp [hg])]
      exact List.mem_append_left _ (List.mem_flatMap.2 ⟨q, hq, List.mem_map.2 ⟨r, hr, rfl⟩⟩)
    · split
      · exact List.mem_append_right _ (ih p q r e hg hq hr)
      · exact ih p q r e hg hq hr
theorem look_append2 {B : Type} (l l' : List (Nat × B)) (k : Nat) : look (l ++ l') k = match look l k with
    | some b => some b
    | none => look l' k := by
  induction l with
  | nil => rfl
  | cons x l ih =>
    simp only [List.cons_append, look]
    split
    · rfl
    · exact ih
theorem look_dropRows' {T : TypeId → Type} (l : List (Nat × RowS T)) (ks : List Nat) (k : Nat) (h : k ∉ ks) : look (dropRows l ks) k = look l k := by
  induction l with
  | nil => rfl
  | cons x l ih =>
    obtain ⟨j, R⟩ := x
    simp only [dropRows]
    split
    · rename_i hj
      rw [ih]
      simp only [look]
      rw [if_neg]
      rintro rfl
      exact h (by simpa using hj)
    · simp only [look]
      rw [ih]
theorem fresh_step {L : List Oper} (hT : Tame L s) {o : Oper} (ho : o ∈ L) (hk : kindOf C o = .F) (h : stepD C s o = some s1) :
    ∃ v R' N, s1 = ⟨(s.put o.dst v).slots, s.boxes, R'⟩ ∧ Made s R' v N ∧ (∀ k, N k → k ∈ fK C o) ∧
      ∀ t : St C.Θ.T, (∀ x ∈ o.op.operands.toList, t.ev x = s.ev x) → t.rows = s.rows → Tame L t → (∀ x ∈ o.op.operands.toList, ∀ p ∈ (s.ev x).mB, look t.boxes p.1 = look s.boxes p.1) → stepD C t o = some ⟨(t.put o.dst v).slots, t.boxes, R'⟩ := by
  obtain ⟨d, hd, hg, hop⟩ := kind_F hk
  have hfk : fK C o = (match calleeC o with
    | some g => freshKeys C d C.Γ g
    | none => [d]) := by unfold fK; rw [hk, hd]
  obtain ⟨dst, op, ty, pos, aft, guard⟩ := o
  simp only at hd hop
  subst hd
  rcases hop with ⟨mt, n, m, rfl⟩ | ⟨g, hcal, hsp⟩
  · -- make
    have hst : ∀ t : St C.Θ.T, stepD C t ⟨some d, .makeSlice mt n m, ty, pos, aft, guard⟩ = match aMake C.P C.Θ t d mt (t.ev n) (t.ev m) with
      | some (c, s') => cond c (some s') none
      | none => none := fun t => rfl
    have hin : d ∈ fK C ⟨some d, .makeSlice mt n m, ty, pos, aft, guard⟩ := by rw [hfk]; simp [calleeC]
    rw [hst] at h
    cases haa : aMake C.P C.Θ s d mt (s.ev n) (s.ev m) with
    | none => simp [haa] at h
    | some q =>
    obtain ⟨c, s2⟩ := q
    simp only [haa] at h
    cases c with
    | false => cases h
    | true =>
    simp only [cond_true, Option.some.injEq] at h
    subst h
    unfold aMake at haa
    split at haa <;> try (cases haa; done)
    rename_i k1 n' k2 m' hn hm
    split at haa <;> try (cases haa; done)
    rename_i e he
    split at haa <;> try (cases haa; done)
    rename_i inf hi
    split at haa <;> try (cases haa; done)
    rename_i hc
    split at haa <;> try (cases haa; done)
    rename_i y hy
    cases hnr : s.newRow C.Θ d d e (List.replicate n'.toNat y) with
    | none => simp [hnr] at haa
    | some s3 =>
    simp only [hnr, Option.map_some, Option.some.injEq, Prod.mk.injEq] at haa
    obtain ⟨hf, rfl⟩ := haa
    obtain ⟨e1, mm, ht⟩ := newRow_made hT (.inr ⟨_, ho, .inr hin⟩) hnr
    refine ⟨_, _, _, e1, mm, fun k hk => by rw [hk]; exact hin, fun t hev hr htT _ => ?_⟩
    have hz : zeroElem C.P C.Θ t e = some y := by
      rw [← hy]
      unfold zeroElem
      split
      · split
        · rename_i hcc; exact elemOf_plain hcc.2
        · rfl
      · rfl
    rw [hst]
    unfold aMake
    rw [hev n (by simp [Op.operands]), hev m (by simp [Op.operands]), hn, hm]
    simp only [he, hi, if_pos hc, hz, ht t hr htT, Option.map_some, hf]
    rfl
  · -- a call
    rw [hcal] at hfk
    simp only at hfk
    obtain ⟨args, ats, e⟩ := callee_of hcal
    simp only at e
    subst e
    have hst : ∀ t : St C.Θ.T, stepD C t ⟨some d, .call ⟨.value (.func g), args, ats⟩, ty, pos, aft, guard⟩ = match ready (flatE C.Θ) (St.cellsAt C.Θ) C.Γ t g (args.toList.map t.ev) with
      | some r => callK (flatE C.Θ) r (some d) some
      | none => none := by
      intro t
      have : calleeOf C t (.func g) = some (g, [], []) := rfl
      simp only [stepD, stepC, this, List.nil_append, List.append_nil]
      rfl
    rw [hst] at h
    split at h <;> try (cases h; done)
    rename_i r hr
    have hq : ∀ p ∈ C.Γ, p.1 = g → plainIn p.2.hin = true ∧ flatOuts (flatE C.Θ) p.2.outs = true := fun p hp e => by
      have := hsp p hp e
      simp only [freshSpec, Bool.and_eq_true] at this
      exact this.1
    obtain ⟨e1, hm, hres⟩ := ready_plain hq hr
    obtain ⟨z, q, x, hF, hmem, e2, haf, hto⟩ := callK_some h
    have hqs := hsp _ hm rfl
    simp only [freshSpec, Bool.and_eq_true, plainIn, List.isEmpty_iff, List.all_eq_true] at hqs
    obtain ⟨⟨⟨⟨h2, h3⟩, _⟩, _⟩, h4⟩ := hqs
    have h5 := (h4 q hmem).1
    have eB : (q.2.st x).boxes = [] := by unfold Shape.st Shape.mk'; simp only [h5]; rfl
    have hkeys : ∀ b ∈ (q.2.st x).rows, freshK d b.1 ∈ fK C ⟨some d, .call ⟨.value (.func g), args, ats⟩, ty, pos, aft, guard⟩ := by
      intro b hb
      obtain ⟨r', hr', e⟩ := fillRs_keys _ _ b hb
      rw [hfk, e]
      exact mem_freshKeys C.Γ _ q r' hm rfl hmem hr'
    have hfresh : ∀ t : St C.Θ.T, Tame L t → t.rows = s.rows → ∀ b ∈ (q.2.st x).rows, t.nextR (freshK d b.1) = s.nextR (freshK d b.1) ∧ t.noR (freshK d b.1) (s.nextR (freshK d b.1)) = true := by
      intro t htT htr b hb
      have e : t.nextR (freshK d b.1) = s.nextR (freshK d b.1) := by simp only [St.nextR, htr]
      refine ⟨e, ?_⟩
      rw [← e]
      exact (htT.noR (.inr ⟨_, ho, .inr (hkeys b hb)⟩)).1
    -- behind the call
    have hbase : baseOf (some d) r.y.xs = d := rfl
    have key : ∃ (v : AV C.Θ.T) (rs : List (Nat × RowS C.Θ.T)), rs = (q.2.st x).rows.map (fun b => (freshK d b.1, ⟨s.nextR (freshK d b.1), b.2.e, b.2.l⟩)) ∧ (v.mB = [] ∧ ∀ p ∈ v.mR, ∃ b ∈ (q.2.st x).rows, p = (freshK d b.1, s.nextR (freshK d b.1))) ∧
        s1 = ⟨(s.put (some d) v).slots, s.boxes, rs ++ dropRows s.rows (keysOf rs)⟩ ∧
        ∀ t : St C.Θ.T, t.rows = s.rows → Tame L t → Go.Den.after (flatE C.Θ) t r.sp.hin r.y (q.2.st x) (flatOuts (flatE C.Θ) r.sp.outs) (some d) = some ⟨(t.put (some d) v).slots, t.boxes, rs ++ dropRows s.rows (keysOf rs)⟩ := by
      rw [e1] at haf
      unfold Go.Den.after at haf
      rw [eB] at haf
      simp only [renBs, hbase] at haf
      split at haf <;> try (cases haf; done)
      rename_i hfl
      split at haf <;> try (cases haf; done)
      rename_i nR hnR
      obtain ⟨en, ht⟩ := renRs_fresh h3 _ _ hnR
      simp only [newBs] at haf
      have hrs := newRs_fresh (C := C) (f := fun k => (freshK d k, s.nextR (freshK d k))) (q.2.st x).rows (q.2.st x).rows (fun b hb => hb)
      simp only at hrs
      rw [← en] at hrs
      rw [hrs] at haf
      simp only at haf
      split at haf <;> try (cases haf; done)
      rename_i v hv
      split at haf <;> try (cases haf; done)
      rename_i hap
      simp only [h2, h3, lentBs, lentRs, List.append_nil, List.nil_append, keysOf, dropBoxes_nil, Option.some.injEq] at haf
      refine ⟨v, _, rfl, ?_, ?_, fun t htr htT => ?_⟩
      · have hmB : ∀ b ∈ nR, b.2.mB = [] := by
          intro b hb
          rw [en] at hb
          obtain ⟨b', _, rfl⟩ := List.mem_map.1 hb
          rfl
        obtain ⟨g1, g2⟩ := resA_in hmB hv
        refine ⟨g1, fun p hp => ?_⟩
        obtain ⟨b, hb, hpb⟩ := g2 p hp
        rw [en] at hb
        obtain ⟨b', hb', rfl⟩ := List.mem_map.1 hb
        simp only [CV.mR, List.mem_singleton] at hpb
        exact ⟨b', hb', hpb⟩
      · rw [← haf]; rfl
      · unfold Go.Den.after
        rw [eB]
        simp only [renBs, hbase]
        rw [if_neg hfl, ht t (hfresh t htT htr)]
        simp only [newBs]
        rw [hrs]
        simp only
        rw [hv]
        simp only
        rw [if_pos hap]
        simp only [h2, h3, lentBs, lentRs, List.append_nil, List.nil_append, keysOf, dropBoxes_nil, htr]
        rfl
    obtain ⟨v, rs, hrs, ⟨hvB, hvR⟩, es1, hat⟩ := key
    have hrk : ∀ k, k ∈ keysOf rs → ∃ b ∈ (q.2.st x).rows, k = freshK d b.1 := by
      intro k hk
      obtain ⟨R, hR⟩ := of_mem_keysOf hk
      rw [hrs] at hR
      obtain ⟨b, hb, e⟩ := List.mem_map.1 hR
      exact ⟨b, hb, by rw [← (Prod.mk.inj e).1]⟩
    have hlk : ∀ k, k ∈ keysOf rs → ∃ R1, look rs k = some R1 ∧ R1.gen = s.nextR k := by
      intro k hk
      cases hl : look rs k with
      | none => exact absurd hk (look_none_of hl)
      | some R1 =>
        refine ⟨R1, rfl, ?_⟩
        have := mem_of_look hl
        rw [hrs] at this
        obtain ⟨b, hb, e⟩ := List.mem_map.1 this
        obtain ⟨e3, e4⟩ := Prod.mk.inj e
        rw [← e3, ← e4]
    refine ⟨v, _, fun k => k ∈ keysOf rs, es1, ⟨fun k hk => ?_, fun k hk => ?_, fun p hp => (by rw [hvB] at hp; cases hp), fun p hp => .inr ?_⟩, fun k hk => ?_, fun t hev htr htT hbx => ?_⟩
    · rw [look_append2]
      cases hl : look rs k with
      | none => exact look_dropRows' _ _ _ hk
      | some R1 => exact absurd (mem_keysOf (mem_of_look hl)) hk
    · obtain ⟨R1, hl, hgn⟩ := hlk k hk
      refine ⟨R1, by rw [look_append2, hl], ?_⟩
      rw [hgn]
      obtain ⟨b, hb, e⟩ := hrk k hk
      exact (hT.noR (.inr ⟨_, ho, .inr (e ▸ hkeys b hb)⟩)).2
    · obtain ⟨b, hb, e⟩ := hvR p hp
      have hk : p.1 ∈ keysOf rs := by
        rw [e]
        refine mem_keysOf (b := ⟨s.nextR (freshK d b.1), b.2.e, b.2.l⟩) ?_
        rw [hrs]
        exact List.mem_map.2 ⟨b, hb, rfl⟩
      obtain ⟨R1, hl, hgn⟩ := hlk _ hk
      refine ⟨R1, by rw [look_append2, hl], ?_⟩
      rw [hgn, e]
      exact Nat.le_refl _
    · obtain ⟨b, hb, e⟩ := hrk k hk
      rw [e]; exact hkeys b hb
    · rw [hst]
      have hav : args.toList.map t.ev = args.toList.map s.ev := map_alike _ fun z hz => hev z (by simp [Op.operands, Call.operands] at hz ⊢; exact .inr hz)
      have hbx' : ∀ v ∈ args.toList.map s.ev, ∀ p ∈ v.mB, look t.boxes p.1 = look s.boxes p.1 := by
        intro v hv
        obtain ⟨z, hz, rfl⟩ := List.mem_map.1 hv
        exact hbx z (by simp [Op.operands, Call.operands] at hz ⊢; exact .inr hz)
      rw [hav, hres t ⟨hbx', fun _ _ _ _ _ _ _ _ _ _ => by rw [htr], fun _ _ _ _ => by rw [htr]⟩]
      simp only
      unfold callK
      simp only [hF, Option.bind_some]
      rw [hto]
      simp only [e2]
      rw [hat t htr htT]
end
end Go.Den
