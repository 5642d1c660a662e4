/- Regions whose order is drawn. -/
import Derived.Test.YtemhdliapelleaaDenL
import Derived.Test.YtemhdliapelleaaDenK
namespace Go.Den
open Go Go.RowKit

section
variable {C : Cx}
theorem at_put (s : St C.Θ.T) (d : Option Nat) (v : AV C.Θ.T) (i : Nat) (h : d ≠ some i) : (s.put d v).at_ i = s.at_ i := put_slots d v i h
theorem ev_put (s : St C.Θ.T) (d : Option Nat) (v : AV C.Θ.T) (x : Operand) (h : ∀ t, d = some t → x ≠ .tmp t) : (s.put d v).ev x = s.ev x := by
  cases x with
  | tmp t => exact at_put s d v t (fun e => h t e rfl)
  | _ => rfl
theorem put_boxes (s : St C.Θ.T) (d : Option Nat) (v : AV C.Θ.T) : (s.put d v).boxes = s.boxes := by cases d <;> rfl
theorem put_rows (s : St C.Θ.T) (d : Option Nat) (v : AV C.Θ.T) : (s.put d v).rows = s.rows := by cases d <;> rfl
theorem put_comm (s : St C.Θ.T) (d e : Option Nat) (v u : AV C.Θ.T) (h : ∀ t, d = some t → e ≠ some t) : (s.put d v).put e u = (s.put e u).put d v := by
  cases d with
  | none => rfl
  | some d =>
    cases e with
    | none => rfl
    | some e =>
      have hne : d ≠ e := fun x => h d rfl (by rw [x])
      simp only [St.put]
      rw [List.set_comm _ _ hne]
/-- Two states that agree in what an operation looks at. -/
structure Alike (s t : St C.Θ.T) (l : List Operand) : Prop where
  ev : ∀ x ∈ l, t.ev x = s.ev x
  boxes : t.boxes = s.boxes
  rows : t.rows = s.rows
theorem get_rows {s t : St C.Θ.T} (h : t.rows = s.rows) (l : Leaf) (c : CV C.Θ.T) : t.get l c = s.get l c := by unfold St.get; rw [h]
theorem get_rows' {s t : St C.Θ.T} (h : t.rows = s.rows) : t.get = s.get := by funext l c; exact get_rows h l c
theorem cellsAt_alike {s t : St C.Θ.T} (hb : t.boxes = s.boxes) (hr : t.rows = s.rows) (v : AV C.Θ.T) : t.cellsAt C.Θ v = s.cellsAt C.Θ v := by
  unfold St.cellsAt; rw [hb, hr]
theorem bound_alike {s t : St C.Θ.T} (x : Option Operand) (h : ∀ y ∈ x.toArray, t.ev y = s.ev y) : vBound t x = vBound s x := by
  cases x with
  | none => rfl
  | some x => simp only [vBound]; rw [h x (by simp)]
theorem caps_alike {s t : St C.Θ.T} : ∀ (l : List Operand), (∀ y ∈ l, t.ev y = s.ev y) → capsOf t l = capsOf s l := by
  intro l
  induction l with
  | nil => intro _; rfl
  | cons x l ih => intro h; simp only [capsOf]; rw [h x (by simp), ih fun y hy => h y (by simp [hy])]
theorem sums_alike {s t : St C.Θ.T} : ∀ (l : List Operand), (∀ y ∈ l, t.ev y = s.ev y) → sumsOf t l = sumsOf s l := by
  intro l
  induction l with
  | nil => intro _; rfl
  | cons x l ih => intro h; simp only [sumsOf]; rw [h x (by simp), ih fun y hy => h y (by simp [hy])]
theorem parts_alike {s t : St C.Θ.T} (ty : TypeId) : ∀ (l : List (Nat × Operand)) (cs : List (CV C.Θ.T)), (∀ p ∈ l, t.ev p.2 = s.ev p.2) → fillParts C.P t ty l cs = fillParts C.P s ty l cs := by
  intro l
  induction l with
  | nil => intro _ _; rfl
  | cons x l ih =>
    intro cs h
    obtain ⟨f, x⟩ := x
    simp only [fillParts]
    rw [h (f, x) (by simp)]
    have := fun cs => ih cs fun p hp => h p (by simp [hp])
    simp only [this]
theorem map_alike {s t : St C.Θ.T} (l : List Operand) (h : ∀ y ∈ l, t.ev y = s.ev y) : l.map t.ev = l.map s.ev := List.map_congr_left h
theorem opV_alike {s t : St C.Θ.T} {op : Op} (h : Alike s t op.operands.toList) : opV C.P C.Θ C.eqs t op = opV C.P C.Θ C.eqs s op := by
  obtain ⟨hev, hb, hr⟩ := h
  cases op with
  | call c =>
    obtain ⟨callee, args, ats⟩ := c
    simp only [Op.operands, Call.operands] at hev
    have ha : ∀ y ∈ args.toList, t.ev y = s.ev y := fun y hy => hev y (by simp at hy ⊢; exact .inr hy)
    cases callee with
    | builtin b =>
      simp only [opV]
      rw [map_alike _ ha]
      cases b <;> try rfl
      case len =>
        simp only
        split
        · rename_i x ty tys hl ht
          have : t.ev x = s.ev x := ha x (by rw [hl]; simp)
          rw [this]
          unfold vLen; rw [hr]
        · rfl
    | _ => rfl
  | build ty ps =>
    simp only [opV, vBuild]
    simp only [Op.operands] at hev
    have : ∀ p ∈ ps.toList, t.ev p.2 = s.ev p.2 := fun p hp => hev p.2 (by simp; exact ⟨p.1, by simpa using hp⟩)
    split
    · split
      · rw [parts_alike ty _ _ this]
      · rfl
    · rfl
  | makeFunc fn first caps =>
    simp only [opV, vFunc]
    simp only [Op.operands] at hev
    rw [caps_alike caps.toList fun y hy => hev y (by simp at hy ⊢; exact .inr hy), sums_alike first.toList fun y hy => hev y (by simp at hy ⊢; exact .inl hy)]
  | slice ty x lo hi mx =>
    simp only [opV, vSlice]
    simp only [Op.operands] at hev
    rw [bound_alike lo fun y hy => hev y (by simp at hy ⊢; exact .inr (.inl hy)), bound_alike hi fun y hy => hev y (by simp at hy ⊢; exact .inr (.inr (.inl hy))), hev x (by simp)]
  | load ty x =>
    simp only [opV, vLoad]
    simp only [Op.operands] at hev
    rw [hev x (by simp), cellsAt_alike hb hr]
  | indexAddr ty x i =>
    simp only [opV, vIndexAddr]
    simp only [Op.operands] at hev
    rw [hev x (by simp), hev i (by simp), hr]
  | _ => first
    | rfl
    | (simp only [opV]; simp only [Op.operands] at hev; simp [hev])
theorem dropBoxes_nil {T : TypeId → Type} (l : List (Nat × BoxS T)) : dropBoxes l [] = l := by
  induction l with
  | nil => rfl
  | cons x l ih => obtain ⟨k, B⟩ := x; simp [dropBoxes, ih]
theorem dropRows_nil {T : TypeId → Type} (l : List (Nat × RowS T)) : dropRows l [] = l := by
  induction l with
  | nil => rfl
  | cons x l ih => obtain ⟨k, B⟩ := x; simp [dropRows, ih]
theorem get_congr {s t : St C.Θ.T} (l : Leaf) (c : CV C.Θ.T) (h : ∀ p ∈ c.mR, look t.rows p.1 = look s.rows p.1) : t.get l c = s.get l c := by
  cases c with
  | row r g => simp only [St.get]; rw [h (r, g) (by simp [CV.mR])]
  | _ => rfl
theorem leafs_congr {s t : St C.Θ.T} : ∀ (ls : List Leaf) (cs : List (CV C.Θ.T)), (∀ c ∈ cs, ∀ p ∈ c.mR, look t.rows p.1 = look s.rows p.1) → leafs t ls cs = leafs s ls cs := by
  intro ls
  induction ls with
  | nil => intro cs _; rfl
  | cons l ls ih =>
    intro cs h
    cases cs with
    | nil => rfl
    | cons c cs =>
      simp only [leafs]
      rw [get_congr l c (h c (by simp)), ih cs fun c hc => h c (by simp [hc])]
theorem frC_congr {s t : St C.Θ.T} {ks : List Nat} (c : CV C.Θ.T) (h : ∀ p ∈ c.mR, look t.rows p.1 = look s.rows p.1) : frC t ks c = frC s ks c := by
  cases c with
  | row r g => simp only [frC]; rw [h (r, g) (by simp [CV.mR])]
  | _ => rfl
theorem frA_congr {s t : St C.Θ.T} {ks : List Nat} (v : AV C.Θ.T) (h : ∀ p ∈ v.mR, look t.rows p.1 = look s.rows p.1) : frA t ks v = frA s ks v := by
  have many : ∀ cs : List (CV C.Θ.T), (∀ p ∈ cs.flatMap CV.mR, look t.rows p.1 = look s.rows p.1) → cs.map (frC t ks) = cs.map (frC s ks) := fun cs h =>
    List.map_congr_left fun c hc => frC_congr c fun p hp => h p (List.mem_flatMap.2 ⟨c, hc, hp⟩)
  have sums : ∀ l : List (CV C.Θ.T ⊕ List (CV C.Θ.T)), (∀ q ∈ l, ∀ p ∈ (sumAV q).mR, look t.rows p.1 = look s.rows p.1) → l.map (frS t ks) = l.map (frS s ks) := fun l h =>
    List.map_congr_left fun q hq => by
      have := h q hq
      cases q with
      | inl c => simp only [frS]; rw [frC_congr c this]
      | inr cs => simp only [frS]; rw [many cs this]
  have sumsOf : ∀ (l : List (CV C.Θ.T ⊕ List (CV C.Θ.T))) (f : CV C.Θ.T ⊕ List (CV C.Θ.T) → List (Nat × Nat)), (∀ q, f q = (sumAV q).mR) → (∀ p ∈ l.flatMap f, look t.rows p.1 = look s.rows p.1) → l.map (frS t ks) = l.map (frS s ks) := fun l f hf h =>
    sums l fun q hq p hp => h p (List.mem_flatMap.2 ⟨q, hq, by rw [hf]; exact hp⟩)
  cases v with
  | c x => simp only [frA]; rw [frC_congr x h]
  | agg cs => simp only [frA]; rw [many cs h]
  | tup l => simp only [frA]; rw [sumsOf l _ (fun q => by cases q <;> rfl) h]
  | mth f l => simp only [frA]; rw [sumsOf l _ (fun q => by cases q <;> rfl) h]
  | yld y l =>
    simp only [frA]
    congr 1
    refine List.map_congr_left fun q hq => ?_
    have hp : ∀ p ∈ q.mR, look t.rows p.1 = look s.rows p.1 := fun p hp => h p (List.mem_flatMap.2 ⟨q, hq, hp⟩)
    cases q with
    | c x => simp only [frK]; rw [frC_congr x hp]
    | agg cs => simp only [frK]; rw [many cs hp]
    | cel xs => rfl
  | _ => rfl
/-- What a reader of these values looks at is the same. -/
structure Shown (s t : St C.Θ.T) (avs : List (AV C.Θ.T)) : Prop where
  box : ∀ v ∈ avs, ∀ p ∈ v.mB, look t.boxes p.1 = look s.boxes p.1
  cell : ∀ v ∈ avs, ∀ p ∈ v.mB, ∀ B, look s.boxes p.1 = some B → ∀ c ∈ B.cells, ∀ q ∈ c.mR, look t.rows q.1 = look s.rows q.1
  row : ∀ v ∈ avs, ∀ p ∈ v.mR, look t.rows p.1 = look s.rows p.1
theorem celA_congr {s t : St C.Θ.T} {v : AV C.Θ.T} {avs : List (AV C.Θ.T)} (h : Shown s t avs) (hv : v ∈ avs) (ls : List Leaf) : celA (St.cellsAt C.Θ) t ls v = celA (St.cellsAt C.Θ) s ls v := by
  have e : t.cellsAt C.Θ v = s.cellsAt C.Θ v := by
    unfold St.cellsAt
    split
    · rename_i k g off; rw [h.box _ hv (k, g) (by simp [AV.mB, CV.mB])]
    · rfl
    · rename_i r g i sz off; rw [h.row _ hv (r, g) (by simp [AV.mR])]
    · rfl
  unfold celA
  rw [e]
  cases hc : s.cellsAt C.Θ v with
  | none => rfl
  | some cs =>
    simp only
    rw [leafs_congr (s := s) ls cs]
    intro c hcm p hp
    unfold St.cellsAt at hc
    split at hc <;> try (cases hc; done)
    · rename_i k g off
      split at hc <;> try (cases hc; done)
      rename_i B hB
      split at hc <;> try (cases hc; done)
      cases hc
      exact h.cell _ hv (k, g) (by simp [AV.mB, CV.mB]) B hB c (List.mem_of_mem_drop hcm) p hp
    · cases hc
      obtain ⟨x, _, rfl⟩ := List.mem_map.1 hcm
      simp [CV.mR] at hp
    · split at hc <;> try (cases hc; done)
      split at hc <;> try (cases hc; done)
      split at hc <;> try (cases hc; done)
      cases hc
      obtain ⟨x, _, rfl⟩ := List.mem_map.1 hcm
      simp [CV.mR] at hp
theorem lendAs_congr {s t : St C.Θ.T} {avs : List (AV C.Θ.T)} (h : Shown s t avs) (ks : List Nat) : ∀ (ts : List AT) (l : List (AV C.Θ.T)), (∀ v ∈ l, v ∈ avs) → lendAs (St.cellsAt C.Θ) t ks ts l = lendAs (St.cellsAt C.Θ) s ks ts l := by
  intro ts
  induction ts with
  | nil => intro l _; rfl
  | cons a ts ih =>
    intro l hl
    cases l with
    | nil => rfl
    | cons v l =>
      simp only [lendAs]
      rw [ih l fun v hv => hl v (by simp [hv])]
      have hf := frA_congr (ks := ks) v (h.row v (hl v (by simp)))
      have : lendA (St.cellsAt C.Θ) t ks a v = lendA (St.cellsAt C.Θ) s ks a v := by
        cases a with
        | cel ls => cases v <;> first | rfl | exact celA_congr h (hl _ (by simp)) ls
        | _ => exact hf
      rw [this]
theorem find_mem {rd : St C.Θ.T → AV C.Θ.T → Option (List (CV C.Θ.T))} {g : Nat} {s : St C.Θ.T} {avs : List (AV C.Θ.T)} : ∀ (Γ : List (Nat × Go.Den.Spec C.Θ.T)) (hit : Hit C.Θ.T), findSpec (flatE C.Θ) rd Γ g s avs = some hit → (g, hit.sp) ∈ Γ := by
  intro Γ
  induction Γ with
  | nil => intro hit h; cases h
  | cons p Γ ih =>
    intro hit h
    simp only [findSpec] at h
    split at h
    · rename_i hg
      split at h
      · cases h; rw [← hg]; simp
      · exact List.mem_cons_of_mem _ (ih hit h)
    · exact List.mem_cons_of_mem _ (ih hit h)
theorem find_congr {s t : St C.Θ.T} {avs : List (AV C.Θ.T)} {g : Nat} : ∀ (Γ : List (Nat × Go.Den.Spec C.Θ.T)), (∀ p ∈ Γ, p.1 = g → entryOf (flatE C.Θ) (St.cellsAt C.Θ) p.2 t avs = entryOf (flatE C.Θ) (St.cellsAt C.Θ) p.2 s avs) → findSpec (flatE C.Θ) (St.cellsAt C.Θ) Γ g t avs = findSpec (flatE C.Θ) (St.cellsAt C.Θ) Γ g s avs := by
  intro Γ
  induction Γ with
  | nil => intro _; rfl
  | cons p Γ ih =>
    intro h
    simp only [findSpec]
    rw [ih fun q hq => h q (by simp [hq])]
    by_cases hg : p.1 = g
    · simp only [hg, if_true]; rw [h p (by simp) hg]
    · simp only [if_neg hg]
theorem quiet_ready {s : St C.Θ.T} {g : Nat} {avs : List (AV C.Θ.T)} {r : Ready C.Θ.T} (hq : ∀ p ∈ C.Γ, (!(p.1 == g) || quietSpec (flatE C.Θ) p.2) = true) (h : ready (flatE C.Θ) (St.cellsAt C.Θ) C.Γ s g avs = some r) :
    r.s = s ∧ r.sp.hin.boxes = [] ∧ r.sp.hin.rows = [] ∧ (∀ q ∈ r.sp.outs, q.2.boxes = [] ∧ q.2.rows = []) ∧ ∀ t : St C.Θ.T, t.boxes = s.boxes → t.rows = s.rows → ready (flatE C.Θ) (St.cellsAt C.Θ) C.Γ t g avs = some ⟨t, r.sp, r.avs, r.y⟩ := by
  obtain ⟨hm, _⟩ := ready_ok h
  have hsp := hq _ hm
  simp only [beq_self_eq_true, Bool.not_true, Bool.false_or] at hsp
  simp only [quietSpec, Bool.and_eq_true, List.isEmpty_iff, List.all_eq_true] at hsp
  obtain ⟨⟨⟨h1, h2⟩, h3⟩, h4⟩ := hsp
  unfold ready at h
  split at h <;> try (cases h; done)
  rename_i hit hh
  split at h
  · rename_i hc
    cases h
    refine ⟨rfl, h1, h2, fun q hq' => h4 q hq', fun t hb hr => ?_⟩
    unfold ready
    have : findSpec (flatE C.Θ) (St.cellsAt C.Θ) C.Γ g t avs = findSpec (flatE C.Θ) (St.cellsAt C.Θ) C.Γ g s avs := by
      refine find_congr _ fun p _ _ => ?_
      unfold entryOf
      rw [hb, hr, lendAs_congr (s := s) (avs := avs) ⟨fun _ _ _ _ => by rw [hb], fun _ _ _ _ _ _ _ _ _ _ => by rw [hr], fun _ _ _ _ => by rw [hr]⟩ _ _ _ fun _ h => h]
    rw [this, hh]
    simp only [hc, if_true]
  · rename_i hc
    split at h <;> try (cases h; done)
    split at h <;> try (cases h; done)
    cases h
    simp only at h3
    simp [h3] at hc
theorem quiet_after {s s' : St C.Θ.T} {hin : Shape} {y : Ext C.Θ.T hin} {es : Shape} {x : es.X C.Θ.T} {flat : Bool} {dst : Option Nat} (he : es.boxes = [] ∧ es.rows = []) (hb : hin.boxes = []) (hr : hin.rows = [])
    {fe : TypeId → Bool} (h : after fe s hin y (es.st x) flat dst = some s') : ∃ v, (∀ t : St C.Θ.T, after fe t hin y (es.st x) flat dst = some (t.put dst v)) ∧ s' = s.put dst v := by
  have e1 : (es.st x).boxes = [] := by unfold Shape.st Shape.mk'; simp only [he.1]; rfl
  have e2 : (es.st x).rows = [] := by unfold Shape.st Shape.mk'; simp only [he.2]; rfl
  have key : ∀ t : St C.Θ.T, after fe t hin y (es.st x) flat dst = if (flat && !((es.st x).flat fe)) = true then none else match resA [] [] (es.st x).slots with
    | some v => some (t.put dst v)
    | none => none := by
    intro t
    unfold after
    rw [e1, e2, hb, hr]
    simp only [renBs, renRs, newBs, newRs, keysOf, apartKs, boxKs, rowKs, lentBs, lentRs, List.append_nil, List.nil_append, dropBoxes_nil, dropRows_nil, Bool.and_self, if_true]
    split
    · rfl
    · cases resA (T := C.Θ.T) [] [] (es.st x).slots <;> rfl
  rw [key] at h
  split at h <;> try (cases h; done)
  rename_i hc
  split at h <;> try (cases h; done)
  rename_i v hv
  cases h
  exact ⟨v, fun t => by rw [key, if_neg hc, hv], rfl⟩
theorem quiet_step {s s1 : St C.Θ.T} {o : Oper} (hq : quiet C o = true) (h : stepD C s o = some s1) :
    ∃ v, s1 = s.put o.dst v ∧ ∀ t, Alike s t o.op.operands.toList → stepD C t o = some (t.put o.dst v) := by
  obtain ⟨dst, op, ty, pos, after, guard⟩ := o
  simp only [quiet, Bool.and_eq_true, Bool.or_eq_true, Bool.not_eq_true'] at hq
  obtain ⟨hm, hq⟩ := hq
  rcases hm with hm | hlit
  rotate_left
  · -- a literal: its elements are read from slots
    cases op <;> try (cases hlit; done)
    rename_i lt len parts
    have hst : ∀ t : St C.Θ.T, stepD C t ⟨dst, .buildSlice lt len parts, ty, pos, after, guard⟩ = match opA C.P C.Θ t ⟨dst, .buildSlice lt len parts, ty, pos, after, guard⟩ with
      | some (c, s') => cond c (some s') none
      | none => none := fun t => rfl
    rw [hst] at h
    cases dst with
    | none => simp [opA] at h
    | some d =>
      have hop : ∀ t : St C.Θ.T, opA C.P C.Θ t ⟨some d, .buildSlice lt len parts, ty, pos, after, guard⟩ = aLit C.P C.Θ t d lt len parts := fun t => rfl
      rw [hop] at h
      have hal : ∀ t : St C.Θ.T, Alike s t (Op.buildSlice lt len parts).operands.toList → ∀ (e : TypeId) (l : List (Nat × Operand)) (j : Nat), (∀ p ∈ l, p ∈ parts.toList) → litElems C.Θ t e j l = litElems C.Θ s e j l := by
        intro t ht e l
        induction l with
        | nil => intro j _; rfl
        | cons x l ih =>
          intro j hx
          obtain ⟨i, x⟩ := x
          have hev : t.ev x = s.ev x := ht.ev x (by
            have := hx (i, x) (by simp)
            simp only [Op.operands, List.mem_map]
            exact ⟨(i, x), this, rfl⟩)
          simp only [litElems]
          rw [hev, ih (j + 1) (fun p hp => hx p (by simp [hp]))]
          have : t.elemOf C.Θ e = s.elemOf C.Θ e := by
            funext cs
            unfold St.elemOf
            rw [get_rows' ht.rows]
          rw [this]
      cases ha : aLit C.P C.Θ s d lt len parts with
      | none => simp [ha] at h
      | some q =>
      obtain ⟨c, s2⟩ := q
      simp only [ha] at h
      cases c with
      | false => cases h
      | true =>
      simp only [cond_true, Option.some.injEq] at h
      subst h
      unfold aLit at ha
      split at ha <;> try (cases ha; done)
      rename_i e he
      split at ha <;> try (cases ha; done)
      rename_i inf hi
      split at ha <;> try (cases ha; done)
      rename_i hc
      split at ha <;> try (cases ha; done)
      rename_i l hl
      simp only [Option.some.injEq, Prod.mk.injEq, true_and] at ha
      refine ⟨_, ha.symm, fun t ht => ?_⟩
      rw [hst, hop]
      unfold aLit
      simp only [he, hi, if_pos hc]
      rw [hal t ht e parts.toList 0 (fun p hp => hp), hl]
      rfl
  -- what only computes, or reads
  have plainQ : ∀ (op : Op), isMem op = false → plain1 C s ⟨dst, op, ty, pos, after, guard⟩ = (match opV C.P C.Θ C.eqs s op with | some (c, v) => some (c, s.put dst v) | none => none) := fun op h => by
    unfold plain1; rw [if_neg (by simp [h])]; rfl
  have plainQ' : ∀ (t : St C.Θ.T) (op : Op), isMem op = false → plain1 C t ⟨dst, op, ty, pos, after, guard⟩ = (match opV C.P C.Θ C.eqs t op with | some (c, v) => some (c, t.put dst v) | none => none) := fun t op h => by
    unfold plain1; rw [if_neg (by simp [h])]; rfl
  have main : ∀ op, isMem op = false → (match plain1 C s ⟨dst, op, ty, pos, after, guard⟩ with | some (c, s') => cond c (some s') none | none => none : Option (St C.Θ.T)) = some s1 →
      ∃ v, s1 = s.put dst v ∧ ∀ t, Alike s t op.operands.toList → (match plain1 C t ⟨dst, op, ty, pos, after, guard⟩ with | some (c, s') => cond c (some s') none | none => none : Option (St C.Θ.T)) = some (t.put dst v) := by
    intro op hm h
    rw [plainQ op hm] at h
    cases ho : opV C.P C.Θ C.eqs s op with
    | none => simp [ho] at h
    | some q =>
      obtain ⟨c, v⟩ := q
      simp only [ho] at h
      cases c with
      | false => cases h
      | true =>
        simp only [cond_true, Option.some.injEq] at h
        refine ⟨v, h.symm, fun t ht => ?_⟩
        rw [plainQ' t op hm, opV_alike ht, ho]
        rfl
  cases op with
  | pick c x y =>
    have hst : ∀ t : St C.Θ.T, stepD C t ⟨dst, .pick c x y, ty, pos, after, guard⟩ = match t.ev c with
      | .c (.v (.bool b)) => cond b (some (t.put dst (t.ev x))) (some (t.put dst (t.ev y)))
      | _ => none := by intro t; cases c <;> rfl
    rw [hst] at h
    split at h <;> try (cases h; done)
    rename_i b hb
    refine ⟨cond b (s.ev x) (s.ev y), ?_, fun t ht => ?_⟩
    · cases b <;> (cases h; rfl)
    · rw [hst]
      have h1 := ht.ev c (by simp [Op.operands])
      have h2 := ht.ev x (by simp [Op.operands])
      have h3 := ht.ev y (by simp [Op.operands])
      rw [h1, hb, h2, h3]
      cases b <;> rfl
  | call c =>
    obtain ⟨callee, args, ats⟩ := c
    cases callee with
    | value f =>
      cases f with
      | func g =>
        simp only [List.all_eq_true] at hq
        have hst : ∀ t : St C.Θ.T, stepD C t ⟨dst, .call ⟨.value (.func g), args, ats⟩, ty, pos, after, guard⟩ = match ready (flatE C.Θ) (St.cellsAt C.Θ) C.Γ t g (args.toList.map t.ev) with
          | some r => callK (flatE C.Θ) r dst some
          | none => none := by
          intro t
          have : calleeOf C t (.func g) = some (g, [], []) := rfl
          simp only [stepD, stepC, this, List.nil_append, List.append_nil]
          rfl
        rw [hst] at h
        split at h <;> try (cases h; done)
        rename_i r hr
        have hrs := quiet_ready hq hr
        obtain ⟨z, q, x, hF, hmem, e1, haf, hto⟩ := callK_some h
        obtain ⟨h1, h2, h3, h4, h5⟩ := hrs
        obtain ⟨v, hv, hres⟩ := quiet_after (h4 q hmem) h2 h3 haf
        refine ⟨v, by rw [hres, h1], fun t ht => ?_⟩
        rw [hst]
        have : args.toList.map t.ev = args.toList.map s.ev := map_alike _ fun z hz => ht.ev z (by simp [Op.operands, Call.operands] at hz ⊢; exact .inr hz)
        rw [this, h5 t ht.boxes ht.rows]
        simp only
        unfold callK
        simp only [hF, Option.bind_some]
        rw [hto]
        simp only [e1]
        rw [hv t]
      | _ => cases hq
    | _ => exact main _ hm h
  | _ => exact main _ hm h
theorem Alike.of_put {s : St C.Θ.T} {d : Option Nat} {v : AV C.Θ.T} {l : List Operand} (h : ∀ t, d = some t → (Operand.tmp t) ∉ l) : Alike s (s.put d v) l :=
  ⟨fun x hx => ev_put s d v x fun t e he => h t e (he ▸ hx), put_boxes s d v, put_rows s d v⟩
theorem Alike.of_put' {s : St C.Θ.T} {d : Option Nat} {v : AV C.Θ.T} {l : List Operand} (h : ∀ t, d = some t → (Operand.tmp t) ∉ l) : Alike (s.put d v) s l :=
  ⟨fun x hx => (ev_put s d v x fun t e he => h t e (he ▸ hx)).symm, (put_boxes s d v).symm, (put_rows s d v).symm⟩
/-- What an operation looks at: its operands, its guard's slot. -/
structure Alike2 (ops : Array Oper) (s t : St C.Θ.T) (o : Oper) : Prop where
  a : Alike s t o.op.operands.toList
  g : ∀ j w d, o.guard = some (j, w) → (ops[j]?).bind (·.dst) = some d → t.at_ d = s.at_ d
theorem quiet_guard {ops : Array Oper} {s s1 : St C.Θ.T} {o : Oper} (hq : quiet C o = true) (h : guardD C ops s o = some s1) :
    ∃ v, s1 = s.put o.dst v ∧ ∀ t, Alike2 ops s t o → guardD C ops t o = some (t.put o.dst v) := by
  unfold guardD at h
  split at h
  · rename_i hg
    obtain ⟨v, h1, h2⟩ := quiet_step hq h
    exact ⟨v, h1, fun t ht => by unfold guardD; rw [hg]; exact h2 t ht.a⟩
  · rename_i j w hg
    split at h <;> try (cases h; done)
    rename_i d hj
    split at h <;> try (cases h; done)
    · rename_i b hb
      split at h
      · rename_i hbw
        obtain ⟨v, h1, h2⟩ := quiet_step hq h
        refine ⟨v, h1, fun t ht => ?_⟩
        unfold guardD
        simp only [hg, hj, ht.g j w d hg hj, hb, if_pos hbw]
        exact h2 t ht.a
      · rename_i hbw
        cases h
        refine ⟨.skip, rfl, fun t ht => ?_⟩
        unfold guardD
        simp only [hg, hj, ht.g j w d hg hj, hb, if_neg hbw]
    · rename_i hb
      cases h
      refine ⟨.skip, rfl, fun t ht => ?_⟩
      unfold guardD
      simp only [hg, hj, ht.g j w d hg hj, hb]
theorem mem_looks {ops : Array Oper} {o : Oper} {t : Nat} (h : t ∉ o.looksAt ops) : (Operand.tmp t) ∉ o.op.operands.toList ∧ ∀ j w, o.guard = some (j, w) → (ops[j]?).bind (·.dst) ≠ some t := by
  constructor
  · intro hm
    exact h (List.mem_append_left _ (List.mem_filterMap.2 ⟨.tmp t, hm, rfl⟩))
  · intro j w hg he
    apply h
    unfold Oper.looksAt
    rw [hg]
    simp [he]
theorem alike2_put {ops : Array Oper} {s : St C.Θ.T} {o : Oper} {d : Option Nat} {v : AV C.Θ.T} (h : ∀ t, d = some t → t ∉ o.looksAt ops) : Alike2 ops s (s.put d v) o :=
  ⟨Alike.of_put fun t e => (mem_looks (h t e)).1, fun j w d' hg hj => at_put s d v d' fun e => (mem_looks (h d' e)).2 j w hg hj⟩
theorem alike2_put' {ops : Array Oper} {s : St C.Θ.T} {o : Oper} {d : Option Nat} {v : AV C.Θ.T} (h : ∀ t, d = some t → t ∉ o.looksAt ops) : Alike2 ops (s.put d v) s o :=
  ⟨Alike.of_put' fun t e => (mem_looks (h t e)).1, fun j w d' hg hj => (at_put s d v d' fun e => (mem_looks (h d' e)).2 j w hg hj).symm⟩
/-- Two quiet operations that are apart: the later one may go first. -/
theorem swap {ops : Array Oper} {s s1 s2 : St C.Θ.T} {x y : Oper} (hx : quiet C x = true) (hy : quiet C y = true) (hap : Oper.apart ops x y = true) (h1 : guardD C ops s x = some s1) (h2 : guardD C ops s1 y = some s2) :
    ∃ s1', guardD C ops s y = some s1' ∧ guardD C ops s1' x = some s2 := by
  obtain ⟨a1, a2, a3⟩ := Oper.apart_spec hap
  obtain ⟨v, e1, g1⟩ := quiet_guard hx h1
  obtain ⟨u, e2, g2⟩ := quiet_guard hy h2
  subst e1
  have k1 := g2 s (alike2_put' a1)
  refine ⟨_, k1, ?_⟩
  rw [g1 _ (alike2_put a3), e2, put_comm s x.dst y.dst v u a2]
/-- An operation goes ahead of those that it is apart from. -/
theorem front {ops : Array Oper} {o : Oper} : ∀ (l1 l2 : List Oper) (s s' : St C.Θ.T), (∀ k ∈ l1, quiet C k = true ∧ quiet C o = true ∧ Oper.apart ops k o = true) → opsD C ops (l1 ++ o :: l2) s = some s' →
    ∃ s1, guardD C ops s o = some s1 ∧ opsD C ops (l1 ++ l2) s1 = some s' := by
  intro l1
  induction l1 with
  | nil =>
    intro l2 s s' _ h
    simp only [List.nil_append, opsD] at h
    split at h <;> try (cases h; done)
    rename_i s1 h1
    exact ⟨s1, h1, h⟩
  | cons k l1 ih =>
    intro l2 s s' hk h
    simp only [List.cons_append, opsD] at h
    split at h <;> try (cases h; done)
    rename_i s1 h1
    obtain ⟨s2, h2, h3⟩ := ih l2 s1 s' (fun k hk' => hk k (by simp [hk'])) h
    obtain ⟨q1, q2, q3⟩ := hk k (by simp)
    obtain ⟨s1', g1, g2⟩ := swap q1 q2 q3 h1 h2
    refine ⟨s1', g1, ?_⟩
    simp only [List.cons_append, opsD, g2]
    exact h3
/-! ### Who waits for whom -/
theorem anc_spec : ∀ (l : List Oper) (tab : List Nat), (∀ i, i < tab.length → (ancTab l tab).getD i 0 = tab.getD i 0) ∧
    ∀ j o, l[j]? = some o → ∃ t' : List Nat, (ancTab l tab).getD (tab.length + j) 0 = edgeMask t' o.after.toList ∧ ∀ i, i < tab.length + j → t'.getD i 0 = (ancTab l tab).getD i 0 := by
  intro l
  induction l with
  | nil => intro tab; exact ⟨fun i _ => rfl, fun j o h => by simp at h⟩
  | cons x l ih =>
    intro tab
    obtain ⟨h1, h2⟩ := ih (tab ++ [edgeMask tab x.after.toList])
    have hlen : (tab ++ [edgeMask tab x.after.toList]).length = tab.length + 1 := by simp
    have hold : ∀ i, i < tab.length → (tab ++ [edgeMask tab x.after.toList]).getD i 0 = tab.getD i 0 := fun i hi => by
      simp [List.getD_eq_getElem?_getD, List.getElem?_append_left hi]
    refine ⟨fun i hi => ?_, fun j o hj => ?_⟩
    · simp only [ancTab]
      rw [h1 i (by omega), hold i hi]
    · cases j with
      | zero =>
        simp at hj
        subst hj
        refine ⟨tab, ?_, fun i hi => ?_⟩
        · simp only [ancTab, Nat.add_zero]
          rw [h1 tab.length (by omega)]
          simp [List.getD_eq_getElem?_getD]
        · simp only [ancTab]
          rw [h1 i (by omega), hold i (by omega)]
      | succ j =>
        simp at hj
        obtain ⟨t', e1, e2⟩ := h2 j o hj
        rw [hlen] at e1 e2
        refine ⟨t', ?_, fun i hi => ?_⟩
        · simp only [ancTab]
          rw [← e1]; congr 1; omega
        · simp only [ancTab]
          exact e2 i (by omega)
theorem mask_spec (tab : List Nat) : ∀ (l : List Edge) (k : Nat), (edgeMask tab l).testBit k = true → ∃ e ∈ l, Region.binds .any e = true ∧ (e.on = k ∨ (tab.getD e.on 0).testBit k = true) := by
  intro l
  induction l with
  | nil => intro k h; simp [edgeMask] at h
  | cons e l ih =>
    intro k h
    simp only [edgeMask] at h
    split at h
    · rename_i hb
      rw [Nat.testBit_or, Nat.testBit_or, Bool.or_eq_true, Bool.or_eq_true] at h
      rcases h with (h | h) | h
      · refine ⟨e, by simp, hb, .inl ?_⟩
        rw [Nat.one_shiftLeft, Nat.testBit_two_pow] at h
        simpa using h
      · exact ⟨e, by simp, hb, .inr h⟩
      · obtain ⟨e', h1, h2⟩ := ih k h; exact ⟨e', by simp [h1], h2⟩
    · obtain ⟨e', h1, h2⟩ := ih k h; exact ⟨e', by simp [h1], h2⟩
/-- All that an operation waits for is listed with it. -/
def Shut (ops : Array Oper) (listed : Array Bool) : Prop := ∀ m o, ops[m]? = some o → listed.getD m false = true → ∀ e ∈ o.after.toList, Region.binds .any e = true → listed.getD e.on false = true
theorem anc_listed {ops : Array Oper} {listed : Array Bool} (hs : Shut ops listed) (hd : ∀ (i : Nat) (o : Oper), ops[i]? = some o → ∀ e ∈ o.after.toList, Region.binds .any e = true → e.on < i) :
    ∀ (i : Nat) (o : Oper), ops[i]? = some o → (∀ e ∈ o.after.toList, Region.binds .any e = true → listed.getD e.on false = true) → ∀ k, ((ancTab ops.toList []).getD i 0).testBit k = true → listed.getD k false = true := by
  intro i
  induction i using Nat.strongRecOn with
  | _ i ih =>
    intro o ho hl k hk
    obtain ⟨t', e1, e2⟩ := (anc_spec ops.toList []).2 i o (by simpa using ho)
    simp only [List.length_nil, Nat.zero_add] at e1 e2
    rw [e1] at hk
    obtain ⟨e, he, hb, h⟩ := mask_spec _ _ _ hk
    have hlt := hd i o ho e he hb
    rcases h with h | h
    · rw [← h]; exact hl e he hb
    · rw [e2 e.on hlt] at h
      have hsz : e.on < ops.size := Nat.lt_trans hlt (Array.getElem?_eq_some_iff.1 ho).1
      have hoe : ops[e.on]? = some ops[e.on] := Array.getElem?_eq_getElem hsz
      exact ih e.on hlt _ hoe (hs e.on _ hoe (hl e he hb)) k h
def left_ (n : Nat) (listed : Array Bool) : List Nat := (List.range n).filter fun i => !listed.getD i true
end
end Go.Den
