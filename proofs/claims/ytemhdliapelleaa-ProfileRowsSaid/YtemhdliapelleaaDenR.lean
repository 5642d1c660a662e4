/- Regions whose order is drawn, in which memory is made. -/
import Derived.Test.YtemhdliapelleaaDenM
namespace Go.Den
open Go Go.RowKit

section
variable {C : Cx} {s t s1 : St C.Θ.T}
/-- All that a value speaks of is spoken of in the state. -/
def InC (s : St C.Θ.T) (c : CV C.Θ.T) : Prop := (∀ p ∈ c.mB, p ∈ refsB C s) ∧ ∀ p ∈ c.mR, p ∈ refsR C s
def InA (s : St C.Θ.T) (v : AV C.Θ.T) : Prop := (∀ p ∈ v.mB, p ∈ refsB C s) ∧ ∀ p ∈ v.mR, p ∈ refsR C s
theorem in_ev (x : Operand) : InA s (s.ev x) := by
  cases x with
  | tmp t =>
    simp only [St.ev, St.at_, List.getD_eq_getElem?_getD]
    cases h : s.slots[t]? with
    | none => exact ⟨fun p hp => by simp [AV.mB] at hp, fun p hp => by simp [AV.mR] at hp⟩
    | some v =>
      have hm := List.mem_of_getElem? h
      exact ⟨fun p hp => List.mem_append_left _ (List.mem_flatMap.2 ⟨v, hm, hp⟩), fun p hp => List.mem_append_left _ (List.mem_flatMap.2 ⟨v, hm, hp⟩)⟩
  | const v =>
    simp only [St.ev]
    cases h : cvConst (T := C.Θ.T) v with
    | none => exact ⟨fun p hp => by simp [AV.mB] at hp, fun p hp => by simp [AV.mR] at hp⟩
    | some c =>
      unfold cvConst at h
      split at h <;> first | (cases h; done) | (cases h; exact ⟨fun p hp => by simp [AV.mB, CV.mB] at hp, fun p hp => by simp [AV.mR, CV.mR] at hp⟩)
  | func f => exact ⟨fun p hp => by simp [St.ev, AV.mB, CV.mB] at hp, fun p hp => by simp [St.ev, AV.mR, CV.mR] at hp⟩
  | global g => exact ⟨fun p hp => by simp [St.ev, AV.mB] at hp, fun p hp => by simp [St.ev, AV.mR] at hp⟩
theorem in_v (x : PV C.Θ.T) : InA s (.c (.v x)) := ⟨fun p hp => by simp [AV.mB, CV.mB] at hp, fun p hp => by simp [AV.mR, CV.mR] at hp⟩
theorem in_agg {cs : List (CV C.Θ.T)} : InA s (.agg cs) ↔ ∀ c ∈ cs, InC s c := by
  constructor
  · intro h c hc
    exact ⟨fun p hp => h.1 p (List.mem_flatMap.2 ⟨c, hc, hp⟩), fun p hp => h.2 p (List.mem_flatMap.2 ⟨c, hc, hp⟩)⟩
  · intro h
    refine ⟨fun p hp => ?_, fun p hp => ?_⟩
    · obtain ⟨c, hc, hp⟩ := List.mem_flatMap.1 hp; exact (h c hc).1 p hp
    · obtain ⟨c, hc, hp⟩ := List.mem_flatMap.1 hp; exact (h c hc).2 p hp
theorem in_cells {v : AV C.Θ.T} {cs : List (CV C.Θ.T)} (h : cellsOfAV v = some cs) (hv : InA s v) : ∀ c ∈ cs, InC s c := by
  unfold cellsOfAV at h
  split at h <;> try (cases h; done)
  · cases h; intro c hc; simp at hc; subst hc; exact hv
  · cases h; exact in_agg.1 hv
theorem in_ofCells {ty : TypeId} {cs : List (CV C.Θ.T)} {v : AV C.Θ.T} (h : ofCells C.P ty cs = some v) (hc : ∀ c ∈ cs, InC s c) : InA s v := by
  rcases ofCells_ok h with ⟨_, rfl⟩ | ⟨_, c, rfl, rfl⟩
  · exact in_agg.2 hc
  · exact hc c (by simp)
theorem in_sum {l : List (CV C.Θ.T ⊕ List (CV C.Θ.T))} (h : InA s (.tup l)) {q : CV C.Θ.T ⊕ List (CV C.Θ.T)} (hq : q ∈ l) : InA s (sumAV q) := by
  cases q with
  | inl c => exact ⟨fun p hp => h.1 p (List.mem_flatMap.2 ⟨.inl c, hq, hp⟩), fun p hp => h.2 p (List.mem_flatMap.2 ⟨.inl c, hq, hp⟩)⟩
  | inr cs => exact ⟨fun p hp => h.1 p (List.mem_flatMap.2 ⟨.inr cs, hq, hp⟩), fun p hp => h.2 p (List.mem_flatMap.2 ⟨.inr cs, hq, hp⟩)⟩
theorem in_const {l : List Value} : ∀ {cs : List (CV C.Θ.T)}, constCells l = some cs → ∀ c ∈ cs, InC s c := by
  induction l with
  | nil => intro cs h; simp [constCells] at h; subst h; intro c hc; cases hc
  | cons v l ih =>
    intro cs h
    simp only [constCells] at h
    split at h <;> try (cases h; done)
    rename_i c r hc hr
    cases h
    intro c' hc'
    rcases List.mem_cons.1 hc' with e | e
    · rw [e]
      unfold cvConst at hc
      split at hc <;> first | (cases hc; done) | (cases hc; exact ⟨fun p hp => by simp [CV.mB] at hp, fun p hp => by simp [CV.mR] at hp⟩)
    · exact ih hr c' e
theorem in_fill {ty : TypeId} : ∀ (l : List (Nat × Operand)) (cs cs' : List (CV C.Θ.T)), fillParts C.P s ty l cs = some cs' → (∀ c ∈ cs, InC s c) → ∀ c ∈ cs', InC s c := by
  intro l
  induction l with
  | nil => intro cs cs' h hc; cases h; exact hc
  | cons x l ih =>
    intro cs cs' h hc
    obtain ⟨f, x⟩ := x
    simp only [fillParts] at h
    split at h <;> try (cases h; done)
    split at h <;> try (cases h; done)
    rename_i vs hvs
    split at h <;> try (cases h; done)
    refine ih _ _ h (fun c hm => ?_)
    simp only [List.mem_append] at hm
    rcases hm with (hm | hm) | hm
    · exact hc c (List.mem_of_mem_take hm)
    · exact in_cells hvs (in_ev x) c hm
    · exact hc c (List.mem_of_mem_drop hm)
theorem in_caps : ∀ (l : List Operand) (caps : List (Nat × Nat)), capsOf s l = some caps → ∀ p ∈ caps, p ∈ refsB C s := by
  intro l
  induction l with
  | nil => intro caps h; cases h; intro p hp; cases hp
  | cons x l ih =>
    intro caps h
    simp only [capsOf] at h
    split at h <;> try (cases h; done)
    rename_i k g hx
    split at h <;> try (cases h; done)
    rename_i r hr
    cases h
    intro p hp
    rcases List.mem_cons.1 hp with e | e
    · have := (in_ev (s := s) x).1
      rw [hx] at this
      rw [e]; exact this _ (by simp [AV.mB, CV.mB])
    · exact ih r hr p e
theorem in_sums : ∀ (l : List Operand) (xs : List (CV C.Θ.T ⊕ List (CV C.Θ.T))), sumsOf s l = some xs → ∀ q ∈ xs, InA s (sumAV q) := by
  intro l
  induction l with
  | nil => intro xs h; cases h; intro p hp; cases hp
  | cons x l ih =>
    intro xs h
    simp only [sumsOf] at h
    split at h <;> try (cases h; done)
    all_goals
      rename_i c hx
      split at h <;> try (cases h; done)
      rename_i r hr
      cases h
      intro q hq
      rcases List.mem_cons.1 hq with e | e
      · have := in_ev (s := s) x
        rw [hx] at this
        rw [e]; exact this
      · exact ih r hr q e
theorem in_moved {n : Nat} {x v : AV C.Θ.T} (h : moved n x = some v) (hx : InA s x) : InA s v := by
  unfold moved at h
  split at h <;> try (cases h; done)
  · cases h; exact hx
  · cases h; exact ⟨fun p hp => by simp [AV.mB] at hp, fun p hp => by simp [AV.mR] at hp⟩
  · cases h; exact hx
theorem in_cellsAt {x : AV C.Θ.T} {cs : List (CV C.Θ.T)} (h : s.cellsAt C.Θ x = some cs) : ∀ c ∈ cs, InC s c := by
  unfold St.cellsAt at h
  have hv : ∀ l : List (PV C.Θ.T), ∀ c ∈ l.map (CV.v (T := C.Θ.T)), InC s c := by
    intro l c hc
    obtain ⟨x, _, rfl⟩ := List.mem_map.1 hc
    exact ⟨fun p hp => by simp [CV.mB] at hp, fun p hp => by simp [CV.mR] at hp⟩
  split at h <;> try (cases h; done)
  · rename_i k g off
    split at h <;> try (cases h; done)
    rename_i B hB
    split at h <;> try (cases h; done)
    cases h
    intro c hc
    have hm := mem_of_look hB
    have hc' := List.mem_of_mem_drop hc
    exact ⟨fun p hp => List.mem_append_right _ (List.mem_flatMap.2 ⟨_, hm, List.mem_flatMap.2 ⟨c, hc', hp⟩⟩), fun p hp => List.mem_append_right _ (List.mem_flatMap.2 ⟨_, hm, List.mem_flatMap.2 ⟨c, hc', hp⟩⟩)⟩
  · cases h; exact hv _
  · split at h <;> try (cases h; done)
    split at h <;> try (cases h; done)
    split at h <;> try (cases h; done)
    cases h; exact hv _
/-- What is computed, or read, speaks of what the state speaks of. -/
theorem opV_in {op : Op} {c : Bool} {v : AV C.Θ.T} (h : opV C.P C.Θ C.eqs s op = some (c, v)) : InA s v := by
  have int : ∀ k n, InA s (.c (.v (.int k n))) := fun k n => in_v _
  cases op with
  | move x => simp only [opV, Option.some.injEq, Prod.mk.injEq] at h; rw [← h.2]; exact in_ev x
  | assign x => simp only [opV, Option.some.injEq, Prod.mk.injEq] at h; rw [← h.2]; exact in_ev x
  | unOp op ty x =>
    simp only [opV, vUn] at h
    split at h <;> try (cases h; done)
    all_goals
      split at h <;> try (cases h; done)
      cases h; exact in_v _
  | binOp op ty x y ty2 =>
    simp only [opV, vBin] at h
    have nq : ∀ e, InA s (.nilq e) := fun e => ⟨fun p hp => by simp [AV.mB] at hp, fun p hp => by simp [AV.mR] at hp⟩
    have hmap : ∀ {A : Type} {r : Option (Bool × CV C.Θ.T)} , r.map (fun q => (q.1, AV.c q.2)) = some (c, v) → (∀ q, r = some q → isFlat q.2 = true) → InA s v := by
      intro _ r hr hf
      cases r with
      | none => cases hr
      | some q =>
        simp only [Option.map_some, Option.some.injEq, Prod.mk.injEq] at hr
        have := hf q rfl
        rw [← hr.2]
        cases hq : q.2 with
        | v x => exact in_v x
        | _ => rw [hq] at this; simp [isFlat] at this
    split at h <;> try (cases h; done)
    · rename_i k a k' b _ _
      split at h
      · refine hmap (A := Unit) h (fun q hq => ?_)
        unfold shift2 at hq
        split at hq <;> first | (cases hq; done) | (cases hq; rfl)
      · split at h <;> try (cases h; done)
        refine hmap (A := Unit) h (fun q hq => ?_)
        unfold int2 at hq
        split at hq <;> first | (cases hq; done) | (cases hq; rfl)
    · split at h <;> try (cases h; done)
      split at h <;> first | (cases h; done) | (cases h; exact in_v _)
    · refine hmap (A := Unit) h (fun q hq => ?_)
      unfold str2 at hq
      split at hq <;> first | (cases hq; done) | (cases hq; rfl)
    · split at h <;> try (cases h; done)
      split at h <;> first | (cases h; done) | (cases h; exact nq _)
    · split at h <;> try (cases h; done)
      split at h <;> first | (cases h; done) | (cases h; exact in_v _)
    · split at h <;> try (cases h; done)
      split at h <;> first | (cases h; done) | (cases h; exact in_v _)
    · split at h <;> try (cases h; done)
      split at h <;> first | (cases h; done) | (cases h; exact in_v _)
    · split at h <;> try (cases h; done)
      split at h <;> first | (cases h; done) | (cases h; exact in_v _)
    · split at h <;> try (cases h; done)
      rename_i a b _ _ _
      have hb : ∀ (f : Bool → Bool × AV C.Θ.T), (eqCells a b).map f = some (c, v) → (∀ r, (f r).2 = .c (.v (.bool r)) ∨ (f r).2 = .c (.v (.bool (!r)))) → InA s v := by
        intro f hh hf
        cases he : eqCells a b with
        | none => simp [he] at hh
        | some r =>
          simp only [he, Option.map_some, Option.some.injEq] at hh
          have := hf r
          rw [hh] at this
          rcases this with e | e <;> (simp only at e; rw [e]; exact in_v _)
      split at h <;> try (cases h; done)
      · exact hb _ h (fun r => .inl rfl)
      · exact hb _ h (fun r => .inr rfl)
  | convert a b x =>
    simp only [opV, vConv] at h
    split at h <;> try (cases h; done)
    all_goals
      split at h <;> try (cases h; done)
      cases h; exact in_v _
  | extract x i =>
    simp only [opV, vExtract] at h
    have hx := in_ev (s := s) x
    split at h <;> try (cases h; done)
    rename_i l hl
    rw [hl] at hx
    split at h <;> try (cases h; done)
    · rename_i q hq; cases h; exact in_sum hx (List.mem_of_getElem? hq)
    · rename_i q hq; cases h; exact in_sum hx (List.mem_of_getElem? hq)
  | nilCheck x =>
    simp only [opV, vNil] at h
    have hx := in_ev (s := s) x
    split at h <;> try (cases h; done)
    all_goals
      rename_i hl
      rw [hl] at hx
      cases h; exact hx
  | fieldAddr ty x f =>
    simp only [opV, vFieldAddr] at h
    split at h <;> try (cases h; done)
    rename_i off _ _ _
    cases hm : moved off (s.ev x) with
    | none => simp [hm] at h
    | some w => simp [hm] at h; rw [← h.2]; exact in_moved hm (in_ev x)
  | field ty x f =>
    simp only [opV, vField] at h
    have hx := in_ev (s := s) x
    split at h <;> try (cases h; done)
    rename_i cs hcs
    rw [hcs] at hx
    split at h <;> try (cases h; done)
    split at h <;> try (cases h; done)
    rename_i off ft n _ _
    cases ho : ofCells C.P ft ((cs.drop off).take n) with
    | none => simp [ho] at h
    | some w =>
      simp [ho] at h
      rw [← h.2]
      exact in_ofCells ho fun c hc => in_agg.1 hx c (List.mem_of_mem_drop (List.mem_of_mem_take hc))
  | load ty x =>
    simp only [opV, vLoad] at h
    split at h <;> try (cases h; done)
    split at h <;> try (cases h; done)
    rename_i n _ _ cs hcs
    split at h <;> try (cases h; done)
    cases ho : ofCells C.P ty (cs.take n) with
    | none => simp [ho] at h
    | some w =>
      simp [ho] at h
      rw [← h.2]
      exact in_ofCells ho fun c hc => in_cellsAt hcs c (List.mem_of_mem_take hc)
  | indexAddr ty x i =>
    simp only [opV, vIndexAddr] at h
    have hx := in_ev (s := s) x
    split at h <;> try (cases h; done)
    split at h <;> try (cases h; done)
    · split at h <;> try (cases h; done)
      split at h <;> try (cases h; done)
      · split at h <;> try (cases h; done)
        cases h
        exact ⟨fun p hp => by simp [AV.mB] at hp, fun p hp => by simp [AV.mR] at hp⟩
      · rename_i hr
        rw [hr] at hx
        split at h <;> try (cases h; done)
        split at h <;> try (cases h; done)
        split at h <;> try (cases h; done)
        cases h; exact hx
    · split at h <;> try (cases h; done)
      split at h <;> try (cases h; done)
      rename_i hr
      rw [hr] at hx
      cases h; exact hx
  | index ty x i =>
    simp only [opV, vIndex] at h
    split at h <;> try (cases h; done)
    split at h <;> try (cases h; done)
    split at h <;> try (cases h; done)
    cases h; exact in_v _
  | slice ty x lo hi mx =>
    simp only [opV, vSlice] at h
    split at h <;> try (cases h; done)
    split at h <;> try (cases h; done)
    split at h <;> try (cases h; done)
    · split at h <;> try (cases h; done)
      cases h; exact in_v _
    · split at h <;> try (cases h; done)
      split at h <;> try (cases h; done)
      split at h <;> try (cases h; done)
      cases h; exact in_v _
  | makeFunc fn first caps =>
    simp only [opV, vFunc] at h
    split at h <;> try (cases h; done)
    split at h
    · split at h <;> try (cases h; done)
      rename_i l hl
      cases h
      exact ⟨fun p hp => in_caps _ _ hl p (by simpa [AV.mB, CV.mB] using hp), fun p hp => by simp [AV.mR, CV.mR] at hp⟩
    · split at h <;> try (cases h; done)
      split at h <;> try (cases h; done)
      rename_i l hl
      cases h
      refine ⟨fun p hp => ?_, fun p hp => ?_⟩
      · obtain ⟨q, hq, hp⟩ := List.mem_flatMap.1 hp
        have := (in_sums _ _ hl q hq).1 p
        cases q <;> exact this hp
      · obtain ⟨q, hq, hp⟩ := List.mem_flatMap.1 hp
        have := (in_sums _ _ hl q hq).2 p
        cases q <;> exact this hp
  | build ty ps =>
    simp only [opV, vBuild] at h
    split at h <;> try (cases h; done)
    split at h <;> try (cases h; done)
    rename_i zs hz
    split at h <;> try (cases h; done)
    rename_i cs hcs
    cases h
    refine in_agg.2 (in_fill _ _ _ hcs ?_)
    unfold zeroCells at hz
    split at hz <;> try (cases hz; done)
    split at hz <;> try (cases hz; done)
    exact in_const hz
  | call c =>
    obtain ⟨callee, args, ats⟩ := c
    cases callee with
    | builtin b =>
      have best : ∀ (f : Int → Int → Int) (l : List (AV C.Θ.T)) (b : Bool), vBest f l = some (b, v) → InA s v := by
        intro f l b h
        unfold vBest at h
        split at h <;> first | (cases h; done) | (cases h; exact in_v _)
      cases b <;> simp only [opV] at h <;> try (cases h; done)
      case len =>
        split at h <;> try (cases h; done)
        unfold vLen at h
        split at h <;> try (cases h; done)
        all_goals
          split at h <;> try (cases h; done)
        · cases h; exact in_v _
        · cases h; exact in_v _
        · cases h; exact in_v _
        · split at h <;> try (cases h; done)
          split at h <;> try (cases h; done)
          cases h; exact in_v _
      case max => exact best _ _ _ h
      case min => exact best _ _ _ h
    | _ => simp [opV] at h
  | _ => simp [opV] at h
theorem opV_pure {op : Op} (hp : pureOp op = true) (hev : ∀ x ∈ op.operands.toList, t.ev x = s.ev x) : opV C.P C.Θ C.eqs t op = opV C.P C.Θ C.eqs s op := by
  cases op with
  | call c =>
    obtain ⟨callee, args, ats⟩ := c
    simp only [Op.operands, Call.operands] at hev
    have ha : ∀ y ∈ args.toList, t.ev y = s.ev y := fun y hy => hev y (by simp at hy ⊢; exact .inr hy)
    cases callee with
    | builtin b =>
      simp only [opV]
      rw [map_alike _ ha]
      cases b <;> first | rfl | (simp [pureOp] at hp)
    | _ => rfl
  | build ty ps =>
    simp only [opV, vBuild]
    simp only [Op.operands] at hev
    have : ∀ p ∈ ps.toList, t.ev p.2 = s.ev p.2 := fun p hp => hev p.2 (by simp; exact ⟨p.1, by simpa using hp⟩)
    split
    · split
      · rw [parts_alike ty _ _ this]
      · rfl
    · rfl
  | makeFunc fn first caps =>
    simp only [opV, vFunc]
    simp only [Op.operands] at hev
    rw [caps_alike caps.toList fun y hy => hev y (by simp at hy ⊢; exact .inr hy), sums_alike first.toList fun y hy => hev y (by simp at hy ⊢; exact .inl hy)]
  | slice ty x lo hi mx =>
    simp only [opV, vSlice]
    simp only [Op.operands] at hev
    rw [bound_alike lo fun y hy => hev y (by simp at hy ⊢; exact .inr (.inl hy)), bound_alike hi fun y hy => hev y (by simp at hy ⊢; exact .inr (.inr (.inl hy))), hev x (by simp)]
  | load ty x => simp [pureOp] at hp
  | indexAddr ty x i => simp [pureOp] at hp
  | _ => first
    | rfl
    | (simp only [opV]; simp only [Op.operands] at hev; simp [hev])
/-- What is now at a name is there too. -/
structure Now (s t : St C.Θ.T) (l : List Operand) : Prop where
  ev : ∀ x ∈ l, t.ev x = s.ev x
  box : ∀ x ∈ l, ∀ p ∈ (s.ev x).mB, ∀ B, look s.boxes p.1 = some B → B.gen = p.2 → look t.boxes p.1 = some B
  row : ∀ x ∈ l, ∀ p ∈ (s.ev x).mR, ∀ R, look s.rows p.1 = some R → R.gen = p.2 → look t.rows p.1 = some R
theorem cellsAt_now {v : AV C.Θ.T} {cs : List (CV C.Θ.T)} (hb : ∀ p ∈ v.mB, ∀ B, look s.boxes p.1 = some B → B.gen = p.2 → look t.boxes p.1 = some B) (hr : ∀ p ∈ v.mR, ∀ R, look s.rows p.1 = some R → R.gen = p.2 → look t.rows p.1 = some R)
    (h : s.cellsAt C.Θ v = some cs) : t.cellsAt C.Θ v = some cs := by
  unfold St.cellsAt at h ⊢
  split at h <;> try (cases h; done)
  · rename_i k g off
    split at h <;> try (cases h; done)
    rename_i B hB
    split at h <;> try (cases h; done)
    rename_i hg
    have := hb (k, g) (by simp [AV.mB, CV.mB]) B hB hg
    simp only at this
    simp only [this, hg, if_true]
    exact h
  · exact h
  · rename_i r g i sz off
    split at h <;> try (cases h; done)
    rename_i R hR
    split at h <;> try (cases h; done)
    rename_i hg
    have := hr (r, g) (by simp [AV.mR]) R hR hg
    simp only at this
    simp only [this, hg, if_true]
    exact h
theorem opV_read {op : Op} (hp : readOp op = true) (hn : Now s t op.operands.toList) {r : Bool × AV C.Θ.T} (h : opV C.P C.Θ C.eqs s op = some r) : opV C.P C.Θ C.eqs t op = some r := by
  obtain ⟨hev, hb, hr⟩ := hn
  cases op <;> try (simp [readOp] at hp; done)
  case load ty x =>
    simp only [opV, vLoad] at h ⊢
    have hx : x ∈ (Op.load ty x).operands.toList := by simp [Op.operands]
    rw [hev x hx]
    split at h <;> try (cases h; done)
    rename_i hs
    split at h <;> try (cases h; done)
    rename_i cs hcs
    rw [cellsAt_now (hb x hx) (hr x hx) hcs]
    exact h
  case indexAddr ty x i =>
    simp only [opV, vIndexAddr] at h ⊢
    have hx : x ∈ (Op.indexAddr ty x i).operands.toList := by simp [Op.operands]
    have hi : i ∈ (Op.indexAddr ty x i).operands.toList := by simp [Op.operands]
    rw [hev x hx, hev i hi]
    split at h <;> try (cases h; done)
    split at h <;> try (cases h; done)
    · rename_i he
      split at h <;> try (cases h; done)
      rename_i hz
      simp only [hz, if_true]
      split at h <;> try (cases h; done)
      · exact h
      · rename_i q g hq
        split at h <;> try (cases h; done)
        rename_i R hR
        split at h <;> try (cases h; done)
        rename_i hg
        have := hr x hx (q, g) (by rw [hq]; simp [AV.mR, CV.mR]) R hR hg
        simp only at this
        simp only [this, hg, if_true]
        exact h
    · exact h
  case call c =>
    obtain ⟨callee, args, ats⟩ := c
    cases callee <;> try (simp [readOp] at hp; done)
    rename_i b
    cases b <;> try (simp [readOp] at hp; done)
    simp only [opV] at h ⊢
    split at h <;> try (cases h; done)
    rename_i x ty tys hl ht
    have hx : x ∈ (Op.call ⟨.builtin .len, args, ats⟩).operands.toList := by simp [Op.operands, Call.operands, ← Array.mem_toList_iff, hl]
    simp only [hev x hx]
    unfold vLen at h ⊢
    split at h <;> try (cases h; done)
    · exact h
    · exact h
    · exact h
    · rename_i q g hq
      split at h <;> try (cases h; done)
      rename_i hu
      split at h <;> try (cases h; done)
      rename_i R hR
      split at h <;> try (cases h; done)
      rename_i hg
      have := hr x hx (q, g) (by rw [hq]; simp [AV.mR, CV.mR]) R hR hg
      simp only at this
      simp only [this, hg, if_true]
      exact h
/-! ### Calls of what only reads -/
theorem get_row_congr {R R' : List (Nat × RowS C.Θ.T)} {sl sl' : List (AV C.Θ.T)} {B B' : List (Nat × BoxS C.Θ.T)} (l : Leaf) (c : CV C.Θ.T) (h : ∀ p ∈ c.mR, look R' p.1 = look R p.1) :
    St.get (⟨sl', B', R'⟩ : St C.Θ.T) l c = St.get ⟨sl, B, R⟩ l c := by
  cases c with
  | row r g => simp only [St.get]; rw [h (r, g) (by simp [CV.mR])]
  | _ => rfl
theorem htget_congr {g g' : (l : Leaf) → CV C.Θ.T → Option (l.Ty C.Θ.T)} : ∀ (ls : List Leaf) (cs : List (CV C.Θ.T)), (∀ l, ∀ c ∈ cs, g' l c = g l c) → HT.get g' ls cs = HT.get g ls cs := by
  intro ls
  induction ls with
  | nil => intro cs _; cases cs <;> simp [HT.get]
  | cons l ls ih =>
    intro cs h
    cases cs with
    | nil => cases ls <;> simp [HT.get]
    | cons c cs =>
      cases ls with
      | nil =>
        cases cs with
        | nil => rw [HT.get_one, HT.get_one]; exact h l c (by simp)
        | cons c2 cs => simp [HT.get]
      | cons l2 ls =>
        rw [HT.get_cons, HT.get_cons, h l c (by simp), ih cs fun l c hc => h l c (by simp [hc])]
theorem ext_plain {h : Shape} (hp : plainIn h = true) {avs : List (AV C.Θ.T)} {B B' : List (Nat × BoxS C.Θ.T)} {R R' : List (Nat × RowS C.Θ.T)} (hr : ∀ v ∈ avs, ∀ p ∈ v.mR, look R' p.1 = look R p.1) :
    h.extB (⟨avs, B', R'⟩ : St C.Θ.T) = h.extB ⟨avs, B, R⟩ := by
  simp only [plainIn, Bool.and_eq_true, List.isEmpty_iff] at hp
  obtain ⟨⟨h1, h2⟩, h3⟩ := hp
  simp only [Shape.extB, Shape.extG, pickS]
  cases hpk : pickAs h.slots avs with
  | none => rfl
  | some p =>
    obtain ⟨a1, a2, a3⟩ := plain_pickAs _ _ _ h3 hpk
    simp only [Bool.false_eq_true, if_false, h1, h2, pickBs]
    have e1 : (p.and ⟨[], [], []⟩).xs = [] := by simp [Pk.and, a2]
    have e2 : (p.and ⟨[], [], []⟩).bs = [] := by simp [Pk.and, a1]
    simp only [e1, e2, xsOk, bindsOk, rowCs]
    rw [htget_congr (g := St.get ⟨avs, B, R⟩)]
    intro l c hc
    simp only [List.append_nil, List.nil_append] at hc
    refine get_row_congr l c fun q hq => ?_
    obtain ⟨v, hv, hq⟩ := a3 c hc q hq
    exact hr v hv q hq
/-- A call of what only reads, made ready: nothing is given up; and it is so in each state that reads alike. -/
theorem ready_plain {g : Nat} {avs : List (AV C.Θ.T)} {r : Ready C.Θ.T} (hq : ∀ p ∈ C.Γ, p.1 = g → plainIn p.2.hin = true ∧ flatOuts (flatE C.Θ) p.2.outs = true) (h : ready (flatE C.Θ) (St.cellsAt C.Θ) C.Γ s g avs = some r) :
    r.s = s ∧ (g, r.sp) ∈ C.Γ ∧ ∀ t : St C.Θ.T, Shown s t avs → ready (flatE C.Θ) (St.cellsAt C.Θ) C.Γ t g avs = some ⟨t, r.sp, r.avs, r.y⟩ := by
  obtain ⟨hm, _⟩ := ready_ok h
  unfold ready at h
  split at h <;> try (cases h; done)
  rename_i hit hh
  have hm' : (g, hit.sp) ∈ C.Γ := find_mem _ _ hh
  have hf := (hq _ hm' rfl).2
  simp only at hf
  rw [if_pos (by simp [hf])] at h
  cases h
  refine ⟨rfl, hm, fun t ht => ?_⟩
  unfold ready
  have : findSpec (flatE C.Θ) (St.cellsAt C.Θ) C.Γ g t avs = findSpec (flatE C.Θ) (St.cellsAt C.Θ) C.Γ g s avs := by
    refine find_congr _ fun p hp hg => ?_
    unfold entryOf
    rw [lendAs_congr ht _ _ _ fun _ h => h]
    rw [ext_plain (hq p hp hg).1 (B := s.boxes) (R := s.rows) (B' := t.boxes) (R' := t.rows) ht.row]
  rw [this, hh]
  simp only [hf, Bool.true_or, if_true]
end
end Go.Den
