/- Regions whose order is drawn, in which memory is made: two steps change places. -/
import Derived.Test.YtemhdliapelleaaDenW
namespace Go.Den
open Go Go.RowKit

section
variable {C : Cx} {s t s1 : St C.Θ.T} {ops : Array Oper}
/-- What an operation looks at in slots is the same. -/
structure Looks (ops : Array Oper) (s t : St C.Θ.T) (o : Oper) : Prop where
  ev : ∀ x ∈ o.op.operands.toList, t.ev x = s.ev x
  g : ∀ j w d, o.guard = some (j, w) → (ops[j]?).bind (·.dst) = some d → t.at_ d = s.at_ d
theorem looks_of {o : Oper} (h : ∀ i, i ∈ o.looksAt ops → t.at_ i = s.at_ i) : Looks ops s t o := by
  refine ⟨fun x hx => ?_, fun j w d hg hj => h d ?_⟩
  · cases x with
    | tmp i => exact h i (List.mem_append_left _ (List.mem_filterMap.2 ⟨.tmp i, hx, rfl⟩))
    | _ => rfl
  · unfold Oper.looksAt
    rw [hg]
    simp [hj]
theorem read_guard {o : Oper} {k : Kd} (hk : kindOf C o = k) (hk' : k = .P ∨ k = .Q ∨ k = .QC) (h : guardD C ops s o = some s1) :
    ∃ v, s1 = s.put o.dst v ∧ InA s v ∧ ∀ t, Looks ops s t o → MemR k s t o.op.operands.toList → guardD C ops t o = some (t.put o.dst v) := by
  have skp : InA s (.skip : AV C.Θ.T) := in_none ⟨rfl, rfl⟩
  unfold guardD at h
  split at h
  · rename_i hg
    obtain ⟨v, h1, h2, h3⟩ := read_step hk hk' h
    exact ⟨v, h1, h2, fun t ht hm => by unfold guardD; rw [hg]; exact h3 t ht.ev hm⟩
  · rename_i j w hg
    split at h <;> try (cases h; done)
    rename_i d hj
    split at h <;> try (cases h; done)
    · rename_i b hb
      split at h
      · rename_i hbw
        obtain ⟨v, h1, h2, h3⟩ := read_step hk hk' h
        refine ⟨v, h1, h2, fun t ht hm => ?_⟩
        unfold guardD
        simp only [hg, hj, ht.g j w d hg hj, hb, if_pos hbw]
        exact h3 t ht.ev hm
      · rename_i hbw
        cases h
        refine ⟨.skip, rfl, skp, fun t ht _ => ?_⟩
        unfold guardD
        simp only [hg, hj, ht.g j w d hg hj, hb, if_neg hbw]
    · rename_i hb
      cases h
      refine ⟨.skip, rfl, skp, fun t ht _ => ?_⟩
      unfold guardD
      simp only [hg, hj, ht.g j w d hg hj, hb]
/-- What a step does, to any state that looks alike. -/
structure Eff (C : Cx) where
  v : AV C.Θ.T
  fB : List (Nat × BoxS C.Θ.T) → List (Nat × BoxS C.Θ.T)
  fR : List (Nat × RowS C.Θ.T) → List (Nat × RowS C.Θ.T)
def Eff.on (e : Eff C) (d : Option Nat) (s : St C.Θ.T) : St C.Θ.T := ⟨(s.put d e.v).slots, e.fB s.boxes, e.fR s.rows⟩
def MemK (L : List Oper) (k : Kd) (s t : St C.Θ.T) (l : List Operand) : Prop := match k with
  | .B => Tame L t
  | .A => t.rows = s.rows ∧ Tame L t
  | .F => (t.rows = s.rows ∧ Tame L t) ∧ ∀ x ∈ l, ∀ p ∈ (s.ev x).mB, look t.boxes p.1 = look s.boxes p.1
  | k => MemR k s t l
/-- What is said of memory behind a step. -/
structure Info (k : Kd) (s s1 : St C.Θ.T) : Prop where
  b : ∀ p ∈ refsB C s, look s1.boxes p.1 = look s.boxes p.1
  r : ∀ p ∈ refsR C s, look s1.rows p.1 = look s.rows p.1 ∨ (k = .A ∧ ∀ R1, look s1.rows p.1 = some R1 → p.2 < R1.gen)
  eb : k ≠ .B → s1.boxes = s.boxes
  er : k ≠ .A → k ≠ .F → s1.rows = s.rows
theorem eff_put {d : Option Nat} {v : AV C.Θ.T} : s.put d v = Eff.on ⟨v, id, id⟩ d s := by
  cases d <;> rfl
theorem step_any {o : Oper} {k : Kd} {L : List Oper} (hk : kindOf C o = k) (hn : k ≠ .no) (hT : k.grow = true → Tame L s ∧ o ∈ L) (h : guardD C ops s o = some s1) :
    ∃ e : Eff C, s1 = e.on o.dst s ∧ (k ≠ .B → e.fB = id) ∧ (k ≠ .A → k ≠ .F → e.fR = id) ∧ Info k s s1 ∧
      ∀ t, Looks ops s t o → MemK L k s t o.op.operands.toList → guardD C ops t o = some (e.on o.dst t) := by
  have rd : (k = .P ∨ k = .Q ∨ k = .QC) → ∃ e : Eff C, s1 = e.on o.dst s ∧ (k ≠ .B → e.fB = id) ∧ (k ≠ .A → k ≠ .F → e.fR = id) ∧ Info k s s1 ∧
      ∀ t, Looks ops s t o → MemK L k s t o.op.operands.toList → guardD C ops t o = some (e.on o.dst t) := by
    intro hk'
    obtain ⟨v, h1, h2, h3⟩ := read_guard hk hk' h
    refine ⟨⟨v, id, id⟩, by rw [h1, eff_put], fun _ => rfl, fun _ _ => rfl, ?_, fun t ht hm => ?_⟩
    · rw [h1]
      exact ⟨fun p _ => by rw [put_boxes], fun p _ => .inl (by rw [put_rows]), fun _ => put_boxes _ _ _, fun _ _ => put_rows _ _ _⟩
    · rw [← eff_put]
      refine h3 t ht ?_
      rcases hk' with rfl | rfl | rfl <;> exact hm
  cases k with
  | P => exact rd (.inl rfl)
  | Q => exact rd (.inr (.inl rfl))
  | QC => exact rd (.inr (.inr rfl))
  | no => exact absurd rfl hn
  | B =>
    obtain ⟨hTm, ho⟩ := hT rfl
    obtain ⟨d, hd, hg, hop⟩ := kind_B hk
    have hbk : d ∈ bK C o := by unfold bK; rw [hk, hd]; simp
    have hgd : ∀ t : St C.Θ.T, guardD C ops t o = stepD C t o := fun t => by unfold guardD; rw [hg]
    rw [hgd] at h
    obtain ⟨ty, cs, h1, h2, h3⟩ := box_step hd hop h
    have hnb := hTm.noB ho hbk
    refine ⟨⟨.c (.box d (s.nextB d) 0), fun B => keep B d ⟨s.nextB d, ty, cs⟩, id⟩, ?_, fun hc => absurd rfl hc, fun _ _ => rfl, ?_, fun t ht hm => ?_⟩
    · rw [h1, hd]; rfl
    · rw [h1]
      refine ⟨fun p hp => ?_, fun p hp => .inl rfl, fun hc => absurd rfl hc, fun _ _ => rfl⟩
      simp only
      rw [look_keep, if_neg]
      intro e
      exact (hTm.rb p hp).2 (by rw [← e]; exact hTm.kb o ho d hbk) o ho (e ▸ hbk)
    · have hm' : Tame L t := hm
      have := hm'.noB ho hbk
      rw [hgd, h3 t ht.ev (by rw [this.1, hnb.1]) (by rw [hnb.1]; exact this.2), hd]
      rfl
  | A =>
    obtain ⟨hTm, ho⟩ := hT rfl
    obtain ⟨d, hd, hg, _⟩ := kind_A hk
    have hgd : ∀ t : St C.Θ.T, guardD C ops t o = stepD C t o := fun t => by unfold guardD; rw [hg]
    rw [hgd] at h
    obtain ⟨v, R', N, h1, h2, h3, h4⟩ := app_step hTm ho hk h
    refine ⟨⟨v, id, fun _ => R'⟩, by rw [h1]; rfl, fun _ => rfl, fun hc _ => absurd rfl hc, ?_, fun t ht hm => ?_⟩
    · rw [h1]
      refine ⟨fun p hp => rfl, fun p hp => ?_, fun _ => rfl, fun hc _ => absurd rfl hc⟩
      by_cases hN : N p.1
      · right
        refine ⟨rfl, fun R1 hR1 => ?_⟩
        obtain ⟨R2, hR2, hlt⟩ := h2.on _ hN
        simp only at hR1
        rw [hR2] at hR1
        cases hR1
        exact hlt p hp rfl
      · exact .inl (h2.off _ hN)
    · rw [hgd, h4 t ht.ev hm.1 hm.2]; rfl
  | F =>
    obtain ⟨hTm, ho⟩ := hT rfl
    obtain ⟨d, hd, hg, _⟩ := kind_F hk
    have hgd : ∀ t : St C.Θ.T, guardD C ops t o = stepD C t o := fun t => by unfold guardD; rw [hg]
    rw [hgd] at h
    obtain ⟨v, R', N, h1, h2, h3, h4⟩ := fresh_step hTm ho hk h
    refine ⟨⟨v, id, fun _ => R'⟩, by rw [h1]; rfl, fun _ => rfl, fun _ hc => absurd rfl hc, ?_, fun t ht hm => ?_⟩
    · rw [h1]
      refine ⟨fun p hp => rfl, fun p hp => .inl ?_, fun _ => rfl, fun _ hc => absurd rfl hc⟩
      refine h2.off _ fun hN => ?_
      have := h3 _ hN
      exact ((hTm.rr p hp).2 (hTm.kf o ho _ this) o ho).2 this
    · rw [hgd, h4 t ht.ev hm.1.1 hm.1.2 hm.2]; rfl
/-- Keys of two operations are apart. -/
structure KApart (C : Cx) (o o' : Oper) : Prop where
  b : ∀ k ∈ bK C o, k ∉ bK C o'
  f : ∀ k ∈ fK C o, k ∉ fK C o'
  a : ∀ k ∈ aK C o, k ∉ fK C o'
  a' : ∀ k ∈ aK C o', k ∉ fK C o
theorem KApart.symm {o o' : Oper} (h : KApart C o o') : KApart C o' o :=
  ⟨fun k hk hk' => h.b k hk' hk, fun k hk hk' => h.f k hk' hk, h.a', h.a⟩
theorem refs_put {d : Option Nat} {v : AV C.Θ.T} {B : List (Nat × BoxS C.Θ.T)} {R : List (Nat × RowS C.Θ.T)} : (∀ p ∈ refsB C (⟨(s.put d v).slots, B, R⟩ : St C.Θ.T), p ∈ s.slots.flatMap AV.mB ∨ p ∈ v.mB ∨ p ∈ B.flatMap fun b => b.2.cells.flatMap CV.mB) ∧
    ∀ p ∈ refsR C (⟨(s.put d v).slots, B, R⟩ : St C.Θ.T), p ∈ s.slots.flatMap AV.mR ∨ p ∈ v.mR ∨ p ∈ B.flatMap fun b => b.2.cells.flatMap CV.mR := by
  have sl : ∀ {X : Type} (f : AV C.Θ.T → List X), ∀ p ∈ (s.put d v).slots.flatMap f, p ∈ s.slots.flatMap f ∨ p ∈ f v := by
    intro X f p hp
    cases d with
    | none => exact .inl hp
    | some d =>
      obtain ⟨a, ha, hpa⟩ := List.mem_flatMap.1 hp
      rcases List.mem_or_eq_of_mem_set ha with h | h
      · exact .inl (List.mem_flatMap.2 ⟨a, h, hpa⟩)
      · rw [h] at hpa; exact .inr hpa
  constructor
  · intro p hp
    rcases List.mem_append.1 hp with h | h
    · exact (sl AV.mB p h).imp id .inl
    · exact .inr (.inr h)
  · intro p hp
    rcases List.mem_append.1 hp with h | h
    · exact (sl AV.mR p h).imp id .inl
    · exact .inr (.inr h)
theorem mem_keep {B : Type} : ∀ (l : List (Nat × B)) (k : Nat) (b : B), ∀ x ∈ keep l k b, x = (k, b) ∨ x ∈ l := by
  intro l
  induction l with
  | nil => intro k b x hx; simp [keep] at hx; exact .inl hx
  | cons y l ih =>
    intro k b x hx
    obtain ⟨j, c⟩ := y
    simp only [keep] at hx
    split at hx
    · rename_i e
      rcases List.mem_cons.1 hx with h | h
      · left; rw [h, e]
      · right; simp [h]
    · rcases List.mem_cons.1 hx with h | h
      · right; simp [h]
      · rcases ih k b x h with h | h
        · exact .inl h
        · right; simp [h]
/-- What is about to be made stays unspoken of. -/
theorem step_tame {o : Oper} {L L' : List Oper} (hn : kindOf C o ≠ .no) (hT : Tame L s) (ho : (kindOf C o).grow = true → o ∈ L) (h : guardD C ops s o = some s1) (hs : ∀ q ∈ L', q ∈ L) (ha : ∀ q ∈ L', KApart C o q) : Tame L' s1 := by
  have rd : (kindOf C o = .P ∨ kindOf C o = .Q ∨ kindOf C o = .QC) → Tame L' s1 := by
    intro hk
    obtain ⟨v, h1, h2, _⟩ := read_guard rfl hk h
    have h1' : s1 = ⟨(s.put o.dst v).slots, s.boxes, s.rows⟩ := by
      rw [h1]; cases o.dst <;> rfl
    obtain ⟨rB, rR⟩ := refs_put (s := s) (d := o.dst) (v := v) (B := s.boxes) (R := s.rows)
    rw [h1']
    refine ⟨fun p hp => ?_, fun p hp => ?_, fun q hq => hT.kb q (hs q hq), fun q hq => hT.kf q (hs q hq)⟩
    · have : p ∈ refsB C s := by
        rcases rB p hp with h | h | h
        · exact List.mem_append_left _ h
        · exact h2.1 p h
        · exact List.mem_append_right _ h
      exact ⟨(hT.rb p this).1, fun e q hq => (hT.rb p this).2 e q (hs q hq)⟩
    · have : p ∈ refsR C s := by
        rcases rR p hp with h | h | h
        · exact List.mem_append_left _ h
        · exact h2.2 p h
        · exact List.mem_append_right _ h
      exact ⟨(hT.rr p this).1, fun e q hq => (hT.rr p this).2 e q (hs q hq)⟩
  have rows : ∀ (v : AV C.Θ.T) (R' : List (Nat × RowS C.Θ.T)) (N : Nat → Prop), s1 = ⟨(s.put o.dst v).slots, s.boxes, R'⟩ → Made s R' v N → (∀ k, N k → k ∈ fK C o ∨ k ∈ aK C o ∨ (look s.rows k).isSome = true) → Tame L' s1 := by
    intro v R' N h1 hm hN
    obtain ⟨rB, rR⟩ := refs_put (s := s) (d := o.dst) (v := v) (B := s.boxes) (R := R')
    rw [h1]
    refine ⟨fun p hp => ?_, fun p hp => ?_, fun q hq => hT.kb q (hs q hq), fun q hq k hk => ?_⟩
    · have : p ∈ refsB C s := by
        rcases rB p hp with h | h | h
        · exact List.mem_append_left _ h
        · exact hm.vb p h
        · exact List.mem_append_right _ h
      exact ⟨(hT.rb p this).1, fun e q hq => (hT.rb p this).2 e q (hs q hq)⟩
    · have old : p ∈ refsR C s → (∀ R, look R' p.1 = some R → p.2 ≤ R.gen) ∧ (look R' p.1 = none → ∀ q ∈ L', p.1 ∉ aK C q ∧ p.1 ∉ fK C q) := by
        intro this
        by_cases hNp : N p.1
        · obtain ⟨R1, hR1, hlt⟩ := hm.on _ hNp
          refine ⟨fun R hR => ?_, fun e => by rw [hR1] at e; cases e⟩
          rw [hR1] at hR
          cases hR
          have := hlt p this rfl
          omega
        · rw [hm.off _ hNp]
          exact ⟨(hT.rr p this).1, fun e q hq => (hT.rr p this).2 e q (hs q hq)⟩
      rcases rR p hp with h | h | h
      · exact old (List.mem_append_left _ h)
      · rcases hm.vr p h with h | ⟨R1, hR1, hle⟩
        · exact old h
        · refine ⟨fun R hR => ?_, fun e => by rw [hR1] at e; cases e⟩
          rw [hR1] at hR
          cases hR
          exact hle
      · exact old (List.mem_append_right _ h)
    · have h0 := hT.kf q (hs q hq) k hk
      simp only
      by_cases hNk : N k
      · exfalso
        rcases hN k hNk with h | h | h
        · exact (ha q hq).f k h hk
        · exact (ha q hq).a k h hk
        · rw [h0] at h; cases h
      · rw [hm.off _ hNk]; exact h0
  cases hk : kindOf C o with
  | P => exact rd (.inl hk)
  | Q => exact rd (.inr (.inl hk))
  | QC => exact rd (.inr (.inr hk))
  | no => exact absurd hk hn
  | B =>
    rw [hk] at ho
    have ho := ho rfl
    obtain ⟨d, hd, hg, hop⟩ := kind_B hk
    have hbk : d ∈ bK C o := by unfold bK; rw [hk, hd]; simp
    have hgd : guardD C ops s o = stepD C s o := by unfold guardD; rw [hg]
    rw [hgd] at h
    obtain ⟨ty, cs, h1, h2, _⟩ := box_step hd hop h
    have hnb := hT.noB ho hbk
    have h0 := hT.kb o ho d hbk
    have h1' : s1 = ⟨(s.put (some d) (.c (.box d (s.nextB d) 0))).slots, keep s.boxes d ⟨s.nextB d, ty, cs⟩, s.rows⟩ := h1
    obtain ⟨rB, rR⟩ := refs_put (s := s) (d := some d) (v := .c (.box d (s.nextB d) 0)) (B := keep s.boxes d ⟨s.nextB d, ty, cs⟩) (R := s.rows)
    rw [h1']
    refine ⟨fun p hp => ?_, fun p hp => ?_, fun q hq k hk' => ?_, fun q hq => hT.kf q (hs q hq)⟩
    · have old : p ∈ refsB C s → (∀ B, look (keep s.boxes d ⟨s.nextB d, ty, cs⟩) p.1 = some B → p.2 ≤ B.gen) ∧ (look (keep s.boxes d ⟨s.nextB d, ty, cs⟩) p.1 = none → ∀ q ∈ L', p.1 ∉ bK C q) := by
        intro this
        have hne : d ≠ p.1 := fun e => (hT.rb p this).2 (by rw [← e]; exact h0) o ho (e ▸ hbk)
        rw [look_keep, if_neg hne]
        exact ⟨(hT.rb p this).1, fun e q hq => (hT.rb p this).2 e q (hs q hq)⟩
      rcases rB p hp with h | h | h
      · exact old (List.mem_append_left _ h)
      · simp only [AV.mB, CV.mB, List.mem_singleton] at h
        subst h
        simp only
        rw [look_keep, if_pos rfl]
        exact ⟨fun B hB => by cases hB; exact Nat.le_refl _, fun e => by cases e⟩
      · obtain ⟨b, hb, hp⟩ := List.mem_flatMap.1 h
        rcases mem_keep _ _ _ b hb with e | e
        · subst e
          obtain ⟨c, hc, hp⟩ := List.mem_flatMap.1 hp
          exact old ((h2 c hc).1 p hp)
        · exact old (List.mem_append_right _ (List.mem_flatMap.2 ⟨b, e, hp⟩))
    · have : p ∈ refsR C s := by
        rcases rR p hp with h | h | h
        · exact List.mem_append_left _ h
        · simp [AV.mR, CV.mR] at h
        · obtain ⟨b, hb, hp⟩ := List.mem_flatMap.1 h
          rcases mem_keep _ _ _ b hb with e | e
          · subst e
            obtain ⟨c, hc, hp⟩ := List.mem_flatMap.1 hp
            exact (h2 c hc).2 p hp
          · exact List.mem_append_right _ (List.mem_flatMap.2 ⟨b, e, hp⟩)
      exact ⟨(hT.rr p this).1, fun e q hq => (hT.rr p this).2 e q (hs q hq)⟩
    · have hne : d ≠ k := fun e => (ha q hq).b d hbk (e ▸ hk')
      simp only
      rw [look_keep, if_neg hne]
      exact hT.kb q (hs q hq) k hk'
  | A =>
    rw [hk] at ho
    obtain ⟨d, hd, hg, _⟩ := kind_A hk
    have hgd : guardD C ops s o = stepD C s o := by unfold guardD; rw [hg]
    rw [hgd] at h
    obtain ⟨v, R', N, h1, h2, h3, _⟩ := app_step hT (ho rfl) hk h
    exact rows v R' N h1 h2 fun k hk => .inr (h3 k hk)
  | F =>
    rw [hk] at ho
    obtain ⟨d, hd, hg, _⟩ := kind_F hk
    have hgd : guardD C ops s o = stepD C s o := by unfold guardD; rw [hg]
    rw [hgd] at h
    obtain ⟨v, R', N, h1, h2, h3, _⟩ := fresh_step hT (ho rfl) hk h
    exact rows v R' N h1 h2 fun k hk => .inl (h3 k hk)
/-- Two operations that may change places. -/
theorem swap2 {s2 : St C.Θ.T} {x y : Oper} (hc : (kindOf C x).comm (kindOf C y) = true) (hap : Oper.apart ops x y = true) (hka : KApart C x y) (hT : ((kindOf C x).grow || (kindOf C y).grow) = true → Tame [x, y] s) (h1 : guardD C ops s x = some s1) (h2 : guardD C ops s1 y = some s2) :
    ∃ s1', guardD C ops s y = some s1' ∧ guardD C ops s1' x = some s2 := by
  obtain ⟨a1, a2, a3⟩ := Oper.apart_spec hap
  have hnx : kindOf C x ≠ .no := fun e => by rw [e] at hc; simp [Kd.comm] at hc
  have hny : kindOf C y ≠ .no := fun e => by rw [e] at hc; cases hx : kindOf C x <;> simp [hx, Kd.comm] at hc
  have hTx : (kindOf C x).grow = true → Tame [x] s ∧ x ∈ [x] := fun h => ⟨(hT (by simp [h])).sub (by simp), by simp⟩
  have hTy : (kindOf C y).grow = true → Tame [y] s ∧ y ∈ [y] := fun h => ⟨(hT (by simp [h])).sub (by simp), by simp⟩
  obtain ⟨ex, e1, xB, xR, xI, xt⟩ := step_any (L := [x]) rfl hnx hTx h1
  have hTy1 : (kindOf C y).grow = true → Tame [y] s1 ∧ y ∈ [y] := fun h => ⟨step_tame hnx (hT (by simp [h])) (fun _ => by simp) h1 (by simp) (by simp [hka]), by simp⟩
  obtain ⟨ey, e2, yB, yR, yI, yt⟩ := step_any (L := [y]) rfl hny hTy1 h2
  -- slots
  have at1 : ∀ i, x.dst ≠ some i → s1.at_ i = s.at_ i := fun i hi => by
    rw [e1]; exact at_put s x.dst ex.v i hi
  have l1 : Looks ops s1 s y := looks_of fun i hi => (at1 i fun e => a1 i e hi).symm
  have ev1 : ∀ z ∈ y.op.operands.toList, s1.ev z = s.ev z := fun z hz => (l1.ev z hz).symm
  have m1 : MemK [y] (kindOf C y) s1 s y.op.operands.toList := by
    cases hy : kindOf C y with
    | P => exact trivial
    | Q =>
      refine ⟨fun z hz p hp B hB hg => ?_, fun z hz p hp R hR hg => ?_⟩
      · rw [ev1 z hz] at hp
        rw [← xI.b p ((in_ev z).1 p hp)]; exact hB
      · rw [ev1 z hz] at hp
        rcases xI.r p ((in_ev z).2 p hp) with h | ⟨_, h⟩
        · rw [← h]; exact hR
        · have := h R hR; omega
    | QC =>
      have rr : ∀ p ∈ refsR C s, look s.rows p.1 = look s1.rows p.1 := fun p hp => by
        rcases xI.r p hp with h | ⟨hA, _⟩
        · exact h.symm
        · rw [hA, hy] at hc; simp [Kd.comm] at hc
      refine ⟨fun v hv p hp => ?_, fun v hv p hp B hB c hcm q hq => ?_, fun v hv p hp => ?_⟩
      all_goals
        obtain ⟨z, hz, rfl⟩ := List.mem_map.1 hv
        rw [ev1 z hz] at hp
      · exact (xI.b p ((in_ev z).1 p hp)).symm
      · rw [xI.b p ((in_ev z).1 p hp)] at hB
        exact rr q (List.mem_append_right _ (List.mem_flatMap.2 ⟨_, mem_of_look hB, List.mem_flatMap.2 ⟨c, hcm, hq⟩⟩))
      · exact rr p ((in_ev z).2 p hp)
    | B => exact (hTy (by rw [hy]; rfl)).1
    | A =>
      refine ⟨(xI.er ?_ ?_).symm, (hTy (by rw [hy]; rfl)).1⟩ <;> (intro e; rw [e, hy] at hc; simp [Kd.comm] at hc)
    | F =>
      refine ⟨⟨(xI.er ?_ ?_).symm, (hTy (by rw [hy]; rfl)).1⟩, fun z hz p hp => ?_⟩
      · intro e; rw [e, hy] at hc; simp [Kd.comm] at hc
      · intro e; rw [e, hy] at hc; simp [Kd.comm] at hc
      · rw [ev1 z hz] at hp
        exact (xI.b p ((in_ev z).1 p hp)).symm
    | no => exact absurd hy hny
  have k1 := yt s l1 m1
  refine ⟨_, k1, ?_⟩
  obtain ⟨_, _, _, _, yI', _⟩ := step_any (L := [y]) rfl hny hTy k1
  have l2 : Looks ops s (ey.on y.dst s) x := looks_of fun i hi => at_put s y.dst ey.v i fun e => a3 i e hi
  have m2 : MemK [x] (kindOf C x) s (ey.on y.dst s) x.op.operands.toList := by
    have tx : (kindOf C x).grow = true → Tame [x] (ey.on y.dst s) := fun h => step_tame hny (hT (by simp [h])) (fun _ => by simp) k1 (by simp) (by simp [hka.symm])
    cases hx : kindOf C x with
    | P => exact trivial
    | Q =>
      refine ⟨fun z hz p hp B hB hg => ?_, fun z hz p hp R hR hg => ?_⟩
      · rw [yI'.b p ((in_ev z).1 p hp)]; exact hB
      · rcases yI'.r p ((in_ev z).2 p hp) with h | ⟨hA, _⟩
        · rw [h]; exact hR
        · rw [hA, hx] at hc; simp [Kd.comm] at hc
    | QC =>
      have rr : ∀ p ∈ refsR C s, look (ey.on y.dst s).rows p.1 = look s.rows p.1 := fun p hp => by
        rcases yI'.r p hp with h | ⟨hA, _⟩
        · exact h
        · rw [hA, hx] at hc; simp [Kd.comm] at hc
      refine ⟨fun v hv p hp => ?_, fun v hv p hp B hB c hcm q hq => ?_, fun v hv p hp => ?_⟩
      all_goals obtain ⟨z, hz, rfl⟩ := List.mem_map.1 hv
      · exact yI'.b p ((in_ev z).1 p hp)
      · exact rr q (List.mem_append_right _ (List.mem_flatMap.2 ⟨_, mem_of_look hB, List.mem_flatMap.2 ⟨c, hcm, hq⟩⟩))
      · exact rr p ((in_ev z).2 p hp)
    | B => exact tx (by rw [hx]; rfl)
    | A =>
      refine ⟨yI'.er ?_ ?_, tx (by rw [hx]; rfl)⟩ <;> (intro e; rw [e, hx] at hc; simp [Kd.comm] at hc)
    | F =>
      refine ⟨⟨yI'.er ?_ ?_, tx (by rw [hx]; rfl)⟩, fun z hz p hp => yI'.b p ((in_ev z).1 p hp)⟩ <;> (intro e; rw [e, hx] at hc; simp [Kd.comm] at hc)
    | no => exact absurd hx hnx
  rw [xt _ l2 m2, e2, e1]
  have hsl : (((ey.on y.dst s).put x.dst ex.v).slots) = ((ex.on x.dst s).put y.dst ey.v).slots := by
    have := put_comm s x.dst y.dst ex.v ey.v a2
    have q1 : ((ex.on x.dst s).put y.dst ey.v).slots = ((s.put x.dst ex.v).put y.dst ey.v).slots := by
      cases y.dst <;> rfl
    have q2 : ((ey.on y.dst s).put x.dst ex.v).slots = ((s.put y.dst ey.v).put x.dst ex.v).slots := by
      cases x.dst <;> rfl
    rw [q1, q2, this]
  have hB : ex.fB (ey.fB s.boxes) = ey.fB (ex.fB s.boxes) := by
    by_cases hx : kindOf C x = .B
    · have hy : kindOf C y ≠ .B := fun e => by rw [hx, e] at hc; simp [Kd.comm] at hc
      rw [yB hy]; rfl
    · rw [xB hx]; rfl
  have hR : ex.fR (ey.fR s.rows) = ey.fR (ex.fR s.rows) := by
    by_cases hx : kindOf C x = .A ∨ kindOf C x = .F
    · have hy : kindOf C y ≠ .A ∧ kindOf C y ≠ .F := by
        constructor <;> (intro e; rcases hx with hx | hx <;> (rw [hx, e] at hc; simp [Kd.comm] at hc))
      rw [yR hy.1 hy.2]; rfl
    · rw [xR (fun e => hx (.inl e)) (fun e => hx (.inr e))]; rfl
  simp only [Eff.on] at hsl ⊢
  rw [hsl]
  rw [hB, hR]
end
end Go.Den
