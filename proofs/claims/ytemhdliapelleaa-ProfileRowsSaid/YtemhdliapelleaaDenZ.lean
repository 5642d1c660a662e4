/- Regions whose order is drawn, in which memory is made. -/
import Derived.Test.YtemhdliapelleaaDenY
namespace Go.Den
open Go Go.RowKit

section
variable {C : Cx}
theorem front2 {ops : Array Oper} {o : Oper} : ∀ (l1 l2 : List Oper) (s s' : St C.Θ.T), (∀ k ∈ l1, (kindOf C k).comm (kindOf C o) = true ∧ Oper.apart ops k o = true) → (l1 ++ o :: l2).Pairwise (KApart C) →
    ((∃ q ∈ l1 ++ o :: l2, (kindOf C q).grow = true) → Tame (l1 ++ o :: l2) s) → opsD C ops (l1 ++ o :: l2) s = some s' →
    ∃ s1, guardD C ops s o = some s1 ∧ opsD C ops (l1 ++ l2) s1 = some s' := by
  intro l1
  induction l1 with
  | nil =>
    intro l2 s s' _ _ _ h
    simp only [List.nil_append, opsD] at h
    split at h <;> try (cases h; done)
    rename_i s1 h1
    exact ⟨s1, h1, h⟩
  | cons k l1 ih =>
    intro l2 s s' hk hPW hT h
    simp only [List.cons_append, opsD] at h
    split at h <;> try (cases h; done)
    rename_i s1 h1
    rw [List.cons_append, List.pairwise_cons] at hPW
    obtain ⟨q1, q2⟩ := hk k (by simp)
    have hnk : kindOf C k ≠ .no := fun e => by rw [e] at q1; simp [Kd.comm] at q1
    obtain ⟨s2, h2, h3⟩ := ih l2 s1 s' (fun k hk' => hk k (by simp [hk'])) hPW.2 (fun ⟨q, hq, hg⟩ => step_tame hnk (hT ⟨q, by simp at hq ⊢; exact .inr hq, hg⟩) (fun _ => by simp) h1 (fun z hz => by simp at hz ⊢; exact .inr hz) (fun z hz => hPW.1 z hz)) h
    obtain ⟨s1', g1, g2⟩ := swap2 q1 q2 (hPW.1 o (by simp)) (fun hg => by
      simp only [Bool.or_eq_true] at hg
      have hTT : Tame (k :: l1 ++ o :: l2) s := by
        rcases hg with hg | hg
        · exact hT ⟨k, by simp, hg⟩
        · exact hT ⟨o, by simp, hg⟩
      exact hTT.sub fun z hz => by
        simp only [List.mem_cons, List.not_mem_nil, or_false] at hz
        rcases hz with rfl | rfl <;> simp) h1 h2
    refine ⟨s1', g1, ?_⟩
    simp only [List.cons_append, opsD, g2]
    exact h3
/-! ### What 'tameOk' says -/
theorem mem_newBK : ∀ (l : List Oper) (k : Nat), (∃ o ∈ l, k ∈ bK C o) → k ∈ newBK C l := by
  intro l
  induction l with
  | nil => rintro k ⟨o, ho, _⟩; cases ho
  | cons x l ih =>
    rintro k ⟨o, ho, hk⟩
    simp only [newBK]
    rcases List.mem_cons.1 ho with e | e
    · subst e
      unfold bK at hk
      split at hk
      · rename_i d h1 h2
        simp only [h1, h2]
        simp at hk; simp [hk]
      · cases hk
    · have := ih k ⟨o, e, hk⟩
      split
      · exact List.mem_cons_of_mem _ this
      · exact this
theorem mem_newAK : ∀ (l : List Oper) (k : Nat), (∃ o ∈ l, k ∈ aK C o) → k ∈ newAK C l := by
  intro l
  induction l with
  | nil => rintro k ⟨o, ho, _⟩; cases ho
  | cons x l ih =>
    rintro k ⟨o, ho, hk⟩
    simp only [newAK]
    rcases List.mem_cons.1 ho with e | e
    · subst e
      unfold aK at hk
      split at hk
      · rename_i d h1 h2
        simp only [h1, h2]
        simp at hk; simp [hk]
      · cases hk
    · have := ih k ⟨o, e, hk⟩
      split
      · exact List.mem_cons_of_mem _ this
      · exact this
theorem mem_newFK : ∀ (l : List Oper) (k : Nat), (∃ o ∈ l, k ∈ fK C o) → k ∈ newFK C l := by
  intro l
  induction l with
  | nil => rintro k ⟨o, ho, _⟩; cases ho
  | cons x l ih =>
    rintro k ⟨o, ho, hk⟩
    simp only [newFK]
    rcases List.mem_cons.1 ho with e | e
    · subst e
      unfold fK at hk
      split at hk
      · rename_i d h1 h2
        simp only [h1, h2]
        exact List.mem_append_left _ hk
      · cases hk
    · have := ih k ⟨o, e, hk⟩
      split
      · exact List.mem_append_right _ this
      · exact this
theorem mem_growDs : ∀ (l : List Oper) (d : Nat), (∃ o ∈ l, (kindOf C o).grow = true ∧ o.dst = some d) → d ∈ growDs C l := by
  intro l
  induction l with
  | nil => rintro k ⟨o, ho, _⟩; cases ho
  | cons x l ih =>
    rintro d ⟨o, ho, hk, hd⟩
    simp only [growDs]
    rcases List.mem_cons.1 ho with e | e
    · subst e
      simp only [hk, hd]
      simp
    · have := ih d ⟨o, e, hk, hd⟩
      split
      · exact List.mem_cons_of_mem _ this
      · exact this
theorem fresh_range {d g : Nat} : ∀ (Γ : List (Nat × Go.Den.Spec C.Θ.T)), (∀ p ∈ Γ, p.1 = g → freshSpec C p.2 = true) → ∀ k ∈ freshKeys C d Γ g, 10000 + 100 * d ≤ k ∧ k < 10000 + 100 * d + 100 := by
  intro Γ
  induction Γ with
  | nil => intro _ k hk; cases hk
  | cons x Γ ih =>
    intro h k hk
    simp only [freshKeys] at hk
    have rest := ih (fun p hp => h p (by simp [hp])) k
    split at hk
    · rename_i hg
      rcases List.mem_append.1 hk with hk | hk
      · obtain ⟨q, hq, hk⟩ := List.mem_flatMap.1 hk
        obtain ⟨r, hr, rfl⟩ := List.mem_map.1 hk
        have := h x (by simp) (by simpa using hg)
        simp only [freshSpec, Bool.and_eq_true, List.all_eq_true] at this
        have := (this.2 q hq).2 r hr
        rw [Nat.blt_eq] at this
        unfold freshK
        omega
      · exact rest hk
    · exact rest hk
theorem key_range {o : Oper} : (∀ k ∈ bK C o, o.dst = some k ∧ (kindOf C o).grow = true) ∧ (∀ k ∈ aK C o, o.dst = some k ∧ (kindOf C o).grow = true) ∧ ∀ k ∈ fK C o, ∃ d : Nat, o.dst = some d ∧ (kindOf C o).grow = true ∧ (k = d ∨ (10000 + 100 * d ≤ k ∧ k < 10000 + 100 * d + 100)) := by
  refine ⟨fun k hk => ?_, fun k hk => ?_, fun k hk => ?_⟩
  · unfold bK at hk
    split at hk <;> try (cases hk; done)
    rename_i d h1 h2
    simp at hk
    exact ⟨by rw [h2, hk], by rw [h1]; rfl⟩
  · unfold aK at hk
    split at hk <;> try (cases hk; done)
    rename_i d h1 h2
    simp at hk
    exact ⟨by rw [h2, hk], by rw [h1]; rfl⟩
  · unfold fK at hk
    split at hk <;> try (cases hk; done)
    rename_i d h1 h2
    refine ⟨d, h2, by rw [h1]; rfl, ?_⟩
    split at hk
    · rename_i g hg
      obtain ⟨_, _, _, hop⟩ := kind_F h1
      rcases hop with ⟨ty, n, m, e⟩ | ⟨g', hg', hsp⟩
      · unfold calleeC at hg; rw [e] at hg; simp at hg
      · rw [hg] at hg'
        cases hg'
        exact .inr (fresh_range _ hsp k hk)
    · simp at hk; exact .inl hk
theorem pw_of : ∀ (l : List Oper), apartKs (growDs C l) = true → (∀ d ∈ growDs C l, d < 10000) → l.Pairwise (KApart C) := by
  intro l
  induction l with
  | nil => intro _ _; exact .nil
  | cons x l ih =>
    intro h hlt
    have sub : ∀ d ∈ growDs C l, d ∈ growDs C (x :: l) := fun d hd => by
      simp only [growDs]
      split
      · exact List.mem_cons_of_mem _ hd
      · exact hd
    have h' : apartKs (growDs C l) = true := by
      simp only [growDs] at h
      split at h
      · simp only [apartKs, Bool.and_eq_true] at h; exact h.2
      · exact h
    refine List.pairwise_cons.2 ⟨fun y hy => ?_, ih h' fun d hd => hlt d (sub d hd)⟩
    have ne : ∀ d d' : Nat, x.dst = some d → (kindOf C x).grow = true → y.dst = some d' → (kindOf C y).grow = true → d ≠ d' ∧ d < 10000 ∧ d' < 10000 := by
      intro d d' h1 h2 h3 h4
      have m := mem_growDs (C := C) l d' ⟨y, hy, h4, h3⟩
      refine ⟨?_, hlt d (mem_growDs _ _ ⟨x, by simp, h2, h1⟩), hlt d' (sub d' m)⟩
      rintro rfl
      simp only [growDs, h2, h1, apartKs, Bool.and_eq_true, Bool.not_eq_true'] at h
      have := h.1
      rw [List.contains_iff_mem.2 m] at this
      cases this
    obtain ⟨xb, xa, xf⟩ := key_range (C := C) (o := x)
    obtain ⟨yb, ya, yf⟩ := key_range (C := C) (o := y)
    refine ⟨fun k hk hk' => ?_, fun k hk hk' => ?_, fun k hk hk' => ?_, fun k hk hk' => ?_⟩
    · obtain ⟨h1, h2⟩ := xb k hk
      obtain ⟨h3, h4⟩ := yb k hk'
      exact (ne k k h1 h2 h3 h4).1 rfl
    · obtain ⟨d, h1, h2, h5⟩ := xf k hk
      obtain ⟨d', h3, h4, h6⟩ := yf k hk'
      obtain ⟨n1, n2, n3⟩ := ne d d' h1 h2 h3 h4
      omega
    · obtain ⟨h1, h2⟩ := xa k hk
      obtain ⟨d', h3, h4, h6⟩ := yf k hk'
      obtain ⟨n1, n2, n3⟩ := ne k d' h1 h2 h3 h4
      omega
    · obtain ⟨h3, h4⟩ := ya k hk
      obtain ⟨d, h1, h2, h5⟩ := xf k hk'
      obtain ⟨n1, n2, n3⟩ := ne d k h1 h2 h3 h4
      omega
theorem keyIn_false {B : Type} {l : List (Nat × B)} {k : Nat} (h : keyIn l k = false) : look l k = none := by
  induction l with
  | nil => rfl
  | cons x l ih =>
    obtain ⟨j, b⟩ := x
    simp only [keyIn, Bool.or_eq_false_iff, beq_eq_false_iff_ne] at h
    simp only [look]
    rw [if_neg h.1]
    exact ih h.2
theorem tame_of {s : St C.Θ.T} {l : List Oper} (h : tameOk C s l = true) : l.Pairwise (KApart C) ∧ Tame l s := by
  unfold tameOk at h
  simp only [Bool.and_eq_true, List.all_eq_true] at h
  obtain ⟨⟨h1, h2⟩, ⟨h3, h4⟩, h5, h6⟩ := h
  refine ⟨pw_of l h5 fun d hd => by have := h6 d hd; rwa [Nat.blt_eq] at this, ⟨fun p hp => ?_, fun p hp => ?_, fun o ho k hk => ?_, fun o ho k hk => ?_⟩⟩
  · have := h1 p hp
    split at this
    · rename_i B hB
      rw [Nat.ble_eq] at this
      exact ⟨fun B' hB' => (by rw [hB] at hB'; cases hB'; exact this), fun e => (by rw [hB] at e; cases e)⟩
    · rename_i hn
      refine ⟨fun B' hB' => (by rw [hn] at hB'; cases hB'), fun _ o ho hk => ?_⟩
      simp only [Bool.not_eq_true', List.contains_eq_mem, decide_eq_false_iff_not] at this
      exact this (mem_newBK l _ ⟨o, ho, hk⟩)
  · have := h2 p hp
    split at this
    · rename_i B hB
      rw [Nat.ble_eq] at this
      exact ⟨fun B' hB' => (by rw [hB] at hB'; cases hB'; exact this), fun e => (by rw [hB] at e; cases e)⟩
    · rename_i hn
      refine ⟨fun B' hB' => (by rw [hn] at hB'; cases hB'), fun _ o ho => ?_⟩
      simp only [Bool.not_eq_true', List.contains_eq_mem, decide_eq_false_iff_not] at this
      exact ⟨fun hk => this (List.mem_append_left _ (mem_newAK l _ ⟨o, ho, hk⟩)), fun hk => this (List.mem_append_right _ (mem_newFK l _ ⟨o, ho, hk⟩))⟩
  · have := h3 k (mem_newBK l k ⟨o, ho, hk⟩)
    exact keyIn_false (by simpa using this)
  · have := h4 k (mem_newFK l k ⟨o, ho, hk⟩)
    exact keyIn_false (by simpa using this)
end
end Go.Den
