/- Joins and loops' heads: a state that fits a shape may be taken for the shape's own. -/
import Derived.Test.YthkcpgiibmajhaaDenM
namespace Go.Den
open Go Go.RowKit

inductive All3 {A B D : Type} (R : A → B → D → Prop) : List A → List B → List D → Prop where
  | nil : All3 R [] [] []
  | cons {a : A} {b : B} {d : D} {xs : List A} {bs : List B} {ds : List D} (h : R a b d) (t : All3 R xs bs ds) : All3 R (a :: xs) (b :: bs) (d :: ds)
theorem All3.split {A B D : Type} {R : A → B → D → Prop} : ∀ {a1 a2 : List A} {b1 b2 : List B} {ds : List D}, All3 R (a1 ++ a2) (b1 ++ b2) ds → a1.length = b1.length → ∃ d1 d2, ds = d1 ++ d2 ∧ All3 R a1 b1 d1 ∧ All3 R a2 b2 d2 := by
  intro a1
  induction a1 with
  | nil =>
    intro a2 b1 b2 ds h hl
    cases b1 with
    | nil => exact ⟨[], ds, rfl, .nil, h⟩
    | cons b b1 => simp at hl
  | cons a a1 ih =>
    intro a2 b1 b2 ds h hl
    cases b1 with
    | nil => simp at hl
    | cons b b1 =>
      cases h with | cons h t =>
      obtain ⟨d1, d2, e, h1, h2⟩ := ih t (by simpa using hl)
      exact ⟨_ :: d1, d2, by rw [e]; rfl, .cons h h1, h2⟩
theorem All3.right {A B D : Type} {R : A → B → D → Prop} {xs : List A} {bs : List B} {ds : List D} (h : All3 R xs bs ds) : All2 (fun b d => ∃ a, R a b d) bs ds := by
  induction h with
  | nil => exact .nil
  | cons h _ ih => exact .cons ⟨_, h⟩ ih
theorem All2.split {A B : Type} {R : A → B → Prop} : ∀ {a1 a2 : List A} {bs : List B}, All2 R (a1 ++ a2) bs → ∃ b1 b2, bs = b1 ++ b2 ∧ All2 R a1 b1 ∧ All2 R a2 b2 := by
  intro a1
  induction a1 with
  | nil => intro a2 bs h; exact ⟨[], bs, rfl, .nil, h⟩
  | cons a a1 ih =>
    intro a2 bs h
    cases h with | cons h t =>
    obtain ⟨b1, b2, e, h1, h2⟩ := ih t
    exact ⟨_ :: b1, b2, by rw [e]; rfl, .cons h h1, h2⟩

section
variable {Θ : Tab} {w0 : World} {F0 : Nat → Prop} {s : St Θ.T} {tm : Array Value} {W : World} {bx : Nat → Nat → Nat} {rw_ : Nat → Nat → Value}
theorem get_all3 : ∀ (ls : List Leaf) (cs : List (CV Θ.T)) (x : HT (Leaf.Ty Θ.T) ls), HT.get s.get ls cs = some x → All3 (fun l c p => ∃ y, s.get l c = some y ∧ p = l.mk y) ls cs (HT.list Leaf.mk ls x) := by
  intro ls
  induction ls with
  | nil =>
    intro cs x h
    have := HT.get_len _ _ _ _ h
    cases cs with
    | nil => exact .nil
    | cons c cs => simp at this
  | cons l ls ih =>
    intro cs x h
    have hlen := HT.get_len _ _ _ _ h
    cases cs with
    | nil => simp at hlen
    | cons c cs =>
      cases ls with
      | nil =>
        cases cs with
        | cons c2 cs => simp at hlen
        | nil =>
          rw [HT.get_one] at h
          exact .cons ⟨x, h, rfl⟩ .nil
      | cons l2 ls =>
        rw [HT.get_cons] at h
        split at h <;> try (cases h; done)
        rename_i a ha
        split at h <;> try (cases h; done)
        rename_i xs hxs
        cases h
        exact .cons ⟨a, ha, rfl⟩ (ih cs xs hxs)
theorem pickC_len {t : CT} {c : CV Θ.T} {p : Pk Θ.T} (h : pickC s t c = some p) : t.hs.length = p.hs.length := by
  cases t <;> simp only [pickC] at h
  · cases h; rfl
  · split at h <;> cases h; rfl
  · cases h; rfl
  · split at h <;> try (cases h; done)
    split at h <;> cases h; rfl
  · split at h <;> try (cases h; done)
    split at h <;> cases h; rfl
theorem pickCs_len : ∀ (ts : List CT) (cs : List (CV Θ.T)) (p : Pk Θ.T), pickCs s ts cs = some p → (CT.hss ts).length = p.hs.length ∧ ts.length = cs.length := by
  intro ts
  induction ts with
  | nil => intro cs p h; cases cs <;> simp [pickCs] at h; subst h; exact ⟨rfl, rfl⟩
  | cons t ts ih =>
    intro cs p h
    cases cs with
    | nil => simp [pickCs] at h
    | cons c cs =>
      simp only [pickCs] at h
      split at h <;> try (cases h; done)
      rename_i p1 h1
      split at h <;> try (cases h; done)
      rename_i p2 h2
      cases h
      obtain ⟨e1, e2⟩ := ih cs p2 h2
      exact ⟨by simp [CT.hss, Pk.and, pickC_len h1, e1], by simp [e2]⟩
theorem pickA_len {t : AT} {v : AV Θ.T} {p : Pk Θ.T} (h : pickA s t v = some p) : t.hs.length = p.hs.length := by
  cases t <;> simp only [pickA] at h
  · split at h <;> try (cases h; done)
    exact pickC_len h
  · split at h <;> try (cases h; done)
    exact (pickCs_len _ _ _ h).1
  · cases h; rfl
theorem pickAs_len : ∀ (ts : List AT) (vs : List (AV Θ.T)) (p : Pk Θ.T), pickAs s ts vs = some p → (AT.hss ts).length = p.hs.length ∧ ts.length = vs.length := by
  intro ts
  induction ts with
  | nil => intro cs p h; cases cs <;> simp [pickAs] at h; subst h; exact ⟨rfl, rfl⟩
  | cons t ts ih =>
    intro cs p h
    cases cs with
    | nil => simp [pickAs] at h
    | cons c cs =>
      simp only [pickAs] at h
      split at h <;> try (cases h; done)
      rename_i p1 h1
      split at h <;> try (cases h; done)
      rename_i p2 h2
      cases h
      obtain ⟨e1, e2⟩ := ih cs p2 h2
      exact ⟨by simp [AT.hss, Pk.and, pickA_len h1, e1], by simp [e2]⟩
theorem pickBs_len : ∀ (ts : List (Nat × Nat × List CT)) (p : Pk Θ.T), pickBs s ts = some p → (boxHs ts).length = p.hs.length := by
  intro ts
  induction ts with
  | nil => intro p h; cases h; rfl
  | cons t ts ih =>
    intro p h
    simp only [pickBs] at h
    split at h <;> try (cases h; done)
    split at h <;> try (cases h; done)
    split at h <;> try (cases h; done)
    rename_i p1 h1
    split at h <;> try (cases h; done)
    rename_i p2 h2
    cases h
    simp [boxHs, Pk.and, (pickCs_len _ _ _ h1).1, ih p2 h2]
end

/-! ### What is filled in stands for what was picked -/
section
variable {Θ : Tab} {s : St Θ.T} {W : World} {F F' : Nat → Prop} {bx bx' : Nat → Nat → Nat} {rw_ rw' : Nat → Nat → Value}
/-- The new names lead where the old ones led. -/
structure Names (Θ : Tab) (s : St Θ.T) (W : World) (F F' : Nat → Prop) (bx bx' : Nat → Nat → Nat) (rw_ rw' : Nat → Nat → Value) (bs : List (Nat × CV Θ.T)) : Prop where
  box : ∀ k g, s.curB k g = true → bx' k 0 = bx k g
  row : ∀ r c u, (r, c) ∈ bs → RCV Θ W F bx rw_ c u → u = rw' r 0
abbrev Good (Θ : Tab) (W : World) (F F' : Nat → Prop) (bx : Nat → Nat → Nat) (rw_ : Nat → Nat → Value) (c : CV Θ.T) (p : PV Θ.T) : Prop := ∀ u, RCV Θ W F bx rw_ c u → Rep Θ W F' u p
theorem Names.left {bs cs : List (Nat × CV Θ.T)} (h : Names Θ s W F F' bx bx' rw_ rw' (bs ++ cs)) : Names Θ s W F F' bx bx' rw_ rw' bs := ⟨h.box, fun r c u hm => h.row r c u (List.mem_append_left _ hm)⟩
theorem Names.right {bs cs : List (Nat × CV Θ.T)} (h : Names Θ s W F F' bx bx' rw_ rw' (bs ++ cs)) : Names Θ s W F F' bx bx' rw_ rw' cs := ⟨h.box, fun r c u hm => h.row r c u (List.mem_append_right _ hm)⟩
theorem caps_are : ∀ (ks : List Nat) (l : List (Nat × Nat)), capsAre s ks l = true → (∀ k g, s.curB k g = true → bx' k 0 = bx k g) →
    (l.map fun kg => Value.pointer (some ⟨bx kg.1 kg.2, 0, none⟩)) = (ks.map fun k => (k, 0)).map fun kg => Value.pointer (some ⟨bx' kg.1 kg.2, 0, none⟩) := by
  intro ks
  induction ks with
  | nil => intro l h _; cases l with | nil => rfl | cons a l => simp [capsAre] at h
  | cons k ks ih =>
    intro l h hb
    cases l with
    | nil => simp [capsAre] at h
    | cons a l =>
      obtain ⟨k', g⟩ := a
      simp only [capsAre, Bool.and_eq_true, beq_iff_eq] at h
      obtain ⟨e, h1, h2⟩ := h
      subst e
      simp only [List.map_cons]
      rw [hb k g h1, ih l h2 hb]
theorem fillC_ok {t : CT} {c : CV Θ.T} {p : Pk Θ.T} (h : pickC s t c = some p) (hN : Names Θ s W F F' bx bx' rw_ rw' p.bs) {ps1 : List (PV Θ.T)} (hg : All2 (Good Θ W F F' bx rw_) p.hs ps1) (ps2 : List (PV Θ.T)) :
    ∃ c', fillC t (ps1 ++ ps2) = (c', ps2) ∧ ∀ u, RCV Θ W F bx rw_ c u → RCV Θ W F' bx' rw' c' u := by
  cases t with
  | hole l =>
    simp only [pickC, Option.some.injEq] at h
    subst h
    cases hg with | cons h1 t1 =>
    cases t1
    exact ⟨_, rfl, fun u hu => h1 u hu⟩
  | nil =>
    simp only [pickC] at h
    split at h <;> try (cases h; done)
    cases h
    cases hg
    exact ⟨_, rfl, fun u hu => hu⟩
  | row r =>
    simp only [pickC, Option.some.injEq] at h
    subst h
    cases hg
    exact ⟨_, rfl, fun u hu => hN.row r c u (by simp) hu⟩
  | box k off =>
    simp only [pickC] at h
    split at h <;> try (cases h; done)
    split at h <;> try (cases h; done)
    rename_i k' g off' hc
    cases h
    cases hg
    simp only [Bool.and_eq_true, beq_iff_eq] at hc
    obtain ⟨e1, e2, hcur⟩ := hc
    subst e1 e2
    refine ⟨_, rfl, fun u hu => ?_⟩
    have e : u = .pointer (some ⟨bx k g, off, none⟩) := hu
    show u = .pointer (some ⟨bx' k 0, off, none⟩)
    rw [hN.box k g hcur]; exact e
  | fn f caps =>
    simp only [pickC] at h
    split at h <;> try (cases h; done)
    split at h <;> try (cases h; done)
    rename_i f' l hc
    cases h
    cases hg
    simp only [Bool.and_eq_true, beq_iff_eq] at hc
    obtain ⟨e1, hcur⟩ := hc
    subst e1
    refine ⟨_, rfl, fun u hu => ?_⟩
    have e : u = .func (.func f) #[] (l.map fun kg => Value.pointer (some ⟨bx kg.1 kg.2, 0, none⟩)).toArray := hu
    show u = .func (.func f) #[] ((caps.map fun k => (k, 0)).map fun kg => Value.pointer (some ⟨bx' kg.1 kg.2, 0, none⟩)).toArray
    rw [← caps_are caps l hcur hN.box]; exact e
theorem fillCs_ok : ∀ (ts : List CT) (cs : List (CV Θ.T)) (p : Pk Θ.T), pickCs s ts cs = some p → Names Θ s W F F' bx bx' rw_ rw' p.bs → ∀ (ps1 : List (PV Θ.T)), All2 (Good Θ W F F' bx rw_) p.hs ps1 → ∀ ps2 : List (PV Θ.T),
    ∃ cs', fillCs ts (ps1 ++ ps2) = (cs', ps2) ∧ ∀ us, All2 (RCV Θ W F bx rw_) cs us → All2 (RCV Θ W F' bx' rw') cs' us := by
  intro ts
  induction ts with
  | nil =>
    intro cs p h _ ps1 hg ps2
    cases cs with
    | cons c cs => simp [pickCs] at h
    | nil => simp [pickCs] at h; subst h; cases hg; exact ⟨[], rfl, fun us h => by cases h; exact .nil⟩
  | cons t ts ih =>
    intro cs p h hN ps1 hg ps2
    cases cs with
    | nil => simp [pickCs] at h
    | cons c cs =>
      simp only [pickCs] at h
      split at h <;> try (cases h; done)
      rename_i p1 h1
      split at h <;> try (cases h; done)
      rename_i p2 h2
      cases h
      obtain ⟨q1, q2, e, g1, g2⟩ := All2.split hg
      subst e
      obtain ⟨c', f1, r1⟩ := fillC_ok h1 (Names.left hN) g1 (q2 ++ ps2)
      obtain ⟨cs', f2, r2⟩ := ih cs p2 h2 (Names.right hN) q2 g2 ps2
      refine ⟨c' :: cs', ?_, fun us hu => ?_⟩
      · simp only [fillCs, List.append_assoc, f1, f2]
      · cases hu with | cons a b => exact .cons (r1 _ a) (r2 _ b)
theorem fillA_ok {t : AT} {v : AV Θ.T} {p : Pk Θ.T} (h : pickA s t v = some p) (hN : Names Θ s W F F' bx bx' rw_ rw' p.bs) {ps1 : List (PV Θ.T)} (hg : All2 (Good Θ W F F' bx rw_) p.hs ps1) (ps2 : List (PV Θ.T)) :
    ∃ v', fillA t (ps1 ++ ps2) = (v', ps2) ∧ ∀ u, RAV Θ W F bx rw_ v u → RAV Θ W F' bx' rw' v' u := by
  cases t with
  | undef =>
    simp only [pickA, Option.some.injEq] at h
    subst h
    cases hg
    exact ⟨_, rfl, fun u _ => trivial⟩
  | c x =>
    simp only [pickA] at h
    split at h <;> try (cases h; done)
    obtain ⟨c', f1, r1⟩ := fillC_ok h hN hg ps2
    exact ⟨.c c', by simp only [fillA, f1], fun u hu => r1 u hu⟩
  | agg l =>
    simp only [pickA] at h
    split at h <;> try (cases h; done)
    obtain ⟨cs', f1, r1⟩ := fillCs_ok _ _ _ h hN _ hg ps2
    exact ⟨.agg cs', by simp only [fillA, f1], fun u ⟨us, e, ha⟩ => ⟨us, e, r1 us ha⟩⟩
theorem fillAs_ok : ∀ (ts : List AT) (vs : List (AV Θ.T)) (p : Pk Θ.T), pickAs s ts vs = some p → Names Θ s W F F' bx bx' rw_ rw' p.bs → ∀ (ps1 : List (PV Θ.T)), All2 (Good Θ W F F' bx rw_) p.hs ps1 → ∀ ps2 : List (PV Θ.T),
    ∃ vs', fillAs ts (ps1 ++ ps2) = (vs', ps2) ∧ vs'.length = vs.length ∧ ∀ i u, RAV Θ W F bx rw_ (vs.getD i .undef) u → RAV Θ W F' bx' rw' (vs'.getD i .undef) u := by
  intro ts
  induction ts with
  | nil =>
    intro vs p h _ ps1 hg ps2
    cases vs with
    | cons c cs => simp [pickAs] at h
    | nil => simp [pickAs] at h; subst h; cases hg; exact ⟨[], rfl, rfl, fun i u _ => by simp [RAV]⟩
  | cons t ts ih =>
    intro vs p h hN ps1 hg ps2
    cases vs with
    | nil => simp [pickAs] at h
    | cons v vs =>
      simp only [pickAs] at h
      split at h <;> try (cases h; done)
      rename_i p1 h1
      split at h <;> try (cases h; done)
      rename_i p2 h2
      cases h
      obtain ⟨q1, q2, e, g1, g2⟩ := All2.split hg
      subst e
      obtain ⟨v', f1, r1⟩ := fillA_ok h1 (Names.left hN) g1 (q2 ++ ps2)
      obtain ⟨vs', f2, l2, r2⟩ := ih vs p2 h2 (Names.right hN) q2 g2 ps2
      refine ⟨v' :: vs', ?_, by simp [l2], fun i u hu => ?_⟩
      · simp only [fillAs, List.append_assoc, f1, f2]
      · cases i with
        | zero => simpa using r1 u (by simpa using hu)
        | succ i => simpa using r2 i u (by simpa using hu)
theorem fillBs_ok : ∀ (ts : List (Nat × Nat × List CT)) (p : Pk Θ.T), pickBs s ts = some p → Names Θ s W F F' bx bx' rw_ rw' p.bs → ∀ (ps1 : List (PV Θ.T)), All2 (Good Θ W F F' bx rw_) p.hs ps1 → ∀ ps2 : List (PV Θ.T),
    ∃ bs', fillBs ts (ps1 ++ ps2) = (bs', ps2) ∧ ∀ k B', look bs' k = some B' → ∃ B, look s.boxes k = some B ∧ B'.gen = 0 ∧ B'.ty = B.ty ∧ ∀ us, All2 (RCV Θ W F bx rw_) B.cells us → All2 (RCV Θ W F' bx' rw') B'.cells us := by
  intro ts
  induction ts with
  | nil => intro p h _ ps1 hg ps2; cases h; cases hg; exact ⟨[], rfl, fun k B' h => by simp [look] at h⟩
  | cons t ts ih =>
    intro p h hN ps1 hg ps2
    simp only [pickBs] at h
    split at h <;> try (cases h; done)
    rename_i B hB
    split at h <;> try (cases h; done)
    rename_i hty
    split at h <;> try (cases h; done)
    rename_i p1 h1
    split at h <;> try (cases h; done)
    rename_i p2 h2
    cases h
    obtain ⟨q1, q2, e, g1, g2⟩ := All2.split hg
    subst e
    obtain ⟨cs', f1, r1⟩ := fillCs_ok _ _ _ h1 (Names.left hN) q1 g1 (q2 ++ ps2)
    obtain ⟨bs', f2, r2⟩ := ih p2 h2 (Names.right hN) q2 g2 ps2
    refine ⟨(t.1, ⟨0, t.2.1, cs'⟩) :: bs', ?_, fun k B' hk => ?_⟩
    · simp only [fillBs, List.append_assoc, f1, f2]
    · simp only [look] at hk
      split at hk
      · rename_i e
        subst e
        cases hk
        exact ⟨B, hB, rfl, by have := hty; simp at this; exact this.symm, r1⟩
      · exact r2 k B' hk
theorem fillRs_ok : ∀ (ts : List (Nat × Nat)) (bs : List (Nat × CV Θ.T)) (cs : List (CV Θ.T)), rowCs bs ts = some cs → ∀ (ps : List (PV Θ.T)), All3 (fun l c p => ∃ y, s.get l c = some y ∧ p = l.mk y) (rowHs ts) cs ps →
    ∀ r R', look (fillRs ts ps) r = some R' → ∃ c, look bs r = some c ∧ R'.gen = 0 ∧ s.get (.sl R'.e) c = some R'.l := by
  intro ts
  induction ts with
  | nil => intro bs cs _ ps _ r R' h; simp [fillRs, look] at h
  | cons t ts ih =>
    intro bs cs hc ps h3 r R' h
    obtain ⟨r0, e0⟩ := t
    simp only [rowCs] at hc
    split at hc <;> try (cases hc; done)
    rename_i c hl
    split at hc <;> try (cases hc; done)
    rename_i cs' hcs
    cases hc
    cases h3 with | cons h1 t1 =>
    obtain ⟨y, hy, hp⟩ := h1
    subst hp
    simp only [fillRs, look] at h
    split at h
    · rename_i e
      subst e
      cases h
      refine ⟨c, hl, rfl, ?_⟩
      rw [hy]
      simp [Leaf.mk, listOf]
      rfl
    · exact ih bs cs' hcs _ t1 r R' h
theorem pickBs_keys : ∀ (ts : List (Nat × Nat × List CT)) (p : Pk Θ.T), pickBs s ts = some p → ∀ t ∈ ts, ∃ B, look s.boxes t.1 = some B := by
  intro ts
  induction ts with
  | nil => intro p _ t ht; cases ht
  | cons t ts ih =>
    intro p h t' ht
    simp only [pickBs] at h
    split at h <;> try (cases h; done)
    rename_i B hB
    split at h <;> try (cases h; done)
    split at h <;> try (cases h; done)
    split at h <;> try (cases h; done)
    rename_i p2 h2
    rcases List.mem_cons.1 ht with e | e
    · rw [e]; exact ⟨B, hB⟩
    · exact ih p2 h2 t' e
theorem fillBs_keys : ∀ (ts : List (Nat × Nat × List CT)) (ps : List (PV Θ.T)) (k : Nat) (B' : BoxS Θ.T), look (fillBs ts ps).1 k = some B' → B'.gen = 0 ∧ ∃ t ∈ ts, t.1 = k := by
  intro ts
  induction ts with
  | nil => intro ps k B' h; simp [fillBs, look] at h
  | cons t ts ih =>
    intro ps k B' h
    simp only [fillBs, look] at h
    split at h
    · rename_i e; cases h; exact ⟨rfl, t, by simp, e⟩
    · obtain ⟨h1, t', h2, h3⟩ := ih _ k B' h
      exact ⟨h1, t', by simp [h2], h3⟩
theorem bindsOk_spec : ∀ (bs : List (Nat × CV Θ.T)), bindsOk s bs = true → (∀ p ∈ bs, bindOk s p.2 = true) ∧ (∀ p ∈ bs, ∀ q ∈ bs, p.1 ≠ q.1 → bindApart p.2 q.2 = true) ∧ ∀ p ∈ bs, ∃ c, look bs p.1 = some c ∧ (c = p.2 ∨ bindSame c p.2 = true) := by
  intro bs
  induction bs with
  | nil => intro _; exact ⟨fun p hp => (by cases hp), fun p hp => (by cases hp), fun p hp => (by cases hp)⟩
  | cons a bs ih =>
    intro h
    obtain ⟨r, c⟩ := a
    simp only [bindsOk, Bool.and_eq_true, List.all_eq_true] at h
    obtain ⟨⟨h1, h2⟩, h3⟩ := h
    obtain ⟨i1, i2, i3⟩ := ih h3
    have sym : ∀ x y : CV Θ.T, bindApart x y = true → bindApart y x = true := by
      intro x y hxy
      cases x with
      | row q g =>
        cases y with
        | row q' g' =>
          have : ¬ q = q' := by simpa [bindApart] using hxy
          simpa [bindApart] using fun e : q' = q => this e.symm
        | _ => rfl
      | _ => cases y <;> rfl
    refine ⟨fun p hp => ?_, fun p hp q hq hne => ?_, fun p hp => ?_⟩
    · rcases List.mem_cons.1 hp with e | e
      · rw [e]; exact h1
      · exact i1 p e
    · rcases List.mem_cons.1 hp with e | e
      · rcases List.mem_cons.1 hq with e' | e'
        · rw [e, e'] at hne; exact absurd rfl hne
        · have := h2 q e'
          rw [e] at hne ⊢
          rw [if_neg (by simpa using fun x => hne x.symm)] at this
          exact this
      · rcases List.mem_cons.1 hq with e' | e'
        · have := h2 p e
          rw [e'] at hne ⊢
          rw [if_neg (by simpa using hne)] at this
          exact sym _ _ this
        · exact i2 p e q e' hne
    · rcases List.mem_cons.1 hp with e | e
      · rw [e]; exact ⟨c, by simp [look], .inl rfl⟩
      · by_cases hr : r = p.1
        · have := h2 p e
          rw [if_pos (by simpa using hr.symm)] at this
          exact ⟨c, by simp [look, hr], .inr this⟩
        · obtain ⟨c', h4, h5⟩ := i3 p e
          exact ⟨c', by simp only [look]; rw [if_neg hr]; exact h4, h5⟩
end
section
variable {Θ : Tab} {w0 : World} {F0 : Nat → Prop} {s : St Θ.T} {tm : Array Value} {W : World} {bx : Nat → Nat → Nat} {rw_ : Nat → Nat → Value}
/-- What fits a shape may be taken for the shape's own state. -/
theorem ext_ok (hS : Sim Θ w0 F0 s tm W bx rw_) {h : Shape} {x : h.X Θ.T} (hx : h.ext s = some x) : ∃ bx' rw', Sim Θ w0 F0 (h.st x) tm W bx' rw' := by
  unfold Shape.ext at hx
  split at hx <;> try (cases hx; done)
  rename_i p hp
  split at hx <;> try (cases hx; done)
  rename_i q hq
  split at hx <;> try (cases hx; done)
  rename_i hok
  split at hx <;> try (cases hx; done)
  rename_i cs hcs
  simp only [Bool.and_eq_true, List.all_eq_true] at hok
  obtain ⟨hbs, hha⟩ := hok
  generalize hbsd : (p.and q).bs = bs at hbs hha hcs
  obtain ⟨b1, b2, b3⟩ := bindsOk_spec bs hbs
  -- the names
  let bx' : Nat → Nat → Nat := fun k _ => match look s.boxes k with
    | some B => bx k B.gen
    | none => 0
  let rw' : Nat → Nat → Value := fun r _ => match look bs r with
    | some (.row q g) => rw_ q g
    | _ => .slice none 0 0
  -- the holes' values
  have h3 := get_all3 _ _ _ hx
  have hpl := (pickAs_len _ _ _ hp).1
  have hql := pickBs_len _ _ hq
  obtain ⟨ps1, ps23, e1, g1, h3'⟩ := All3.split h3 hpl
  obtain ⟨ps2, ps3, e2, g2, g3⟩ := All3.split h3' hql
  subst e2
  have est : h.st x = ⟨(fillAs h.slots (ps1 ++ (ps2 ++ ps3))).1, (fillBs h.boxes (fillAs h.slots (ps1 ++ (ps2 ++ ps3))).2).1, fillRs h.rows (fillBs h.boxes (fillAs h.slots (ps1 ++ (ps2 ++ ps3))).2).2⟩ := by
    unfold Shape.st Shape.mk'
    rw [e1]
  generalize h.st x = t at est
  -- the rows
  have hrow0 : ∀ ps, All3 (fun l c p => ∃ y, s.get l c = some y ∧ p = l.mk y) (rowHs h.rows) cs ps → ∀ r R', look (fillRs h.rows ps) r = some R' → ∃ c, look bs r = some c ∧ R'.gen = 0 ∧ s.get (.sl R'.e) c = some R'.l :=
    fun ps hps => fillRs_ok h.rows bs cs hcs ps hps
  refine ⟨bx', rw', ?_⟩
  have hbox : ∀ k g, s.curB k g = true → bx' k 0 = bx k g := by
    intro k g hc
    unfold St.curB at hc
    split at hc
    · rename_i B hB
      have : B.gen = g := by simpa using hc
      simp only [bx', hB, this]
    · cases hc
  have hrowN : ∀ F : Nat → Prop, ∀ r c u, (r, c) ∈ bs → RCV Θ W F bx rw_ c u → u = rw' r 0 := by
    intro F r c u hm hu
    have hb := b1 _ hm
    obtain ⟨c', hl, hsame⟩ := b3 _ hm
    simp only at hl hb hsame
    simp only [rw', hl]
    rcases hsame with e | hsame
    · subst e
      cases c' with
      | row q g => exact hu
      | nil => exact hu
      | _ => simp [bindOk] at hb
    · cases c' <;> cases c <;> simp [bindSame] at hsame
      · exact hu
      · obtain ⟨e1, e2⟩ := hsame
        subst e1 e2
        exact hu
  -- t's keys
  have tsl : t.slots = (fillAs h.slots (ps1 ++ (ps2 ++ ps3))).1 := by rw [est]
  have tbx : t.boxes = (fillBs h.boxes (fillAs h.slots (ps1 ++ (ps2 ++ ps3))).2).1 := by rw [est]
  have trw : t.rows = fillRs h.rows (fillBs h.boxes (fillAs h.slots (ps1 ++ (ps2 ++ ps3))).2).2 := by rw [est]
  have keyB : ∀ k B', look t.boxes k = some B' → B'.gen = 0 ∧ ∃ B, look s.boxes k = some B ∧ bx' k B'.gen = bx k B.gen := by
    intro k B' hk
    rw [tbx] at hk
    obtain ⟨hg, t', ht, e⟩ := fillBs_keys _ _ _ _ hk
    obtain ⟨B, hB⟩ := pickBs_keys _ _ hq t' ht
    rw [e] at hB
    exact ⟨hg, B, hB, by simp only [bx', hB]⟩
  have hN0 : ∀ F F' : Nat → Prop, Names Θ s W F F' bx bx' rw_ rw' (p.bs ++ q.bs) := fun F F' => ⟨hbox, fun r c u hm => hrowN F r c u (by rw [← hbsd]; exact hm)⟩
  -- the third part of the fill: it depends on no choice
  have fillEnd : ∀ {ls : List Leaf}, True := fun {_} => trivial
  have rest3 : (fillBs h.boxes (fillAs h.slots (ps1 ++ (ps2 ++ ps3))).2).2 = ps3 := by
    have good : ∀ {ls : List Leaf} {cs : List (CV Θ.T)} {ps : List (PV Θ.T)}, All3 (fun l c p => ∃ y, s.get l c = some y ∧ p = l.mk y) ls cs ps → All2 (Good Θ W (fun _ => False) (fun _ => True) (fun _ _ => 0) (fun _ _ => undef)) cs ps → True := fun _ _ => trivial
    -- lengths alone
    have lenC : ∀ (t : CT) (a b : List (PV Θ.T)), a.length = t.hs.length → (fillC t (a ++ b)).2 = b := by
      intro t a b hl
      cases t with
      | hole l => cases a with | nil => simp [CT.hs] at hl | cons y a => cases a with | nil => rfl | cons z a => simp [CT.hs] at hl
      | _ => (have : a = [] := List.eq_nil_of_length_eq_zero (by simpa [CT.hs] using hl)); subst this; rfl
    have lenCs : ∀ (ts : List CT) (a b : List (PV Θ.T)), a.length = (CT.hss ts).length → (fillCs ts (a ++ b)).2 = b := by
      intro ts
      induction ts with
      | nil => intro a b hl; have : a = [] := List.eq_nil_of_length_eq_zero (by simpa [CT.hss] using hl); subst this; rfl
      | cons t ts ih =>
        intro a b hl
        simp only [CT.hss, List.length_append] at hl
        have ea : a = a.take t.hs.length ++ a.drop t.hs.length := (List.take_append_drop _ _).symm
        rw [ea, List.append_assoc]
        simp only [fillCs]
        rw [lenC t _ _ (by simp; omega), ih _ _ (by simp; omega)]
    have lenA : ∀ (t : AT) (a b : List (PV Θ.T)), a.length = t.hs.length → (fillA t (a ++ b)).2 = b := by
      intro t a b hl
      cases t with
      | undef => have : a = [] := List.eq_nil_of_length_eq_zero (by simpa [AT.hs] using hl); subst this; rfl
      | c x => exact lenC x a b hl
      | agg l => exact lenCs l a b hl
    have lenAs : ∀ (ts : List AT) (a b : List (PV Θ.T)), a.length = (AT.hss ts).length → (fillAs ts (a ++ b)).2 = b := by
      intro ts
      induction ts with
      | nil => intro a b hl; have : a = [] := List.eq_nil_of_length_eq_zero (by simpa [AT.hss] using hl); subst this; rfl
      | cons t ts ih =>
        intro a b hl
        simp only [AT.hss, List.length_append] at hl
        have ea : a = a.take t.hs.length ++ a.drop t.hs.length := (List.take_append_drop _ _).symm
        rw [ea, List.append_assoc]
        simp only [fillAs]
        rw [lenA t _ _ (by simp; omega), ih _ _ (by simp; omega)]
    have lenBs : ∀ (ts : List (Nat × Nat × List CT)) (a b : List (PV Θ.T)), a.length = (boxHs ts).length → (fillBs ts (a ++ b)).2 = b := by
      intro ts
      induction ts with
      | nil => intro a b hl; have : a = [] := List.eq_nil_of_length_eq_zero (by simpa [boxHs] using hl); subst this; rfl
      | cons t ts ih =>
        intro a b hl
        simp only [boxHs, List.length_append] at hl
        have ea : a = a.take (CT.hss t.2.2).length ++ a.drop (CT.hss t.2.2).length := (List.take_append_drop _ _).symm
        rw [ea, List.append_assoc]
        simp only [fillBs]
        rw [lenCs t.2.2 _ _ (by simp; omega), ih _ _ (by simp; omega)]
    have l1 : ps1.length = (AT.hss h.slots).length := by rw [hpl]; exact (All2.length g1.right).symm
    have l2 : ps2.length = (boxHs h.boxes).length := by rw [hql]; exact (All2.length g2.right).symm
    rw [lenAs _ _ _ l1, lenBs _ _ _ l2]
  have keyR : ∀ r R', look t.rows r = some R' → ∃ c, look bs r = some c ∧ R'.gen = 0 ∧ s.get (.sl R'.e) c = some R'.l := by
    intro r R' hr
    rw [trw, rest3] at hr
    exact hrow0 ps3 g3 r R' hr
  -- a row of t that has a block is a row of s
  have keyR2 : ∀ r R', look t.rows r = some R' → ∀ b, (rw' r R'.gen).ownBlock = some b → ∃ q R, look bs r = some (.row q R.gen) ∧ look s.rows q = some R ∧ (rw_ q R.gen).ownBlock = some b := by
    intro r R' hr b hb
    obtain ⟨c, hl, hg, _⟩ := keyR r R' hr
    simp only [rw', hl] at hb
    cases c with
    | row q g =>
      have hbo := b1 _ (mem_of_look hl)
      simp only [bindOk] at hbo
      split at hbo
      · rename_i R hR
        have : R.gen = g := by simpa using hbo
        subst this
        exact ⟨q, R, hl, hR, hb⟩
      · cases hbo
    | _ => simp [Value.ownBlock] at hb
  have hMut : ∀ b, Mut t bx' rw' b → Mut s bx rw_ b := by
    rintro b (⟨k, B', hk, e⟩ | ⟨r, R', hr, hb⟩)
    · obtain ⟨_, B, hB, e2⟩ := keyB k B' hk
      exact .inl ⟨k, B, hB, by rw [← e2]; exact e⟩
    · obtain ⟨q, R, _, hR, hb'⟩ := keyR2 r R' hr b hb
      exact .inr ⟨q, R, hR, hb'⟩
  have hFF : ∀ b, FF w0 F0 s bx rw_ W b → FF w0 F0 t bx' rw' W b := fun b hb => ⟨hb.1, hb.2.1, fun hm => hb.2.2 (hMut b hm)⟩
  have hlt : ∀ r R b, look s.rows r = some R → (rw_ r R.gen).ownBlock = some b → w0.heap.size ≤ b ∧ b < W.heap.size := by
    intro r R b hR hb
    obtain ⟨us, hown, _⟩ := hS.rows r R hR
    rcases hown.2 with ⟨hv, _⟩ | ⟨b', cap, cur, hv, h0, hh, _⟩
    · rw [hv] at hb; simp [Value.ownBlock] at hb
    · rw [hv] at hb
      have : b' = b := by simpa [Value.ownBlock] using hb
      subst this
      exact ⟨h0, (Array.getElem?_eq_some_iff.1 hh).1⟩
  -- what is picked as plain is plain
  have hgood : ∀ (l : Leaf) (c : CV Θ.T) (pv : PV Θ.T), (∃ y, s.get l c = some y ∧ pv = l.mk y) → holeApart bs c = true → Good Θ W (FF w0 F0 s bx rw_ W) (FF w0 F0 t bx' rw' W) bx rw_ c pv := by
    rintro l c pv ⟨y, hy, rfl⟩ hap u hu
    refine leaf_ok hS hFF hy hu ?_
    intro pr hpr R b hR hb
    have hl := hlt _ _ _ hR hb
    refine ⟨.inr hl.1, hl.2, ?_⟩
    cases c with
    | row q0 g0 =>
      simp only [CV.mR, List.mem_singleton] at hpr
      subst hpr
      simp only at hR hb
      rintro (⟨k, B', hk, e⟩ | ⟨r, R', hr, hb'⟩)
      · obtain ⟨_, B, hB, e2⟩ := keyB k B' hk
        exact hS.br k B q0 R hB hR (by rw [hb, ← e, e2])
      · obtain ⟨q, R2, hlk, hR2, hb2⟩ := keyR2 r R' hr b hb'
        have := hS.rr q0 R q R2 b hR hR2 hb hb2
        simp only [holeApart, List.all_eq_true] at hap
        have h4 := hap _ (mem_of_look hlk)
        simp at h4
        exact h4 this
    | _ => simp [CV.mR] at hpr
  have hgoods : ∀ (ls : List Leaf) (cs : List (CV Θ.T)) (ps : List (PV Θ.T)), All3 (fun l c p => ∃ y, s.get l c = some y ∧ p = l.mk y) ls cs ps → (∀ c ∈ cs, holeApart bs c = true) → All2 (Good Θ W (FF w0 F0 s bx rw_ W) (FF w0 F0 t bx' rw' W) bx rw_) cs ps := by
    intro ls cs ps h3 hc
    induction h3 with
    | nil => exact .nil
    | cons h t ih => exact .cons (hgood _ _ _ h (hc _ (by simp))) (ih fun c hc' => hc c (by simp [hc']))
  have gd1 := hgoods _ _ _ g1 fun c hc => hha c (by simp [Pk.and, hc])
  have gd2 := hgoods _ _ _ g2 fun c hc => hha c (by simp [Pk.and, hc])
  obtain ⟨vs', f1, fl, fr⟩ := fillAs_ok _ _ _ hp (Names.left (hN0 _ _)) ps1 gd1 (ps2 ++ ps3)
  obtain ⟨bs', f2, fb⟩ := fillBs_ok _ _ hq (Names.right (hN0 _ _)) ps2 gd2 ps3
  rw [f1] at tsl tbx
  simp only at tsl tbx
  rw [f2] at tbx
  simp only at tbx
  refine ⟨hS.below, ?_, ?_, ?_, ?_, ?_, ?_, by rw [tsl, fl, hS.len], ?_⟩
  · intro r g
    simp only [rw']
    split
    · exact hS.rwsl _ _
    · exact ⟨_, _, _, rfl⟩
  · intro k B' hk
    obtain ⟨_, B0, hB0, e0⟩ := keyB k B' hk
    rw [tbx] at hk
    obtain ⟨B, hB, hg, hty, hr⟩ := fb k B' hk
    rw [hB0] at hB
    cases hB
    obtain ⟨h1, cv, hh, ha⟩ := hS.boxes k B0 hB0
    rw [e0]
    exact ⟨h1, cv, by rw [hty]; exact hh, hr cv ha⟩
  · intro r R' hr
    obtain ⟨c, hl, hg, hget⟩ := keyR r R' hr
    have hbo := b1 _ (mem_of_look hl)
    cases c with
    | nil =>
      have hrw : rw' r R'.gen = .slice none 0 0 := by simp only [rw', hl]
      simp only [St.get] at hget
      have hl0 : R'.l = [] := (Option.some.inj hget).symm
      rw [hrw, hl0]
      exact ⟨[], ⟨by simp, .inl ⟨rfl, rfl⟩⟩, .nil⟩
    | row q g =>
      simp only [bindOk] at hbo
      split at hbo
      · rename_i R hR
        have hgq : R.gen = g := by simpa using hbo
        subst hgq
        have hrw : rw' r R'.gen = rw_ q R.gen := by simp only [rw', hl]
        simp only [St.get, hR, if_true] at hget
        have hget' : ∃ he : R.e = R'.e, R'.l = he ▸ R.l := by
          simp only [Leaf.get] at hget
          split at hget
          · rename_i he
            exact ⟨he, by injection hget with h; exact h.symm⟩
          · cases hget
        obtain ⟨he, hel⟩ := hget'
        obtain ⟨us, hown, har⟩ := hS.rows q R hR
        rw [hrw]
        obtain ⟨g', e', l'⟩ := R'
        simp only at he hel ⊢
        subst he
        simp only at hel
        subst hel
        exact ⟨us, hown, har.mono fun x u hx => Rep.mono hx hFF (fun _ _ => rfl)⟩
      · cases hbo
    | _ => simp [bindOk] at hbo
  · intro k B' k' B2' hk hk' he
    obtain ⟨_, B, hB, e1⟩ := keyB k B' hk
    obtain ⟨_, B2, hB2, e2⟩ := keyB k' B2' hk'
    exact hS.bb k B k' B2 hB hB2 (by rw [← e1, ← e2]; exact he)
  · intro r R' r' R2' b hr hr' hb hb'
    obtain ⟨q, R, hlk, hR, hb1⟩ := keyR2 r R' hr b hb
    obtain ⟨q', R2, hlk', hR2, hb2⟩ := keyR2 r' R2' hr' b hb'
    have hqq := hS.rr q R q' R2 b hR hR2 hb1 hb2
    by_cases hrr : r = r'
    · exact hrr
    · have := b2 _ (mem_of_look hlk) _ (mem_of_look hlk') hrr
      simp [bindApart] at this
      exact absurd hqq this
  · intro k B' r R' hk hr he
    obtain ⟨_, B, hB, e1⟩ := keyB k B' hk
    obtain ⟨q, R, hlk, hR, hb1⟩ := keyR2 r R' hr _ he
    exact hS.br k B q R hB hR (by rw [hb1, e1])
  · intro i
    have := fr i (tm.getD i undef) (hS.slots i)
    rw [← tsl] at this
    exact this
end
end Go.Den
