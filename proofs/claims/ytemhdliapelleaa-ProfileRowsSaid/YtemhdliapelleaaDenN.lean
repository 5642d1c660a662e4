/- What fits a shape may be taken for the shape's own state. -/
import Derived.Test.YtemhdliapelleaaDenS
namespace Go.Den
open Go Go.RowKit

section
variable {Θ : Tab} {E : Env} {s : St Θ.T} {tm : Array Value} {W : World} {bx : Nat → Nat → Nat} {rw_ : Nat → Nat → Value}
/-- A row of the call's own reads as a plain slice. -/
theorem row_rep (hS : Sim Θ E s tm W bx rw_) {F' : Nat → Prop} (hF : ∀ b, FF E s bx rw_ W b → F' b) {r : Nat} {R : RowS Θ.T} (hR : look s.rows r = some R) (hb : ∀ b, ob (rw_ r R.gen) = some b → F' b) :
    Rep Θ W F' (rw_ r R.gen) (.sl R.e R.l) := by
  obtain ⟨_, us, hown, har⟩ := hS.rows r R hR
  obtain ⟨⟨A, c, hv⟩, hpos⟩ := hown.form
  by_cases hl : R.l = []
  · -- nothing is read
    have hn : R.l.length = 0 := by rw [hl]; rfl
    rw [hn] at hv
    have hc0 : c = 0 → True := fun _ => trivial
    rw [hv, hl]
    refine .sl R.e [] A 0 c (fun _ _ => default) rfl (Nat.zero_le _) (fun hA => ?_) (fun h => absurd rfl h) (fun i j y x hy => by simp at hy)
    subst hA
    rcases hown with h | ⟨ad, hv', _⟩
    · rcases h.2 with ⟨hv', _⟩ | ⟨g', cap', cur, hv', _⟩
      · rw [hv] at hv'; cases hv'; rfl
      · rw [hv] at hv'; cases hv'
    · rw [hv] at hv'; cases hv'
  · have hpos' : 0 < R.l.length := List.length_pos_iff.2 hl
    obtain ⟨b, cap, hv, hnc⟩ := hpos hpos'
    have hob : ob (rw_ r R.gen) = some b := by rw [hv]; simp [ob]; omega
    have hcap0 : cap ≠ 0 := by omega
    have hlen0 := hown.len
    rw [hv] at hown ⊢
    refine .sl R.e R.l _ _ _ (fun i j => us.getD (i * Θ.sz R.e + j) undef) rfl hnc (fun h => by cases h) (fun hne => ⟨⟨b, 0, none⟩, rfl, rfl, fun _ => hb b hob, fun i j hi hj => ?_⟩) (fun i j y x hy hx => ?_)
    · have hlen : i * Θ.sz R.e + j < us.length := by
        rw [hlen0]
        have := Nat.mul_le_mul_right (Θ.sz R.e) hi
        rw [Nat.succ_mul] at this
        omega
      have := hown.cells rfl (i * Θ.sz R.e + j) _ (List.getElem?_eq_getElem hlen)
      rw [this, List.getD_eq_getElem?_getD, List.getElem?_eq_getElem hlen]
      rfl
    · have hj : j < Θ.sz R.e := by
        have := (List.getElem?_eq_some_iff.1 hx).1
        rwa [Θ.length_enc] at this
      have hfm := flatMap_get (Θ.enc R.e) (Θ.sz R.e) (Θ.length_enc R.e) R.l i j y hy hj
      rw [hx] at hfm
      obtain ⟨u, hu, hr⟩ := har.get _ hfm
      rw [List.getD_eq_getElem?_getD, hu]
      exact Rep.mono hr hF (fun _ _ => rfl)
/-- A cell read as a plain value of a kind. -/
theorem leaf_ok (hS : Sim Θ E s tm W bx rw_) {F' : Nat → Prop} (hF : ∀ b, FF E s bx rw_ W b → F' b) {l : Leaf} {c : CV Θ.T} {u : Value} {x : l.Ty Θ.T} (h : s.get l c = some x) (hr : RCV Θ W (FF E s bx rw_ W) bx rw_ c u)
    (hb : ∀ p ∈ c.mR, ∀ R b, look s.rows p.1 = some R → ob (rw_ p.1 R.gen) = some b → F' b) : Rep Θ W F' u (l.mk x) := by
  cases c with
  | v p => simp only [St.get] at h; rw [← Leaf.get_mk h]; exact Rep.mono hr hF (fun _ _ => rfl)
  | nil =>
    simp only [St.get] at h
    split at h <;> try (cases h; done)
    cases h
    have e : u = .slice none 0 0 := hr
    rw [e]; exact Rep.nil _ _ _ _
  | e0 =>
    simp only [St.get] at h
    split at h <;> try (cases h; done)
    cases h
    obtain ⟨A, rfl⟩ := hr
    exact Rep.e0 _ _ _ _ _
  | np => simp [St.get] at h
  | row r g =>
    simp only [St.get] at h
    split at h <;> try (cases h; done)
    rename_i R hR
    split at h <;> try (cases h; done)
    rename_i hg
    subst hg
    rw [← Leaf.get_mk h]
    have e : u = rw_ r R.gen := hr
    rw [e]
    exact row_rep hS hF hR (fun b hbb => hb (r, R.gen) (by simp [CV.mR]) R b hR hbb)
  | box k g off => simp [St.get] at h
  | fn f caps => simp [St.get] at h
end
inductive All3 {A B D : Type} (R : A → B → D → Prop) : List A → List B → List D → Prop where
  | nil : All3 R [] [] []
  | cons {a : A} {b : B} {d : D} {xs : List A} {bs : List B} {ds : List D} (h : R a b d) (t : All3 R xs bs ds) : All3 R (a :: xs) (b :: bs) (d :: ds)
theorem All3.split {A B D : Type} {R : A → B → D → Prop} : ∀ {a1 a2 : List A} {b1 b2 : List B} {ds : List D}, All3 R (a1 ++ a2) (b1 ++ b2) ds → a1.length = b1.length → ∃ d1 d2, ds = d1 ++ d2 ∧ All3 R a1 b1 d1 ∧ All3 R a2 b2 d2 := by
  intro a1
  induction a1 with
  | nil =>
    intro a2 b1 b2 ds h hl
    cases b1 with
    | nil => exact ⟨[], ds, rfl, .nil, h⟩
    | cons b b1 => simp at hl
  | cons a a1 ih =>
    intro a2 b1 b2 ds h hl
    cases b1 with
    | nil => simp at hl
    | cons b b1 =>
      cases h with | cons h t =>
      obtain ⟨d1, d2, e, h1, h2⟩ := ih t (by simpa using hl)
      exact ⟨_ :: d1, d2, by rw [e]; rfl, .cons h h1, h2⟩
theorem All3.right {A B D : Type} {R : A → B → D → Prop} {xs : List A} {bs : List B} {ds : List D} (h : All3 R xs bs ds) : All2 (fun b d => ∃ a, R a b d) bs ds := by
  induction h with
  | nil => exact .nil
  | cons h _ ih => exact .cons ⟨_, h⟩ ih
theorem All2.split {A B : Type} {R : A → B → Prop} : ∀ {a1 a2 : List A} {bs : List B}, All2 R (a1 ++ a2) bs → ∃ b1 b2, bs = b1 ++ b2 ∧ All2 R a1 b1 ∧ All2 R a2 b2 := by
  intro a1
  induction a1 with
  | nil => intro a2 bs h; exact ⟨[], bs, rfl, .nil, h⟩
  | cons a a1 ih =>
    intro a2 bs h
    cases h with | cons h t =>
    obtain ⟨b1, b2, e, h1, h2⟩ := ih t
    exact ⟨_ :: b1, b2, by rw [e]; rfl, .cons h h1, h2⟩

section
variable {Θ : Tab} {E : Env} {s : St Θ.T} {tm : Array Value} {W : World} {bx : Nat → Nat → Nat} {rw_ : Nat → Nat → Value}
theorem get_all3 : ∀ (ls : List Leaf) (cs : List (CV Θ.T)) (x : HT (Leaf.Ty Θ.T) ls), HT.get s.get ls cs = some x → All3 (fun l c p => ∃ y, s.get l c = some y ∧ p = l.mk y) ls cs (HT.list Leaf.mk ls x) := by
  intro ls
  induction ls with
  | nil =>
    intro cs x h
    have := HT.get_len _ _ _ _ h
    cases cs with
    | nil => exact .nil
    | cons c cs => simp at this
  | cons l ls ih =>
    intro cs x h
    have hlen := HT.get_len _ _ _ _ h
    cases cs with
    | nil => simp at hlen
    | cons c cs =>
      cases ls with
      | nil =>
        cases cs with
        | cons c2 cs => simp at hlen
        | nil =>
          rw [HT.get_one] at h
          exact .cons ⟨x, h, rfl⟩ .nil
      | cons l2 ls =>
        rw [HT.get_cons] at h
        split at h <;> try (cases h; done)
        rename_i a ha
        split at h <;> try (cases h; done)
        rename_i xs hxs
        cases h
        exact .cons ⟨a, ha, rfl⟩ (ih cs xs hxs)

theorem capsTo_spec : ∀ (ks : List Nat) (l : List (Nat × Nat)) (xs : List (Nat × Nat × Nat)), capsTo ks l = some xs → xs = ks.zip l ∧ ks.length = l.length := by
  intro ks
  induction ks with
  | nil => intro l xs h; cases l <;> simp [capsTo] at h; subst h; exact ⟨rfl, rfl⟩
  | cons k ks ih =>
    intro l xs h
    cases l with
    | nil => simp [capsTo] at h
    | cons p l =>
      simp only [capsTo] at h
      split at h <;> try (cases h; done)
      rename_i l' hl
      cases h
      obtain ⟨e1, e2⟩ := ih l l' hl
      exact ⟨by rw [e1]; rfl, by simp [e2]⟩
theorem pickC_len {t : CT} {c : CV Θ.T} {p : Pk Θ.T} (h : pickC t c = some p) : t.hs.length = p.hs.length := by
  cases t <;> simp only [pickC] at h
  · cases h; rfl
  · split at h <;> cases h; rfl
  · split at h <;> cases h; rfl
  · split at h <;> cases h; rfl
  · cases h; rfl
  · split at h <;> try (cases h; done)
    split at h <;> cases h; rfl
  · split at h <;> try (cases h; done)
    split at h <;> try (cases h; done)
    split at h <;> cases h; rfl
theorem pickCs_len : ∀ (ts : List CT) (cs : List (CV Θ.T)) (p : Pk Θ.T), pickCs ts cs = some p → (CT.hss ts).length = p.hs.length ∧ ts.length = cs.length := by
  intro ts
  induction ts with
  | nil => intro cs p h; cases cs <;> simp [pickCs] at h; subst h; exact ⟨rfl, rfl⟩
  | cons t ts ih =>
    intro cs p h
    cases cs with
    | nil => simp [pickCs] at h
    | cons c cs =>
      simp only [pickCs] at h
      split at h <;> try (cases h; done)
      rename_i p1 h1
      split at h <;> try (cases h; done)
      rename_i p2 h2
      cases h
      obtain ⟨e1, e2⟩ := ih cs p2 h2
      exact ⟨by simp [CT.hss, Pk.and, pickC_len h1, e1], by simp [e2]⟩
theorem pickK_len {t : KT} {v : KV Θ.T} {p : Pk Θ.T} (h : pickK t v = some p) : t.hs.length = p.hs.length := by
  cases t <;> simp only [pickK] at h
  · split at h <;> try (cases h; done)
    exact pickC_len h
  · split at h <;> try (cases h; done)
    exact (pickCs_len _ _ _ h).1
  · split at h <;> try (cases h; done)
    split at h <;> try (cases h; done)
    rename_i hl
    cases h; simp [KT.hs, hl]
theorem pickKs_len : ∀ (ts : List KT) (cs : List (KV Θ.T)) (p : Pk Θ.T), pickKs ts cs = some p → (KT.hss ts).length = p.hs.length := by
  intro ts
  induction ts with
  | nil => intro cs p h; cases cs <;> simp [pickKs] at h; subst h; rfl
  | cons t ts ih =>
    intro cs p h
    cases cs with
    | nil => simp [pickKs] at h
    | cons c cs =>
      simp only [pickKs] at h
      split at h <;> try (cases h; done)
      rename_i p1 h1
      split at h <;> try (cases h; done)
      rename_i p2 h2
      cases h
      simp [KT.hss, Pk.and, pickK_len h1, ih cs p2 h2]
theorem pickA_len {t : AT} {v : AV Θ.T} {p : Pk Θ.T} (h : pickA t v = some p) : t.hs.length = p.hs.length := by
  cases t <;> simp only [pickA] at h
  · split at h <;> try (cases h; done)
    exact pickC_len h
  · split at h <;> try (cases h; done)
    exact (pickCs_len _ _ _ h).1
  · split at h <;> try (cases h; done)
    split at h <;> cases h; rfl
  · split at h <;> try (cases h; done)
    split at h <;> try (cases h; done)
    rename_i hl
    cases h; simp [AT.hs, hl]
  · split at h <;> try (cases h; done)
    split at h <;> try (cases h; done)
    exact pickKs_len _ _ _ h
  · cases h; rfl
theorem pickAs_len : ∀ (ts : List AT) (vs : List (AV Θ.T)) (p : Pk Θ.T), pickAs ts vs = some p → (AT.hss ts).length = p.hs.length ∧ ts.length = vs.length := by
  intro ts
  induction ts with
  | nil => intro cs p h; cases cs <;> simp [pickAs] at h; subst h; exact ⟨rfl, rfl⟩
  | cons t ts ih =>
    intro cs p h
    cases cs with
    | nil => simp [pickAs] at h
    | cons c cs =>
      simp only [pickAs] at h
      split at h <;> try (cases h; done)
      rename_i p1 h1
      split at h <;> try (cases h; done)
      rename_i p2 h2
      cases h
      obtain ⟨e1, e2⟩ := ih cs p2 h2
      exact ⟨by simp [AT.hss, Pk.and, pickA_len h1, e1], by simp [e2]⟩
theorem pickBs_len : ∀ (ts : List (Nat × Nat × List CT)) (xs : List (Nat × Nat × Nat)) (p : Pk Θ.T), pickBs s ts xs = some p → (boxHs ts).length = p.hs.length := by
  intro ts
  induction ts with
  | nil => intro xs p h; cases h; rfl
  | cons t ts ih =>
    intro xs p h
    simp only [pickBs] at h
    split at h <;> try (cases h; done)
    split at h <;> try (cases h; done)
    split at h <;> try (cases h; done)
    split at h <;> try (cases h; done)
    rename_i p1 h1
    split at h <;> try (cases h; done)
    rename_i p2 h2
    cases h
    simp [boxHs, Pk.and, (pickCs_len _ _ _ h1).1, ih _ p2 h2]
end

/-! ### New names -/
def bxN (bx : Nat → Nat → Nat) (xs : List (Nat × Nat × Nat)) (k _ : Nat) : Nat := match look xs k with
  | some kg => bx kg.1 kg.2
  | none => 0
def rwN {T : TypeId → Type} (rw_ : Nat → Nat → Value) (bs : List (Nat × CV T)) (r _ : Nat) : Value := match look bs r with
  | some (.row q g) => rw_ q g
  | _ => .slice none 0 0
theorem look_append {B : Type} {l l' : List (Nat × B)} {k : Nat} {b : B} (h : look l k = some b) : look (l ++ l') k = some b := by
  induction l with
  | nil => cases h
  | cons x l ih =>
    obtain ⟨i, c⟩ := x
    simp only [List.cons_append, look] at h ⊢
    split
    · rename_i e; rw [if_pos e] at h; exact h
    · rename_i e; rw [if_neg e] at h; exact ih h
theorem xsOk_spec {T : TypeId → Type} {s : St T} : ∀ (xs : List (Nat × Nat × Nat)), xsOk s xs = true → (∀ p ∈ xs, s.curB p.2.1 p.2.2 = true) ∧ (∀ p ∈ xs, look xs p.1 = some p.2) ∧ ∀ p ∈ xs, ∀ q ∈ xs, p.1 ≠ q.1 → p.2.1 ≠ q.2.1 := by
  intro xs
  induction xs with
  | nil => intro _; exact ⟨fun p hp => (by cases hp), fun p hp => (by cases hp), fun p hp => (by cases hp)⟩
  | cons a xs ih =>
    intro h
    obtain ⟨k, k', g⟩ := a
    simp only [xsOk, Bool.and_eq_true, List.all_eq_true] at h
    obtain ⟨⟨h1, h2⟩, h3⟩ := h
    obtain ⟨i1, i2, i3⟩ := ih h3
    refine ⟨fun p hp => ?_, fun p hp => ?_, fun p hp q hq hne => ?_⟩
    · rcases List.mem_cons.1 hp with e | e
      · rw [e]; exact h1
      · exact i1 p e
    · rcases List.mem_cons.1 hp with e | e
      · rw [e]; simp [look]
      · simp only [look]
        have h2' := h2 p e
        split
        · rename_i ek
          rw [if_pos (by simpa using ek.symm)] at h2'
          simp only [Bool.and_eq_true, beq_iff_eq] at h2'
          obtain ⟨a1, a2⟩ := h2'
          rw [← a1, ← a2]
        · exact i2 p e
    · rcases List.mem_cons.1 hp with e | e
      · rcases List.mem_cons.1 hq with e' | e'
        · rw [e, e'] at hne; exact absurd rfl hne
        · have h2' := h2 q e'
          rw [e] at hne ⊢
          rw [if_neg (by simpa using fun x => hne x.symm)] at h2'
          simpa using fun x : k' = q.2.1 => by simp [x] at h2'
      · rcases List.mem_cons.1 hq with e' | e'
        · have h2' := h2 p e
          rw [e'] at hne ⊢
          rw [if_neg (by simpa using hne)] at h2'
          simpa using h2'
        · exact i3 p e q e' hne

/-! ### What is filled in stands for what was picked -/
section
variable {Θ : Tab} {s : St Θ.T} {W : World} {F F' : Nat → Prop} {bx bx' : Nat → Nat → Nat} {rw_ rw' : Nat → Nat → Value}
/-- The new names lead where the old ones led. -/
structure Names (Θ : Tab) (W : World) (F : Nat → Prop) (bx bx' : Nat → Nat → Nat) (rw_ rw' : Nat → Nat → Value) (bs : List (Nat × CV Θ.T)) (xs : List (Nat × Nat × Nat)) : Prop where
  box : ∀ p ∈ xs, bx' p.1 0 = bx p.2.1 p.2.2
  row : ∀ r c u, (r, c) ∈ bs → RCV Θ W F bx rw_ c u → u = rw' r 0
abbrev Good (Θ : Tab) (W : World) (F F' : Nat → Prop) (bx : Nat → Nat → Nat) (rw_ : Nat → Nat → Value) (c : CV Θ.T) (p : PV Θ.T) : Prop := ∀ u, RCV Θ W F bx rw_ c u → Rep Θ W F' u p
theorem Names.part {bs cs : List (Nat × CV Θ.T)} {xs ys : List (Nat × Nat × Nat)} (h : Names Θ W F bx bx' rw_ rw' bs xs) (h1 : ∀ p ∈ cs, p ∈ bs) (h2 : ∀ p ∈ ys, p ∈ xs) : Names Θ W F bx bx' rw_ rw' cs ys :=
  ⟨fun p hp => h.box p (h2 p hp), fun r c u hm => h.row r c u (h1 _ hm)⟩
theorem Names.left {p q : Pk Θ.T} (h : Names Θ W F bx bx' rw_ rw' (p.and q).bs (p.and q).xs) : Names Θ W F bx bx' rw_ rw' p.bs p.xs := h.part (fun _ hp => List.mem_append_left _ hp) (fun _ hp => List.mem_append_left _ hp)
theorem Names.right {p q : Pk Θ.T} (h : Names Θ W F bx bx' rw_ rw' (p.and q).bs (p.and q).xs) : Names Θ W F bx bx' rw_ rw' q.bs q.xs := h.part (fun _ hp => List.mem_append_right _ hp) (fun _ hp => List.mem_append_right _ hp)
theorem caps_are : ∀ (ks : List Nat) (l : List (Nat × Nat)), ks.length = l.length → (∀ p ∈ ks.zip l, bx' p.1 0 = bx p.2.1 p.2.2) →
    (l.map fun kg => Value.pointer (some ⟨bx kg.1 kg.2, 0, none⟩)) = (ks.map fun k => (k, 0)).map fun kg => Value.pointer (some ⟨bx' kg.1 kg.2, 0, none⟩) := by
  intro ks
  induction ks with
  | nil => intro l h _; cases l with | nil => rfl | cons a l => simp at h
  | cons k ks ih =>
    intro l h hb
    cases l with
    | nil => simp at h
    | cons a l =>
      simp only [List.map_cons]
      have := hb (k, a) (by simp)
      simp only at this
      rw [this, ih l (by simpa using h) (fun p hp => hb p (by simp [hp]))]
theorem fillC_ok {t : CT} {c : CV Θ.T} {p : Pk Θ.T} (h : pickC t c = some p) (hN : Names Θ W F bx bx' rw_ rw' p.bs p.xs) {ps1 : List (PV Θ.T)} (hg : All2 (Good Θ W F F' bx rw_) p.hs ps1) (ps2 : List (PV Θ.T)) :
    ∃ c', fillC t (ps1 ++ ps2) = (c', ps2) ∧ ∀ u, RCV Θ W F bx rw_ c u → RCV Θ W F' bx' rw' c' u := by
  cases t with
  | hole l =>
    simp only [pickC, Option.some.injEq] at h
    subst h
    cases hg with | cons h1 t1 =>
    cases t1
    exact ⟨_, rfl, fun u hu => h1 u hu⟩
  | nil =>
    simp only [pickC] at h
    split at h <;> try (cases h; done)
    cases h
    cases hg
    exact ⟨_, rfl, fun u hu => hu⟩
  | e0 =>
    simp only [pickC] at h
    split at h <;> try (cases h; done)
    cases h
    cases hg
    exact ⟨_, rfl, fun u hu => hu⟩
  | np =>
    simp only [pickC] at h
    split at h <;> try (cases h; done)
    cases h
    cases hg
    exact ⟨_, rfl, fun u hu => hu⟩
  | row r =>
    simp only [pickC, Option.some.injEq] at h
    subst h
    cases hg
    exact ⟨_, rfl, fun u hu => hN.row r c u (by simp) hu⟩
  | box k off =>
    simp only [pickC] at h
    split at h <;> try (cases h; done)
    split at h <;> try (cases h; done)
    rename_i k' g off' hc
    cases h
    cases hg
    simp only [beq_iff_eq] at hc
    subst hc
    refine ⟨_, rfl, fun u hu => ?_⟩
    have e : u = .pointer (some ⟨bx k' g, off, none⟩) := hu
    show u = .pointer (some ⟨bx' k 0, off, none⟩)
    have := hN.box (k, k', g) (by simp)
    simp only at this
    rw [this]; exact e
  | fn f caps =>
    simp only [pickC] at h
    split at h <;> try (cases h; done)
    split at h <;> try (cases h; done)
    rename_i f' l hc
    split at h <;> try (cases h; done)
    rename_i xs hxs
    cases h
    cases hg
    simp only [beq_iff_eq] at hc
    subst hc
    obtain ⟨hz, hlen⟩ := capsTo_spec _ _ _ hxs
    refine ⟨_, rfl, fun u hu => ?_⟩
    have e : u = .func (.func f) #[] (l.map fun kg => Value.pointer (some ⟨bx kg.1 kg.2, 0, none⟩)).toArray := hu
    show u = .func (.func f) #[] ((caps.map fun k => (k, 0)).map fun kg => Value.pointer (some ⟨bx' kg.1 kg.2, 0, none⟩)).toArray
    rw [← caps_are caps l hlen (fun p hp => hN.box p (by rw [hz]; exact hp))]; exact e
theorem fillCs_ok : ∀ (ts : List CT) (cs : List (CV Θ.T)) (p : Pk Θ.T), pickCs ts cs = some p → Names Θ W F bx bx' rw_ rw' p.bs p.xs → ∀ (ps1 : List (PV Θ.T)), All2 (Good Θ W F F' bx rw_) p.hs ps1 → ∀ ps2 : List (PV Θ.T),
    ∃ cs', fillCs ts (ps1 ++ ps2) = (cs', ps2) ∧ ∀ us, All2 (RCV Θ W F bx rw_) cs us → All2 (RCV Θ W F' bx' rw') cs' us := by
  intro ts
  induction ts with
  | nil =>
    intro cs p h _ ps1 hg ps2
    cases cs with
    | cons c cs => simp [pickCs] at h
    | nil => simp [pickCs] at h; subst h; cases hg; exact ⟨[], rfl, fun us h => by cases h; exact .nil⟩
  | cons t ts ih =>
    intro cs p h hN ps1 hg ps2
    cases cs with
    | nil => simp [pickCs] at h
    | cons c cs =>
      simp only [pickCs] at h
      split at h <;> try (cases h; done)
      rename_i p1 h1
      split at h <;> try (cases h; done)
      rename_i p2 h2
      cases h
      obtain ⟨q1, q2, e, g1, g2⟩ := All2.split hg
      subst e
      obtain ⟨c', f1, r1⟩ := fillC_ok h1 (Names.left hN) g1 (q2 ++ ps2)
      obtain ⟨cs', f2, r2⟩ := ih cs p2 h2 (Names.right hN) q2 g2 ps2
      refine ⟨c' :: cs', ?_, fun us hu => ?_⟩
      · simp only [fillCs, List.append_assoc, f1, f2]
      · cases hu with | cons a b => exact .cons (r1 _ a) (r2 _ b)
theorem fillK_ok (hFF : ∀ b, F b → F' b) {t : KT} {v : KV Θ.T} {p : Pk Θ.T} (h : pickK t v = some p) (hN : Names Θ W F bx bx' rw_ rw' p.bs p.xs) {ps1 : List (PV Θ.T)} (hg : All2 (Good Θ W F F' bx rw_) p.hs ps1) (ps2 : List (PV Θ.T)) :
    ∃ v', fillK t (ps1 ++ ps2) = (v', ps2) ∧ ∀ u, RKV Θ W F bx rw_ v u → RKV Θ W F' bx' rw' v' u := by
  cases t with
  | c x =>
    simp only [pickK] at h
    split at h <;> try (cases h; done)
    obtain ⟨c', f1, r1⟩ := fillC_ok h hN hg ps2
    exact ⟨.c c', by simp only [fillK, f1], fun u hu => r1 u hu⟩
  | agg l =>
    simp only [pickK] at h
    split at h <;> try (cases h; done)
    obtain ⟨cs', f1, r1⟩ := fillCs_ok _ _ _ h hN _ hg ps2
    exact ⟨.agg cs', by simp only [fillK, f1], fun u ⟨us, e, ha⟩ => ⟨us, e, r1 us ha⟩⟩
  | cel ls =>
    simp only [pickK] at h
    split at h <;> try (cases h; done)
    rename_i xs
    split at h <;> try (cases h; done)
    rename_i hl
    cases h
    have hlen : ps1.length = ls.length := by rw [← hl]; have := hg.length; simp at this; exact this.symm
    refine ⟨.cel ps1, by simp only [fillK]; rw [← hlen]; simp, fun u hu => ?_⟩
    obtain ⟨ad, e, hsp, hF, hc⟩ := hu
    have hne : ps1 ≠ [] → xs ≠ [] := fun h e => h (by
      have : xs.length = 0 := by rw [e]; rfl
      exact List.eq_nil_of_length_eq_zero (by omega))
    refine ⟨ad, e, hsp, fun h => hFF _ (hF (hne h)), fun j p hp => ?_⟩
    obtain ⟨c0, hc0, hgd⟩ := hg.get' j hp
    rw [List.getElem?_map] at hc0
    cases hx : xs[j]? with
    | none => simp [hx] at hc0
    | some x =>
      simp [hx] at hc0
      obtain ⟨c, h1, h2⟩ := hc j x hx
      exact ⟨c, h1, hgd c (by rw [← hc0]; exact h2)⟩
theorem fillKs_ok (hFF : ∀ b, F b → F' b) : ∀ (ts : List KT) (cs : List (KV Θ.T)) (p : Pk Θ.T), pickKs ts cs = some p → Names Θ W F bx bx' rw_ rw' p.bs p.xs → ∀ (ps1 : List (PV Θ.T)), All2 (Good Θ W F F' bx rw_) p.hs ps1 → ∀ ps2 : List (PV Θ.T),
    ∃ cs', fillKs ts (ps1 ++ ps2) = (cs', ps2) ∧ ∀ us, All2 (RKV Θ W F bx rw_) cs us → All2 (RKV Θ W F' bx' rw') cs' us := by
  intro ts
  induction ts with
  | nil =>
    intro cs p h _ ps1 hg ps2
    cases cs with
    | cons c cs => simp [pickKs] at h
    | nil => simp [pickKs] at h; subst h; cases hg; exact ⟨[], rfl, fun us h => by cases h; exact .nil⟩
  | cons t ts ih =>
    intro cs p h hN ps1 hg ps2
    cases cs with
    | nil => simp [pickKs] at h
    | cons c cs =>
      simp only [pickKs] at h
      split at h <;> try (cases h; done)
      rename_i p1 h1
      split at h <;> try (cases h; done)
      rename_i p2 h2
      cases h
      obtain ⟨q1, q2, e, g1, g2⟩ := All2.split hg
      subst e
      obtain ⟨c', f1, r1⟩ := fillK_ok hFF h1 (Names.left hN) g1 (q2 ++ ps2)
      obtain ⟨cs', f2, r2⟩ := ih cs p2 h2 (Names.right hN) q2 g2 ps2
      refine ⟨c' :: cs', ?_, fun us hu => ?_⟩
      · simp only [fillKs, List.append_assoc, f1, f2]
      · cases hu with | cons a b => exact .cons (r1 _ a) (r2 _ b)
theorem fillA_ok (hFF : ∀ b, F b → F' b) {t : AT} {v : AV Θ.T} {p : Pk Θ.T} (h : pickA t v = some p) (hN : Names Θ W F bx bx' rw_ rw' p.bs p.xs) {ps1 : List (PV Θ.T)} (hg : All2 (Good Θ W F F' bx rw_) p.hs ps1) (ps2 : List (PV Θ.T)) :
    ∃ v', fillA t (ps1 ++ ps2) = (v', ps2) ∧ ∀ u, RAV Θ W F bx rw_ v u → RAV Θ W F' bx' rw' v' u := by
  cases t with
  | undef =>
    simp only [pickA, Option.some.injEq] at h
    subst h
    cases hg
    exact ⟨_, rfl, fun u _ => trivial⟩
  | c x =>
    simp only [pickA] at h
    split at h <;> try (cases h; done)
    obtain ⟨c', f1, r1⟩ := fillC_ok h hN hg ps2
    exact ⟨.c c', by simp only [fillA, f1], fun u hu => r1 u hu⟩
  | agg l =>
    simp only [pickA] at h
    split at h <;> try (cases h; done)
    obtain ⟨cs', f1, r1⟩ := fillCs_ok _ _ _ h hN _ hg ps2
    exact ⟨.agg cs', by simp only [fillA, f1], fun u ⟨us, e, ha⟩ => ⟨us, e, r1 us ha⟩⟩
  | rel r sz off =>
    simp only [pickA] at h
    split at h <;> try (cases h; done)
    rename_i r' g i sz' off'
    split at h <;> try (cases h; done)
    rename_i hc
    simp only [Bool.and_eq_true, beq_iff_eq] at hc
    obtain ⟨e1, e2⟩ := hc
    subst e1 e2
    cases h
    cases hg with | cons h1 t1 =>
    cases t1
    rename_i q
    have hq : q = .int .i64 i := by
      have := h1 (.int .i64 i) (.int _ _)
      cases this; rfl
    subst hq
    refine ⟨_, rfl, fun u hu => ?_⟩
    obtain ⟨b, n, cap, e1, h0, h2, e2⟩ := hu
    have hrow := hN.row r (.row r' g) (rw_ r' g) (by simp) rfl
    exact ⟨b, n, cap, by rw [← hrow]; exact e1, h0, h2, e2⟩
  | cel ls =>
    simp only [pickA] at h
    split at h <;> try (cases h; done)
    rename_i xs
    split at h <;> try (cases h; done)
    rename_i hl
    cases h
    have hlen : ps1.length = ls.length := by rw [← hl]; have := hg.length; simp at this; exact this.symm
    refine ⟨.cel ps1, by simp only [fillA]; rw [← hlen]; simp, fun u hu => ?_⟩
    obtain ⟨ad, e, hsp, hF, hc⟩ := hu
    have hne : ps1 ≠ [] → xs ≠ [] := fun h e => h (by
      have : xs.length = 0 := by rw [e]; rfl
      exact List.eq_nil_of_length_eq_zero (by omega))
    refine ⟨ad, e, hsp, fun h => hFF _ (hF (hne h)), fun j p hp => ?_⟩
    obtain ⟨c0, hc0, hgd⟩ := hg.get' j hp
    rw [List.getElem?_map] at hc0
    cases hx : xs[j]? with
    | none => simp [hx] at hc0
    | some x =>
      simp [hx] at hc0
      obtain ⟨c, h1, h2⟩ := hc j x hx
      exact ⟨c, h1, hgd c (by rw [← hc0]; exact h2)⟩
  | yld y ts =>
    simp only [pickA] at h
    split at h <;> try (cases h; done)
    rename_i y' l
    split at h <;> try (cases h; done)
    rename_i hy
    have hy : y = y' := by simpa using hy
    subst hy
    obtain ⟨l', f1, r1⟩ := fillKs_ok hFF _ _ _ h hN _ hg ps2
    refine ⟨.yld y l', by simp only [fillA, f1], fun u hu => ?_⟩
    obtain ⟨lb, R, rec, e, hf, hr, ha⟩ := hu
    exact ⟨lb, R, rec, e, hFF _ hf, hr, r1 _ ha⟩
theorem fillAs_ok (hFF : ∀ b, F b → F' b) : ∀ (ts : List AT) (vs : List (AV Θ.T)) (p : Pk Θ.T), pickAs ts vs = some p → Names Θ W F bx bx' rw_ rw' p.bs p.xs → ∀ (ps1 : List (PV Θ.T)), All2 (Good Θ W F F' bx rw_) p.hs ps1 → ∀ ps2 : List (PV Θ.T),
    ∃ vs', fillAs ts (ps1 ++ ps2) = (vs', ps2) ∧ vs'.length = vs.length ∧ ∀ i u, RAV Θ W F bx rw_ (vs.getD i .undef) u → RAV Θ W F' bx' rw' (vs'.getD i .undef) u := by
  intro ts
  induction ts with
  | nil =>
    intro vs p h _ ps1 hg ps2
    cases vs with
    | cons c cs => simp [pickAs] at h
    | nil => simp [pickAs] at h; subst h; cases hg; exact ⟨[], rfl, rfl, fun i u _ => by simp [RAV]⟩
  | cons t ts ih =>
    intro vs p h hN ps1 hg ps2
    cases vs with
    | nil => simp [pickAs] at h
    | cons v vs =>
      simp only [pickAs] at h
      split at h <;> try (cases h; done)
      rename_i p1 h1
      split at h <;> try (cases h; done)
      rename_i p2 h2
      cases h
      obtain ⟨q1, q2, e, g1, g2⟩ := All2.split hg
      subst e
      obtain ⟨v', f1, r1⟩ := fillA_ok hFF h1 (Names.left hN) g1 (q2 ++ ps2)
      obtain ⟨vs', f2, l2, r2⟩ := ih vs p2 h2 (Names.right hN) q2 g2 ps2
      refine ⟨v' :: vs', ?_, by simp [l2], fun i u hu => ?_⟩
      · simp only [fillAs, List.append_assoc, f1, f2]
      · cases i with
        | zero => simpa using r1 u (by simpa using hu)
        | succ i => simpa using r2 i u (by simpa using hu)
theorem fillBs_ok (ys : List (Nat × Nat × Nat)) : ∀ (ts : List (Nat × Nat × List CT)) (xs : List (Nat × Nat × Nat)) (p : Pk Θ.T), pickBs s ts xs = some p → Names Θ W F bx bx' rw_ rw' p.bs p.xs → (∀ k v, look (xs ++ p.xs) k = some v → look ys k = some v) → ∀ (ps1 : List (PV Θ.T)), All2 (Good Θ W F F' bx rw_) p.hs ps1 → ∀ ps2 : List (PV Θ.T),
    ∃ bs', fillBs ts (ps1 ++ ps2) = (bs', ps2) ∧ ∀ k B', look bs' k = some B' → ∃ kg B, look ys k = some kg ∧ look s.boxes kg.1 = some B ∧ B.gen = kg.2 ∧ B'.gen = 0 ∧ B'.ty = B.ty ∧ ∀ us, All2 (RCV Θ W F bx rw_) B.cells us → All2 (RCV Θ W F' bx' rw') B'.cells us := by
  intro ts
  induction ts with
  | nil => intro xs p h _ _ ps1 hg ps2; cases h; cases hg; exact ⟨[], rfl, fun k B' h => by simp [look] at h⟩
  | cons t ts ih =>
    intro xs p h hN hys ps1 hg ps2
    simp only [pickBs] at h
    split at h <;> try (cases h; done)
    rename_i kg hkg
    split at h <;> try (cases h; done)
    rename_i B hB
    split at h <;> try (cases h; done)
    rename_i hty
    split at h <;> try (cases h; done)
    rename_i p1 h1
    split at h <;> try (cases h; done)
    rename_i p2 h2
    cases h
    simp only [Bool.and_eq_true, beq_iff_eq] at hty
    obtain ⟨hgen, hty⟩ := hty
    obtain ⟨q1, q2, e, g1, g2⟩ := All2.split hg
    subst e
    obtain ⟨cs', f1, r1⟩ := fillCs_ok _ _ _ h1 (Names.left hN) q1 g1 (q2 ++ ps2)
    obtain ⟨bs', f2, r2⟩ := ih _ p2 h2 (Names.right hN) (fun k v hv => hys k v (by simpa [Pk.and, List.append_assoc] using hv)) q2 g2 ps2
    refine ⟨(t.1, ⟨0, t.2.1, cs'⟩) :: bs', ?_, fun k B' hk => ?_⟩
    · simp only [fillBs, List.append_assoc, f1, f2]
    · simp only [look] at hk
      split at hk
      · rename_i e
        subst e
        cases hk
        exact ⟨kg, B, hys _ _ (look_append hkg), hB, hgen, rfl, hty.symm, r1⟩
      · exact r2 k B' hk
theorem fillRs_ok : ∀ (ts : List (Nat × Nat)) (bs : List (Nat × CV Θ.T)) (cs : List (CV Θ.T)), rowCs bs ts = some cs → ∀ (ps : List (PV Θ.T)), All3 (fun l c p => ∃ y, s.get l c = some y ∧ p = l.mk y) (rowHs ts) cs ps →
    ∀ r R', look (fillRs ts ps) r = some R' → ∃ c, look bs r = some c ∧ R'.gen = 0 ∧ s.get (.sl R'.e) c = some R'.l := by
  intro ts
  induction ts with
  | nil => intro bs cs _ ps _ r R' h; simp [fillRs, look] at h
  | cons t ts ih =>
    intro bs cs hc ps h3 r R' h
    obtain ⟨r0, e0⟩ := t
    simp only [rowCs] at hc
    split at hc <;> try (cases hc; done)
    rename_i c hl
    split at hc <;> try (cases hc; done)
    rename_i cs' hcs
    cases hc
    cases h3 with | cons h1 t1 =>
    obtain ⟨y, hy, hp⟩ := h1
    subst hp
    simp only [fillRs, look] at h
    split at h
    · rename_i e
      subst e
      cases h
      refine ⟨c, hl, rfl, ?_⟩
      rw [hy]
      simp [Leaf.mk, listOf]
      rfl
    · exact ih bs cs' hcs _ t1 r R' h
theorem fillBs_keys : ∀ (ts : List (Nat × Nat × List CT)) (ps : List (PV Θ.T)) (k : Nat) (B' : BoxS Θ.T), look (fillBs ts ps).1 k = some B' → B'.gen = 0 ∧ ∃ t ∈ ts, t.1 = k := by
  intro ts
  induction ts with
  | nil => intro ps k B' h; simp [fillBs, look] at h
  | cons t ts ih =>
    intro ps k B' h
    simp only [fillBs, look] at h
    split at h
    · rename_i e; cases h; exact ⟨rfl, t, by simp, e⟩
    · obtain ⟨h1, t', h2, h3⟩ := ih _ k B' h
      exact ⟨h1, t', by simp [h2], h3⟩
theorem bindsOk_spec : ∀ (bs : List (Nat × CV Θ.T)), bindsOk s bs = true → (∀ p ∈ bs, bindOk s p.2 = true) ∧ (∀ p ∈ bs, ∀ q ∈ bs, p.1 ≠ q.1 → bindApart p.2 q.2 = true) ∧ ∀ p ∈ bs, ∃ c, look bs p.1 = some c ∧ (c = p.2 ∨ bindSame c p.2 = true) := by
  intro bs
  induction bs with
  | nil => intro _; exact ⟨fun p hp => (by cases hp), fun p hp => (by cases hp), fun p hp => (by cases hp)⟩
  | cons a bs ih =>
    intro h
    obtain ⟨r, c⟩ := a
    simp only [bindsOk, Bool.and_eq_true, List.all_eq_true] at h
    obtain ⟨⟨h1, h2⟩, h3⟩ := h
    obtain ⟨i1, i2, i3⟩ := ih h3
    have sym : ∀ x y : CV Θ.T, bindApart x y = true → bindApart y x = true := by
      intro x y hxy
      cases x with
      | row q g =>
        cases y with
        | row q' g' =>
          have : ¬ q = q' := by simpa [bindApart] using hxy
          simpa [bindApart] using fun e : q' = q => this e.symm
        | _ => rfl
      | _ => cases y <;> rfl
    refine ⟨fun p hp => ?_, fun p hp q hq hne => ?_, fun p hp => ?_⟩
    · rcases List.mem_cons.1 hp with e | e
      · rw [e]; exact h1
      · exact i1 p e
    · rcases List.mem_cons.1 hp with e | e
      · rcases List.mem_cons.1 hq with e' | e'
        · rw [e, e'] at hne; exact absurd rfl hne
        · have := h2 q e'
          rw [e] at hne ⊢
          rw [if_neg (by simpa using fun x => hne x.symm)] at this
          exact this
      · rcases List.mem_cons.1 hq with e' | e'
        · have := h2 p e
          rw [e'] at hne ⊢
          rw [if_neg (by simpa using hne)] at this
          exact sym _ _ this
        · exact i2 p e q e' hne
    · rcases List.mem_cons.1 hp with e | e
      · rw [e]; exact ⟨c, by simp [look], .inl rfl⟩
      · by_cases hr : r = p.1
        · have := h2 p e
          rw [if_pos (by simpa using hr.symm)] at this
          exact ⟨c, by simp [look, hr], .inr this⟩
        · obtain ⟨c', h4, h5⟩ := i3 p e
          exact ⟨c', by simp only [look]; rw [if_neg hr]; exact h4, h5⟩
end
end Go.Den
