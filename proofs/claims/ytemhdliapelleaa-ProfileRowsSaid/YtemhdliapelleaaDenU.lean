/- Behind a call: the caller's state stands for the machine's. -/
import Derived.Test.YtemhdliapelleaaDenI
namespace Go.Den
open Go Go.RowKit

/-! ### Lists -/
theorem mem_keysOf {B : Type} {l : List (Nat × B)} {k : Nat} {b : B} (h : (k, b) ∈ l) : k ∈ keysOf l := by
  induction l with
  | nil => cases h
  | cons x l ih =>
    simp only [keysOf, List.mem_cons] at h ⊢
    rcases h with h | h
    · left; rw [← h]
    · exact .inr (ih h)
theorem of_mem_keysOf {B : Type} {l : List (Nat × B)} {k : Nat} (h : k ∈ keysOf l) : ∃ b, (k, b) ∈ l := by
  induction l with
  | nil => cases h
  | cons x l ih =>
    simp only [keysOf, List.mem_cons] at h
    rcases h with h | h
    · exact ⟨x.2, by rw [h]; simp⟩
    · obtain ⟨b, hb⟩ := ih h; exact ⟨b, List.mem_cons_of_mem _ hb⟩
theorem look_of_mem {B : Type} {l : List (Nat × B)} (hn : apartKs (keysOf l) = true) {k : Nat} {b : B} (h : (k, b) ∈ l) : look l k = some b := by
  induction l with
  | nil => cases h
  | cons x l ih =>
    obtain ⟨j, c⟩ := x
    simp only [keysOf, apartKs, Bool.and_eq_true, Bool.not_eq_true'] at hn
    rcases List.mem_cons.1 h with h | h
    · cases h; simp [look]
    · simp only [look]
      have hne : j ≠ k := by
        rintro rfl
        have := mem_keysOf h
        rw [List.contains_eq_mem, decide_eq_false_iff_not] at hn
        exact hn.1 this
      rw [if_neg hne]
      exact ih hn.2 h
theorem look_none_of {B : Type} {l : List (Nat × B)} {k : Nat} (h : look l k = none) : k ∉ keysOf l := by
  induction l with
  | nil => simp [keysOf]
  | cons x l ih =>
    obtain ⟨j, c⟩ := x
    simp only [look] at h
    split at h
    · cases h
    · rename_i hne
      simp only [keysOf, List.mem_cons, not_or]
      exact ⟨fun e => hne e.symm, ih h⟩
theorem look_app {B : Type} {l l' : List (Nat × B)} {k : Nat} {b : B} (h : look (l ++ l') k = some b) : look l k = some b ∨ (k ∉ keysOf l ∧ look l' k = some b) := by
  cases hl : look l k with
  | some c => have := look_append (l' := l') hl; rw [this] at h; exact .inl h
  | none =>
    refine .inr ⟨look_none_of hl, ?_⟩
    induction l with
    | nil => exact h
    | cons x l ih =>
      obtain ⟨j, c⟩ := x
      simp only [look, List.cons_append] at hl h
      split at hl
      · cases hl
      · rename_i hne
        rw [if_neg hne] at h
        exact ih h hl
theorem boxKs_mem {l : List (Nat × Nat × Nat)} {p : Nat × Nat × Nat} (h : p ∈ l) : p.2.1 ∈ boxKs l := by
  induction l with
  | nil => cases h
  | cons x l ih =>
    simp only [boxKs, List.mem_cons] at h ⊢
    rcases h with h | h
    · left; rw [h]
    · exact .inr (ih h)
theorem boxKs_inj {l : List (Nat × Nat × Nat)} (hn : apartKs (boxKs l) = true) {p q : Nat × Nat × Nat} (hp : p ∈ l) (hq : q ∈ l) (e : p.2.1 = q.2.1) : p = q := by
  induction l with
  | nil => cases hp
  | cons x l ih =>
    simp only [boxKs, apartKs, Bool.and_eq_true, Bool.not_eq_true', List.contains_eq_mem, decide_eq_false_iff_not] at hn
    rcases List.mem_cons.1 hp with h | h <;> rcases List.mem_cons.1 hq with h' | h'
    · rw [h, h']
    · exact absurd (by rw [← h, e]; exact boxKs_mem h') hn.1
    · exact absurd (by rw [← h', ← e]; exact boxKs_mem h) hn.1
    · exact ih hn.2 h h'
theorem rowKs_mem {T : TypeId → Type} {l : List (Nat × CV T)} {r q g : Nat} (h : (r, CV.row q g) ∈ l) : q ∈ rowKs l := by
  induction l with
  | nil => cases h
  | cons x l ih =>
    obtain ⟨j, c⟩ := x
    rcases List.mem_cons.1 h with h1 | h1
    · cases h1; simp [rowKs]
    · clear h
      have h2 := ih h1
      simp only [rowKs]
      split
      · exact List.mem_cons_of_mem _ h2
      · exact h2
theorem rowKs_inj {T : TypeId → Type} {l : List (Nat × CV T)} (hn : apartKs (rowKs l) = true) {r r' q g g' : Nat} (hp : (r, CV.row q g) ∈ l) (hq : (r', CV.row q g') ∈ l) : r = r' ∧ g = g' := by
  induction l with
  | nil => cases hp
  | cons x l ih =>
    obtain ⟨j, c⟩ := x
    rcases List.mem_cons.1 hp with h | h <;> rcases List.mem_cons.1 hq with h' | h'
    · cases h; cases h'; exact ⟨rfl, rfl⟩
    · cases h
      simp only [rowKs, apartKs, Bool.and_eq_true, Bool.not_eq_true', List.contains_eq_mem, decide_eq_false_iff_not] at hn
      exact absurd (rowKs_mem h') hn.1
    · cases h'
      simp only [rowKs, apartKs, Bool.and_eq_true, Bool.not_eq_true', List.contains_eq_mem, decide_eq_false_iff_not] at hn
      exact absurd (rowKs_mem h) hn.1
    · refine ih ?_ h h'
      simp only [rowKs] at hn
      split at hn
      · simp only [apartKs, Bool.and_eq_true] at hn; exact hn.2
      · exact hn

/-! ### What the new names are -/
section
variable {T : TypeId → Type} {s : St T} {hin : Shape} {xs : List (Nat × Nat × Nat)} {cs : List (Nat × CV T)} {base : Nat}
theorem renBs_spec : ∀ (l : List (Nat × BoxS T)) (nB : List (Nat × Nat × Nat)), renBs s hin xs base l = some nB → keysOf nB = keysOf l ∧ (∀ b ∈ l, b.2.gen = 0) ∧ ∀ p ∈ nB, entB s hin xs base p.1 = some p.2 := by
  intro l
  induction l with
  | nil => intro nB h; cases h; exact ⟨rfl, fun b hb => (by cases hb), fun p hp => (by cases hp)⟩
  | cons b l ih =>
    intro nB h
    simp only [renBs] at h
    split at h <;> try (cases h; done)
    rename_i kg hkg
    split at h <;> try (cases h; done)
    rename_i hg
    split at h <;> try (cases h; done)
    rename_i l' hl
    cases h
    obtain ⟨h1, h2, h3⟩ := ih l' hl
    refine ⟨by simp [keysOf, h1], fun b' hb' => ?_, fun p hp => ?_⟩
    · rcases List.mem_cons.1 hb' with e | e
      · rw [e]; simpa using hg
      · exact h2 b' e
    · rcases List.mem_cons.1 hp with e | e
      · rw [e]; exact hkg
      · exact h3 p e
theorem renRs_spec : ∀ (l : List (Nat × RowS T)) (nR : List (Nat × CV T)), renRs s hin cs base l = some nR → keysOf nR = keysOf l ∧ (∀ b ∈ l, b.2.gen = 0) ∧ ∀ p ∈ nR, entR s hin cs base p.1 = some p.2 := by
  intro l
  induction l with
  | nil => intro nB h; cases h; exact ⟨rfl, fun b hb => (by cases hb), fun p hp => (by cases hp)⟩
  | cons b l ih =>
    intro nB h
    simp only [renRs] at h
    split at h <;> try (cases h; done)
    rename_i kg hkg
    split at h <;> try (cases h; done)
    rename_i hg
    split at h <;> try (cases h; done)
    rename_i l' hl
    cases h
    obtain ⟨h1, h2, h3⟩ := ih l' hl
    refine ⟨by simp [keysOf, h1], fun b' hb' => ?_, fun p hp => ?_⟩
    · rcases List.mem_cons.1 hb' with e | e
      · rw [e]; simpa using hg
      · exact h2 b' e
    · rcases List.mem_cons.1 hp with e | e
      · rw [e]; exact hkg
      · exact h3 p e
theorem entB_spec {k : Nat} {kg : Nat × Nat} (h : entB s hin xs base k = some kg) : (keyIn hin.boxes k = true ∧ look xs k = some kg) ∨ (s.noB kg.1 kg.2 = true ∧ kg.1 < pin) := by
  unfold entB at h
  split at h
  · rename_i hk; exact .inl ⟨hk, h⟩
  · split at h <;> try (cases h; done)
    rename_i hc
    simp only [Bool.and_eq_true, Nat.blt_eq] at hc
    cases h
    exact .inr hc
theorem freshR_spec {r : Nat} {c : CV T} (h : freshR s base r = some c) : ∃ q g, c = .row q g ∧ s.noR q g = true ∧ q < pin := by
  unfold freshR at h
  split at h <;> try (cases h; done)
  rename_i hc
  simp only [Bool.and_eq_true, Nat.blt_eq] at hc
  cases h
  exact ⟨_, _, rfl, hc⟩
theorem entR_spec {r : Nat} {c : CV T} (h : entR s hin cs base r = some c) : (keyIn hin.rows r = true ∧ look cs r = some c) ∨ (∃ q g, c = .row q g ∧ s.noR q g = true ∧ (q < pin ∨ 0 < g)) := by
  unfold entR at h
  split at h
  · rename_i hk; exact .inl ⟨hk, h⟩
  · have fr : ∀ {i}, freshR s base i = some c → (keyIn hin.rows r = true ∧ look cs r = some c) ∨ (∃ q g, c = .row q g ∧ s.noR q g = true ∧ (q < pin ∨ 0 < g)) := fun h => by
      obtain ⟨q, g, e, h1, h2⟩ := freshR_spec h
      exact .inr ⟨q, g, e, h1, .inl h2⟩
    split at h
    · split at h <;> try (cases h; done)
      split at h
      · rename_i q _ _
        split at h <;> try (cases h; done)
        rename_i hc
        simp only [Bool.and_eq_true] at hc
        cases h
        refine .inr ⟨_, _, rfl, hc.1, .inr ?_⟩
        have hk := hc.2
        have : ∀ l : List (Nat × RowS T), keyIn l q = true → ∃ R, look l q = some R := by
          intro l
          induction l with
          | nil => intro h; cases h
          | cons x l ih =>
            intro h
            obtain ⟨j, R⟩ := x
            simp only [keyIn, Bool.or_eq_true, beq_iff_eq] at h
            simp only [look]
            split
            · exact ⟨_, rfl⟩
            · rename_i hne
              rcases h with h | h
              · exact absurd h hne
              · exact ih h
        obtain ⟨R, hR⟩ := this _ hk
        simp only [St.nextR, hR]
        omega
      · exact fr h
    · exact fr h
end
section
variable {Θ : Tab} {s : St Θ.T}
theorem keyIn_look {B : Type} {l : List (Nat × B)} {k : Nat} (h : keyIn l k = true) : ∃ b, look l k = some b := by
  induction l with
  | nil => cases h
  | cons x l ih =>
    obtain ⟨j, R⟩ := x
    simp only [keyIn, Bool.or_eq_true, beq_iff_eq] at h
    simp only [look]
    split
    · exact ⟨_, rfl⟩
    · rename_i hne
      rcases h with h | h
      · exact absurd h hne
      · exact ih h
theorem fillBs_has : ∀ (ts : List (Nat × Nat × List CT)) (ps : List (PV Θ.T)) (k : Nat), keyIn ts k = true → ∃ B', look (fillBs ts ps).1 k = some B' := by
  intro ts
  induction ts with
  | nil => intro ps k h; cases h
  | cons t ts ih =>
    intro ps k h
    simp only [keyIn, Bool.or_eq_true, beq_iff_eq] at h
    simp only [fillBs, look]
    split
    · exact ⟨_, rfl⟩
    · rename_i hne
      rcases h with h | h
      · exact absurd h hne
      · exact ih _ k h
theorem fillRs_has : ∀ (ts : List (Nat × Nat)) (ps : List (PV Θ.T)) (k : Nat), ts.length = ps.length → keyIn ts k = true → ∃ B', look (fillRs ts ps) k = some B' := by
  intro ts
  induction ts with
  | nil => intro ps k _ h; cases h
  | cons t ts ih =>
    intro ps k hl h
    cases ps with
    | nil => simp at hl
    | cons p ps =>
      simp only [keyIn, Bool.or_eq_true, beq_iff_eq] at h
      simp only [fillRs, look]
      split
      · exact ⟨_, rfl⟩
      · rename_i hne
        rcases h with h | h
        · exact absurd h hne
        · exact ih _ k (by simpa using hl) h
theorem rowHs_len : ∀ ts : List (Nat × Nat), (rowHs ts).length = ts.length
  | [] => rfl
  | t :: r => by simp [rowHs, rowHs_len r]
theorem st_hasB {h : Shape} {y : Ext Θ.T h} (hy : h.extB s = some y) {k : Nat} (hk : keyIn h.boxes k = true) : ∃ B', look (h.st y.x).boxes k = some B' := by
  obtain ⟨p, q, cs, ps1, ps2, ps3, _, _, _, _, _, _, _, _, _, _, t2, _⟩ := fill_split hy
  rw [t2]; exact fillBs_has _ _ _ hk
theorem st_hasR {h : Shape} {y : Ext Θ.T h} (hy : h.extB s = some y) {k : Nat} (hk : keyIn h.rows k = true) : ∃ R', look (h.st y.x).rows k = some R' := by
  obtain ⟨p, q, cs, ps1, ps2, ps3, _, _, _, _, _, _, _, _, g3, _, _, t3⟩ := fill_split hy
  rw [t3]
  refine fillRs_has _ _ _ ?_ hk
  have := g3.right.length
  have h2 : ∀ {ls : List Leaf} {cs : List (CV Θ.T)} {ps : List (PV Θ.T)}, All3 (fun l c p => ∃ z, s.get l c = some z ∧ p = l.mk z) ls cs ps → ls.length = ps.length := by
    intro ls cs ps h
    induction h with
    | nil => rfl
    | cons _ _ ih => simp [ih]
  rw [← h2 g3, rowHs_len]
theorem lentOk_B {h : Shape} (hok : h.lentOk = true) {k : Nat} (hk : keyIn h.boxes k = true) : pin ≤ k := by
  simp only [Shape.lentOk, Bool.and_eq_true, List.all_eq_true, Nat.ble_eq] at hok
  obtain ⟨b, hb⟩ := keyIn_look hk
  exact hok.1 _ (mem_of_look hb)
theorem lentOk_R {h : Shape} (hok : h.lentOk = true) {k : Nat} (hk : keyIn h.rows k = true) : pinned k = true := by
  simp only [Shape.lentOk, Bool.and_eq_true, List.all_eq_true] at hok
  obtain ⟨b, hb⟩ := keyIn_look hk
  exact hok.2 _ (mem_of_look hb)
theorem lentBs_mem {xs : List (Nat × Nat × Nat)} : ∀ {l : List (Nat × Nat × List CT)} {k : Nat} {kg : Nat × Nat}, k ∈ keysOf l → look xs k = some kg → kg.1 ∈ lentBs xs l := by
  intro l
  induction l with
  | nil => intro k kg h; cases h
  | cons b l ih =>
    intro k kg h hx
    simp only [keysOf, List.mem_cons] at h
    simp only [lentBs]
    rcases h with h | h
    · rw [← h, hx]; simp
    · have := ih h hx
      split
      · exact List.mem_cons_of_mem _ this
      · exact this
theorem lentRs_mem {bs : List (Nat × CV Θ.T)} : ∀ {l : List (Nat × Nat)} {r q g : Nat}, r ∈ keysOf l → look bs r = some (.row q g) → q ∈ lentRs bs l := by
  intro l
  induction l with
  | nil => intro k kg g h; cases h
  | cons b l ih =>
    intro r q g h hx
    simp only [keysOf, List.mem_cons] at h
    simp only [lentRs]
    rcases h with h | h
    · rw [← h, hx]; simp
    · have := ih h hx
      split
      · split
        · exact List.mem_cons_of_mem _ this
        · exact this
      · exact this
end
end Go.Den
