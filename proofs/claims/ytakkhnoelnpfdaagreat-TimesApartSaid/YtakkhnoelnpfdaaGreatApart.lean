/- Chapter 18: in a network that may be, the slots of two phases of one ring, and of two groups, lie apart. Plain. -/
import Derived.Test.YtakkhnoelnpfdaaGreatTimesC
import Derived.Test.YtakkhnoelnpfdaaGreatValidB
namespace Go.Proofs.YtakkhnoelnpfdaaGreat.Fn
open Go Go.RowKit Go.Den Go.Circ
set_option linter.unusedVariables false

/-! ### What a network that may be is -/
theorem thenE_ok {a b : Err} (h : (thenE a b).1 = 0) : a.1 = 0 ∧ b.1 = 0 := by
  unfold thenE at h
  split at h
  · rename_i h0; exact ⟨h0, h⟩
  · rename_i h0; exact absurd h h0
theorem inOf_mem {l : List ByteArray} {k : ByteArray} : inOf l k = true ↔ k ∈ l := by
  unfold inOf
  rw [List.any_eq_true]
  constructor
  · rintro ⟨x, hx, h⟩; rw [strEq_iff] at h; rw [h]; exact hx
  · intro h; exact ⟨k, h, (strEq_iff _ _).2 rfl⟩
theorem lineE_ok {ph : List PhaseT} {pos : Int} {seen names : List ByteArray} (hs : seen.Nodup) (h : (lineE ph pos seen names).1 = 0) : (seen ++ names).Nodup := by
  have key : ∀ m, m ≤ names.length → (seen ++ names.take m).Nodup := by
    intro m
    induction m with
    | zero => intro _; simpa using hs
    | succ m ih =>
      intro hm
      have h1 := ih (by omega)
      have h2 := scanE_ok h m (by omega)
      rw [take_snoc names m (ByteArray.mk #[]) (by omega), ← List.append_assoc]
      rw [List.nodup_append]
      refine ⟨h1, by simp, fun a ha b hb => ?_⟩
      rw [List.mem_singleton] at hb
      rintro rfl
      simp only [nameE] at h2
      rw [← hb] at h2
      split at h2
      · exact absurd h2 (err_ne (show (72 : Int) ≠ 0 by decide))
      · split at h2
        · exact absurd h2 (err_ne (show (71 : Int) ≠ 0 by decide))
        · rename_i h3
          exact h3 (inOf_mem.2 ha)
  have := key names.length (Nat.le_refl _)
  rwa [List.take_length] at this
theorem ringE_ok {ph : List PhaseT} {pos : Int} {seen : List ByteArray} {r : RowT} (hs : seen.Nodup) (h : (ringE ph pos seen r).1 = 0) : (seen ++ r.2).Nodup := by
  unfold ringE at h
  split at h
  · exact absurd h (err_ne (show (74 : Int) ≠ 0 by decide))
  · exact lineE_ok hs h
theorem groupE_ok {ph : List PhaseT} {pos : Int} {seen : List ByteArray} {g : List RowT} (hs : seen.Nodup) (h : (groupE ph pos seen g).1 = 0) : (seen ++ namesG g).Nodup := by
  obtain ⟨_, h2⟩ := groupE_len h
  have key : ∀ k, k ≤ g.length → (seen ++ namesG (g.take k)).Nodup := by
    intro k
    induction k with
    | zero => intro _; simpa [namesG] using hs
    | succ k ih =>
      intro hk
      rw [namesG_snoc g k (by omega), ← List.append_assoc]
      exact ringE_ok (ih (by omega)) (h2 k (by omega))
  have := key g.length (Nat.le_refl _)
  rwa [List.take_length] at this
theorem groupsE_ok {ph : List PhaseT} {pos : Int} {gs : List (List RowT)} (h : (groupsE ph pos gs).1 = 0) : (allNames gs).Nodup := by
  have h2 := scanE_ok h
  have key : ∀ k, k ≤ gs.length → (allNames (gs.take k)).Nodup := by
    intro k
    induction k with
    | zero => intro _; simp [allNames]
    | succ k ih =>
      intro hk
      rw [allNames_snoc gs k (by omega)]
      exact groupE_ok (ih (by omega)) (h2 k (by omega))
  have := key gs.length (Nat.le_refl _)
  rwa [List.take_length] at this
/-- What is asked of a node here. -/
structure GoodN (x : NodeT) : Prop where
  home : ∀ h ∈ x.2.1, 0 ≤ homeOf x.2.2.2.1 h.1
  dist : ∀ i k, i < k → k < x.2.2.2.1.length → (x.2.2.2.1.getD i zPhase).1 ≠ (x.2.2.2.1.getD k zPhase).1
  nodup : (allNames x.2.2.2.2.1).Nodup
  all : ∀ p ∈ x.2.2.2.1, p.1 ∈ allNames x.2.2.2.2.1
theorem nodeE_good {x : NodeT} (h : (nodeE x).1 = 0) : GoodN x := by
  unfold nodeE at h
  split at h
  · split at h
    · obtain ⟨h, _⟩ := thenE_ok h
      obtain ⟨h, hr⟩ := thenE_ok h
      obtain ⟨h, _⟩ := thenE_ok h
      obtain ⟨_, hp⟩ := thenE_ok h
      unfold phasesE at hp
      split at hp
      · rename_i hp1
        unfold ringsE at hr
        split at hr
        · rename_i hr1
          refine ⟨mem_getD (d := zHead) fun i hi => ?_, fun i k hik hk e => ?_, groupsE_ok hr1, mem_getD (d := zPhase) fun i hi => ?_⟩
          · have := scanE_ok hp i hi
            unfold homeE at this
            split at this
            · exact absurd this (err_ne (show (73 : Int) ≠ 0 by decide))
            · omega
          · have := scanE_ok hp1 k hk
            unfold phaseE at this
            split at this
            · exact absurd this (err_ne (show (71 : Int) ≠ 0 by decide))
            · rename_i hn
              apply hn
              unfold phaseIx
              have hany : (x.2.2.2.1.any fun h => strEq h.1 (x.2.2.2.1.getD k zPhase).1) = true := (any_getD _ zPhase _).2 ⟨k, hk, (strEq_iff _ _).2 rfl⟩
              rw [← idxI_any] at hany
              obtain ⟨j, e1, _, _, e4⟩ := idxI_spec _ zPhase _ (of_decide_eq_true hany)
              rw [e1]
              rcases Nat.lt_or_ge i j with h' | h'
              · have := e4 i h'
                rw [(strEq_iff _ _).2 e] at this; cases this
              · omega
          · have := scanE_ok hr i hi
            split at this
            · rename_i hin; exact inOf_mem.1 hin
            · exact absurd this (err_ne (show (74 : Int) ≠ 0 by decide))
        · rename_i hr1; exact absurd hr hr1
      · rename_i hp1; exact absurd hp hp1
    · exact absurd h (err_ne (show (73 : Int) ≠ 0 by decide))
  · exact absurd h (err_ne (show (4 : Int) ≠ 0 by decide))
theorem netE_good {x : NetT} (h : (netE x).1 = 0) : 0 < x.2.2.2.2.2.1.length ∧ ∀ y ∈ x.2.2.2.2.2.1, GoodN y := by
  unfold netE at h
  split at h
  · exact absurd h (err_ne (show (4 : Int) ≠ 0 by decide))
  split at h
  · split at h
    · exact absurd h (err_ne (show (73 : Int) ≠ 0 by decide))
    · rename_i hl
      split at h
      · rename_i hs
        refine ⟨by omega, mem_getD (d := zNode) fun i hi => ?_⟩
        have := scanE_ok hs i hi
        unfold oneNodeE at this
        split at this
        · exact absurd this (err_ne (show (71 : Int) ≠ 0 by decide))
        · exact nodeE_good this
      · rename_i hs; exact absurd h hs
  · exact absurd h (err_ne (show (70 : Int) ≠ 0 by decide))
/-! ### Where slots lie -/
/-- A slot at its place. -/
structure At (spans : List SpanT) (gi ri m : Nat) (p : SlotT × Int) : Prop where
  lg : gi < spans.length
  lr : ri < (spans.getD gi []).length
  lm : m < ((spans.getD gi []).getD ri []).length
  slot : p.1 = ((spans.getD gi []).getD ri []).getD m zSlot
  at_ : p.2 = totOf (spans.take gi) + sumOf (((spans.getD gi []).getD ri []).take m)
theorem mem_lineP {b : Int} {p : SlotT × Int} : ∀ {l : List SlotT}, p ∈ lineP b l ↔ ∃ m, m < l.length ∧ p.1 = l.getD m zSlot ∧ p.2 = b + sumOf (l.take m) := by
  intro l
  induction l generalizing b with
  | nil => simp [lineP]
  | cons a l ih =>
    simp only [lineP, List.mem_cons, ih]
    constructor
    · rintro (rfl | ⟨m, h1, h2, h3⟩)
      · exact ⟨0, by simp, by simp, by simp [sumOf]⟩
      · refine ⟨m + 1, by simpa using h1, by simpa using h2, ?_⟩
        rw [h3]; simp only [List.take_succ_cons, sumOf, List.map_cons, List.sum_cons]; omega
    · rintro ⟨m, h1, h2, h3⟩
      cases m with
      | zero =>
        left
        simp [sumOf] at h2 h3
        exact Prod.ext h2 h3
      | succ m =>
        right
        refine ⟨m, by simpa using h1, by simpa using h2, ?_⟩
        rw [h3]; simp only [List.take_succ_cons, sumOf, List.map_cons, List.sum_cons]; omega
theorem mem_allP {b : Int} {p : SlotT × Int} : ∀ {spans : List SpanT}, p ∈ allP b spans ↔ ∃ gi ri m, gi < spans.length ∧ ri < (spans.getD gi []).length ∧ m < ((spans.getD gi []).getD ri []).length ∧ p.1 = ((spans.getD gi []).getD ri []).getD m zSlot ∧ p.2 = b + totOf (spans.take gi) + sumOf (((spans.getD gi []).getD ri []).take m) := by
  intro spans
  induction spans generalizing b with
  | nil => simp [allP]
  | cons g spans ih =>
    simp only [allP, List.mem_append, ih, spanP, List.mem_flatMap, mem_lineP]
    constructor
    · rintro (⟨l, hl, m, h1, h2, h3⟩ | ⟨gi, ri, m, h1, h2, h3, h4, h5⟩)
      · obtain ⟨ri, hr, rfl⟩ := List.getElem_of_mem hl
        refine ⟨0, ri, m, by simp, by simpa using hr, ?_, ?_, ?_⟩
        · simpa [List.getD_eq_getElem?_getD, hr] using h1
        · rw [h2]; simp [List.getD_eq_getElem?_getD, hr]
        · rw [h3]; simp [List.getD_eq_getElem?_getD, hr, totOf]
      · refine ⟨gi + 1, ri, m, by simpa using h1, by simpa using h2, by simpa using h3, by simpa using h4, ?_⟩
        rw [h5]; simp only [List.take_succ_cons, totOf, List.map_cons, List.sum_cons, List.getD_cons_succ]; omega
    · rintro ⟨gi, ri, m, h1, h2, h3, h4, h5⟩
      cases gi with
      | zero =>
        left
        simp only [List.getD_cons_zero, List.take_zero] at h2 h3 h4 h5
        refine ⟨g.getD ri [], getD_mem _ _ _ h2, m, h3, h4, ?_⟩
        rw [h5]; simp [totOf]
      | succ gi =>
        right
        simp only [List.getD_cons_succ, List.take_succ_cons] at h2 h3 h4 h5
        refine ⟨gi, ri, m, by simpa using h1, h2, h3, h4, ?_⟩
        rw [h5]; simp only [totOf, List.map_cons, List.sum_cons]; omega
theorem slotOf_at {spans : List SpanT} {k : ByteArray} {p : SlotT × Int} (h : slotOf spans k = some p) : p.1.1 = k ∧ ∃ gi ri m, At spans gi ri m p := by
  unfold slotOf at h
  have h1 := List.find?_some h
  have h2 := List.mem_of_find?_eq_some h
  refine ⟨(strEq_iff _ _).1 h1, ?_⟩
  obtain ⟨gi, ri, m, a1, a2, a3, a4, a5⟩ := mem_allP.1 h2
  exact ⟨gi, ri, m, a1, a2, a3, a4, by rw [a5]; omega⟩
theorem slotOf_some {spans : List SpanT} {k : ByteArray} {gi ri m : Nat} (h1 : gi < spans.length) (h2 : ri < (spans.getD gi []).length) (h3 : m < ((spans.getD gi []).getD ri []).length) (hk : (((spans.getD gi []).getD ri []).getD m zSlot).1 = k) : ∃ p, slotOf spans k = some p := by
  unfold slotOf
  cases hq : (allP 0 spans).find? fun p => strEq p.1.1 k with
  | some p => exact ⟨p, rfl⟩
  | none =>
    have := List.find?_eq_none.1 hq (((spans.getD gi []).getD ri []).getD m zSlot, 0 + totOf (spans.take gi) + sumOf (((spans.getD gi []).getD ri []).take m)) (mem_allP.2 ⟨gi, ri, m, h1, h2, h3, rfl, rfl⟩)
    simp only at this
    rw [hk] at this
    exact absurd ((strEq_iff k k).2 rfl) this
theorem foldl_ge (g : SpanT) : ∀ m : Int, m ≤ g.foldl (fun m l => max m (sumOf l)) m ∧ ∀ l ∈ g, sumOf l ≤ g.foldl (fun m l => max m (sumOf l)) m := by
  induction g with
  | nil => intro m; simp
  | cons a g ih =>
    intro m
    have := ih (max m (sumOf a))
    refine ⟨by simp only [List.foldl_cons]; omega, fun l hl => ?_⟩
    simp only [List.foldl_cons]
    rcases List.mem_cons.1 hl with rfl | hl
    · omega
    · exact this.2 l hl
theorem sum_le_long {g : SpanT} {l : List SlotT} (h : l ∈ g) : sumOf l ≤ longOf g := (foldl_ge g 0).2 l h
theorem sumOf_take_mono {l : List SlotT} (h : ∀ s ∈ l, timedOf s = true) {i j : Nat} (hij : i ≤ j) : sumOf (l.take i) ≤ sumOf (l.take j) := by
  have e : l.take j = l.take i ++ (l.drop i).take (j - i) := by
    rw [show j = i + (j - i) by omega, List.take_add, show i + (j - i) - i = j - i by omega]
  rw [e]
  unfold sumOf
  rw [List.map_append, List.sum_append]
  have := sum_bd (fun s : SlotT => s.2.1) 6000 ((l.drop i).take (j - i)) fun s hs => (timed_bd (h s (List.mem_of_mem_drop (List.mem_of_mem_take hs)))).1
  omega
theorem totOf_take_mono {g : List SpanT} (h : ∀ x ∈ g, spanOk x = true) {i j : Nat} (hij : i ≤ j) : totOf (g.take i) ≤ totOf (g.take j) := by
  have e : g.take j = g.take i ++ (g.drop i).take (j - i) := by
    rw [show j = i + (j - i) by omega, List.take_add, show i + (j - i) - i = j - i by omega]
  rw [e]
  unfold totOf
  rw [List.map_append, List.sum_append]
  have := sum_bd longOf 24000 ((g.drop i).take (j - i)) fun s hs => longOf_bd (h s (List.mem_of_mem_drop (List.mem_of_mem_take hs)))
  omega
/-- A slot lies in its span, and its span in the cycle. -/
theorem At.bd {spans : List SpanT} {gi ri m : Nat} {p : SlotT × Int} (h : At spans gi ri m p) (hs : soundOf spans = true) :
    timedOf p.1 = true ∧ totOf (spans.take gi) ≤ p.2 ∧ p.2 + p.1.2.1 ≤ totOf (spans.take (gi + 1)) ∧ 0 ≤ p.2 ∧ p.2 + p.1.2.1 ≤ totOf spans := by
  obtain ⟨h4, hx⟩ := sound_bd hs
  have hsp := hx _ (getD_mem spans gi [] h.lg)
  have hln := (span_bd hsp).2 _ (getD_mem _ ri [] h.lr)
  obtain ⟨l4, lt, _⟩ := line_bd hln
  have hts := lt _ (getD_mem _ m zSlot h.lm)
  have e1 : sumOf (((spans.getD gi []).getD ri []).take (m + 1)) = sumOf (((spans.getD gi []).getD ri []).take m) + p.1.2.1 := by
    unfold sumOf; rw [sum_take _ _ m zSlot h.lm, h.slot]
  have e2 : totOf (spans.take (gi + 1)) = totOf (spans.take gi) + longOf (spans.getD gi []) := by unfold totOf; rw [sum_take _ _ gi [] h.lg]
  have h5 := sumOf_take_mono lt (show m + 1 ≤ ((spans.getD gi []).getD ri []).length by have := h.lm; omega)
  rw [List.take_length] at h5
  have h6 := sum_le_long (getD_mem (spans.getD gi []) ri [] h.lr)
  have h7 := sumOf_take_mono lt (Nat.zero_le m)
  have h8 := totOf_take_mono hx (show gi + 1 ≤ spans.length by have := h.lg; omega)
  rw [List.take_length] at h8
  have h9 := (tot_bd hx gi).1
  have h0 : sumOf (((spans.getD gi []).getD ri []).take 0) = 0 := by simp [sumOf]
  rw [h0] at h7
  have ha := h.at_
  refine ⟨by rw [h.slot]; exact hts, ?_, ?_, ?_, ?_⟩ <;> omega
/-- Slots of two places, of one ring or of two groups, lie apart. -/
theorem At.apart {spans : List SpanT} {gi ri m gi' ri' m' : Nat} {p q : SlotT × Int} (h : At spans gi ri m p) (h' : At spans gi' ri' m' q) (hs : soundOf spans = true) (hne : gi ≠ gi' ∨ (gi = gi' ∧ ri = ri' ∧ m ≠ m')) :
    p.2 + p.1.2.1 ≤ q.2 ∨ q.2 + q.1.2.1 ≤ p.2 := by
  have b1 := h.bd hs
  have b2 := h'.bd hs
  obtain ⟨h4, hx⟩ := sound_bd hs
  rcases hne with hne | ⟨rfl, rfl, hne⟩
  · rcases Nat.lt_or_gt_of_ne hne with h1 | h1
    · have := totOf_take_mono hx (show gi + 1 ≤ gi' by omega)
      omega
    · have := totOf_take_mono hx (show gi' + 1 ≤ gi by omega)
      omega
  · have hln := (span_bd (hx _ (getD_mem spans gi [] h.lg))).2 _ (getD_mem _ ri [] h.lr)
    obtain ⟨_, lt, _⟩ := line_bd hln
    have e1 : sumOf (((spans.getD gi []).getD ri []).take (m + 1)) = sumOf (((spans.getD gi []).getD ri []).take m) + p.1.2.1 := by
      unfold sumOf; rw [sum_take _ _ m zSlot h.lm, h.slot]
    have e2 : sumOf (((spans.getD gi []).getD ri []).take (m' + 1)) = sumOf (((spans.getD gi []).getD ri []).take m') + q.1.2.1 := by
      unfold sumOf; rw [sum_take _ _ m' zSlot h'.lm, h'.slot]
    have a1 := h.at_
    have a2 := h'.at_
    rcases Nat.lt_or_gt_of_ne hne with h1 | h1
    · have := sumOf_take_mono lt (show m + 1 ≤ m' by omega)
      omega
    · have := sumOf_take_mono lt (show m' + 1 ≤ m by omega)
      omega
/-! ### Fits -/
theorem cover {α : Type} [DecidableEq α] {l names : List α} (hl : l.Nodup) (hs : ∀ x ∈ l, x ∈ names) (hn : l.length = names.length) : ∀ x ∈ names, x ∈ l := by
  induction l generalizing names with
  | nil => intro x hx; cases names with | nil => cases hx | cons a b => simp at hn
  | cons a l ih =>
    intro x hx
    rw [List.nodup_cons] at hl
    have ha := hs a (by simp)
    by_cases e : x = a
    · rw [e]; simp
    · refine List.mem_cons_of_mem _ (ih (names := names.erase a) hl.2 (fun y hy => ?_) ?_ x ?_)
      · exact (List.mem_erase_of_ne (fun e2 => hl.1 (by rw [← e2]; exact hy))).2 (hs y (by simp [hy]))
      · rw [List.length_erase_of_mem ha]; simp at hn; omega
      · exact (List.mem_erase_of_ne e).2 hx
theorem leftOf_mem {names : List ByteArray} {l : List SlotT} {k : ByteArray} (h : k ∈ leftOf names l) : k ∈ names ∧ ∀ s ∈ l, s.1 ≠ k := by
  unfold leftOf at h
  rw [List.mem_filter] at h
  refine ⟨h.1, fun s hs e => ?_⟩
  have h2 := h.2
  simp only [Bool.not_eq_true', List.any_eq_false] at h2
  exact h2 s hs ((strEq_iff _ _).2 e.symm)
/-- What a ring that fits is. -/
theorem ringOf_ok {peds : List PedT} {names : List ByteArray} {l : List SlotT} (h : ringOf peds names l = true) :
    (∀ m, m < l.length → (l.getD m zSlot).1 ∈ names ∧ (l.getD m zSlot).2.2.1 + (l.getD m zSlot).2.2.2.1 < (l.getD m zSlot).2.1) ∧ (∀ m m', m < m' → m' < l.length → (l.getD m zSlot).1 ≠ (l.getD m' zSlot).1) ∧ ∀ k ∈ names, ∃ m, m < l.length ∧ (l.getD m zSlot).1 = k := by
  simp only [ringOf, Bool.and_eq_true, range_all, decide_eq_true_eq, slotOk] at h
  obtain ⟨h1, h2⟩ := h
  have a : ∀ m, m < l.length → (l.getD m zSlot).1 ∈ leftOf names (l.take m) := fun m hm => inOf_mem.1 (h1 m hm).1.1
  have dist : ∀ m m', m < m' → m' < l.length → (l.getD m zSlot).1 ≠ (l.getD m' zSlot).1 := fun m m' hm hm' => by
    have := (leftOf_mem (a m' hm')).2 (l.getD m zSlot) (by
      rw [← take_getD l m' m zSlot hm]
      exact getD_mem _ _ _ (by simp; omega))
    exact this
  refine ⟨fun m hm => ⟨(leftOf_mem (a m hm)).1, (h1 m hm).1.2⟩, dist, fun k hk => ?_⟩
  have hnd : (l.map (·.1)).Nodup := by
    rw [List.nodup_iff_pairwise_ne, List.pairwise_iff_getElem]
    intro i j hi hj hij
    have := dist i j hij (by simpa using hj)
    rw [getD_lt _ _ _ (by simpa using hi), getD_lt _ _ _ (by simpa using hj)] at this
    simpa using this
  have := cover hnd (fun x hx => by
    obtain ⟨s, hs, rfl⟩ := List.mem_map.1 hx
    obtain ⟨m, hm, rfl⟩ := List.getElem_of_mem hs
    have := (leftOf_mem (a m hm)).1
    rwa [getD_lt _ _ _ hm] at this) (by simpa using h2) k hk
  obtain ⟨s, hs, rfl⟩ := List.mem_map.1 this
  obtain ⟨m, hm, rfl⟩ := List.getElem_of_mem hs
  exact ⟨m, hm, by rw [getD_lt _ _ _ hm]⟩
theorem fits_ring {peds : List PedT} {gs : List (List RowT)} {spans : List SpanT} (h : fitsOf peds gs spans = true) {gi ri : Nat} (h1 : gi < spans.length) (h2 : ri < (spans.getD gi []).length) :
    ringOf peds ((gs.getD gi []).getD ri zRow).2 ((spans.getD gi []).getD ri []) = true ∧ (spans.getD gi []).length = (gs.getD gi []).length := by
  have := (fits_bd h).2.2.1 gi h1
  simp only [groupOk, Bool.and_eq_true, range_all, decide_eq_true_eq] at this
  exact ⟨this.2 ri h2, this.1⟩
theorem mem_allNames {gs : List (List RowT)} {k : ByteArray} : k ∈ allNames gs ↔ ∃ gi ri, gi < gs.length ∧ ri < (gs.getD gi []).length ∧ k ∈ ((gs.getD gi []).getD ri zRow).2 := by
  unfold allNames namesG
  simp only [List.mem_flatMap]
  constructor
  · rintro ⟨g, hg, r, hr, hk⟩
    obtain ⟨gi, h1, rfl⟩ := List.getElem_of_mem hg
    obtain ⟨ri, h2, rfl⟩ := List.getElem_of_mem hr
    exact ⟨gi, ri, h1, by rw [getD_lt _ _ _ h1]; exact h2, by rw [getD_lt _ _ _ h1, getD_lt _ _ _ h2]; exact hk⟩
  · rintro ⟨gi, ri, h1, h2, hk⟩
    exact ⟨_, getD_mem _ _ _ h1, _, getD_mem _ _ _ h2, hk⟩
/-- A name stands in one ring alone. -/
theorem ring_unique {gs : List (List RowT)} (hn : (allNames gs).Nodup) {k : ByteArray} {gi ri gi' ri' : Nat} (h1 : gi < gs.length) (h2 : ri < (gs.getD gi []).length) (hk : k ∈ ((gs.getD gi []).getD ri zRow).2)
    (h1' : gi' < gs.length) (h2' : ri' < (gs.getD gi' []).length) (hk' : k ∈ ((gs.getD gi' []).getD ri' zRow).2) : gi = gi' ∧ ri = ri' := by
  have inner : ∀ (g : List RowT), (namesG g).Nodup → ∀ {a b : Nat}, a < b → b < g.length → k ∈ (g.getD a zRow).2 → k ∈ (g.getD b zRow).2 → False := by
    intro g hg a b hab hb ha hb'
    have e : g = g.take b ++ g.drop b := (List.take_append_drop b g).symm
    have : (namesG (g.take b) ++ namesG (g.drop b)).Nodup := by
      have : namesG g = namesG (g.take b) ++ namesG (g.drop b) := by unfold namesG; rw [← List.flatMap_append, List.take_append_drop]
      rw [← this]; exact hg
    rw [List.nodup_append] at this
    refine this.2.2 k ?_ k ?_ rfl
    · unfold namesG; rw [List.mem_flatMap]
      exact ⟨g.getD a zRow, by rw [← take_getD g b a zRow hab]; exact getD_mem _ _ _ (by simp; omega), ha⟩
    · unfold namesG; rw [List.mem_flatMap]
      refine ⟨g.getD b zRow, ?_, hb'⟩
      have : g.drop b = g.getD b zRow :: g.drop (b + 1) := by rw [getD_lt _ _ _ hb]; exact List.drop_eq_getElem_cons hb
      rw [this]; simp
  have outer : ∀ {a b : Nat}, a < b → b < gs.length → k ∈ namesG (gs.getD a []) → k ∈ namesG (gs.getD b []) → False := by
    intro a b hab hb ha hb'
    have : (allNames (gs.take b) ++ allNames (gs.drop b)).Nodup := by
      have : allNames gs = allNames (gs.take b) ++ allNames (gs.drop b) := by unfold allNames; rw [← List.flatMap_append, List.take_append_drop]
      rw [← this]; exact hn
    rw [List.nodup_append] at this
    refine this.2.2 k ?_ k ?_ rfl
    · unfold allNames; rw [List.mem_flatMap]
      exact ⟨gs.getD a [], by rw [← take_getD gs b a [] hab]; exact getD_mem _ _ _ (by simp; omega), ha⟩
    · unfold allNames; rw [List.mem_flatMap]
      refine ⟨gs.getD b [], ?_, hb'⟩
      have : gs.drop b = gs.getD b [] :: gs.drop (b + 1) := by rw [getD_lt _ _ _ hb]; exact List.drop_eq_getElem_cons hb
      rw [this]; simp
  have m1 : k ∈ namesG (gs.getD gi []) := by unfold namesG; rw [List.mem_flatMap]; exact ⟨_, getD_mem _ _ _ h2, hk⟩
  have m2 : k ∈ namesG (gs.getD gi' []) := by unfold namesG; rw [List.mem_flatMap]; exact ⟨_, getD_mem _ _ _ h2', hk'⟩
  have e1 : gi = gi' := by
    rcases Nat.lt_trichotomy gi gi' with h | h | h
    · exact (outer h h1' m1 m2).elim
    · exact h
    · exact (outer h h1 m2 m1).elim
  subst e1
  have hg : (namesG (gs.getD gi [])).Nodup := by
    have hsub : (namesG (gs.getD gi [])).Sublist (allNames gs) := by
      unfold allNames
      rw [List.flatMap_def]
      exact List.sublist_flatten_of_mem (List.mem_map.2 ⟨_, getD_mem _ _ _ h1, rfl⟩)
    exact hn.sublist hsub
  refine ⟨rfl, ?_⟩
  rcases Nat.lt_trichotomy ri ri' with h | h | h
  · exact (inner _ hg h h2' hk hk').elim
  · exact h
  · exact (inner _ hg h h2 hk' hk).elim
end Go.Proofs.YtakkhnoelnpfdaaGreat.Fn
