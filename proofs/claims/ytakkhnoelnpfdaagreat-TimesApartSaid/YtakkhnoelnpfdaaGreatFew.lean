/- Which networks and timings are small, and how long timings last by the document: what the laws' guards compute. -/
import Derived.Test.YtakkhnoelnpfdaaGreatTimesB
namespace Go.Proofs.YtakkhnoelnpfdaaGreat.Fn
open Go Go.RowKit Go.Den Go.Circ
set_option linter.unusedVariables false

/-- Short names, and few. -/
theorem strings_ (l : List ByteArray) : EvO (fun n => law06_strings n l) true (l.length ≤ 50) false := by
  unfold law06_strings
  refine EvO.bindO (EvO.loop (st := fun i => (l, (i : Int))) (min l.length 50) (fun _ => True) (.inr l) (.inl false) rfl (fun i hi => ?_) ?_) (fun _ => ?_) (by exact .no (Ev.ret _))
  · have h1 : i < l.length := by omega
    simp only [letJ, ofNat_lt_true h1, cond_true, decide_eq_true (show (i : Int) < 50 by omega), inB_nat, h1, decide_true, atI_nat, wrap_succ (show i < 9223372036854775807 by omega)]
    exact EvO.cond (fun _ => .no (Ev.ret _)) (fun _ => .yes (Ev.ret _) trivial)
  · simp only [letJ]
    by_cases h1 : l.length ≤ 50
    · rw [Nat.min_eq_left h1]; simp only [ofNat_lt_irrefl, cond_false]; exact Ev.ret _
    · rw [Nat.min_eq_right (by omega)]
      simp only [ofNat_lt_true (show 50 < l.length by omega), cond_true, decide_eq_false (show ¬ ((50 : Nat) : Int) < 50 by omega), cond_false]; exact Ev.ret _
  · by_cases h1 : l.length ≤ 50
    · exact .yes ((Ev.ret _).of_eq (decide_eq_true (by omega))) h1
    · exact .no ((Ev.ret _).of_eq (decide_eq_false (by omega)))
/-- What a node is where it is small. -/
structure SmallN (x : NodeT) : Prop where
  heads : x.2.1.length ≤ 50
  peds : x.2.2.1.length ≤ 50
  phases : x.2.2.2.1.length ≤ 50
  groups : x.2.2.2.2.1.length ≤ 50
  foes : x.2.2.2.2.2.1.length ≤ 80
  phase : ∀ p ∈ x.2.2.2.1, p.2.1.length ≤ 50
  rings : ∀ g ∈ x.2.2.2.2.1, g.length ≤ 5
  rows : ∀ g ∈ x.2.2.2.2.1, ∀ r ∈ g, r.2.length ≤ 50
theorem SmallN.bd {x : NodeT} (h : SmallN x) : NodeBd x :=
  ⟨by have := h.heads; omega, by have := h.peds; omega, by have := h.phases; omega, fun p hp => by have := h.phase p hp; omega, fun g hg r hr => by have := h.rows g hg r hr; omega⟩
theorem mem_getD {A : Type} {l : List A} {d : A} {Q : A → Prop} (h : ∀ i, i < l.length → Q (l.getD i d)) : ∀ a ∈ l, Q a := fun a ha => by
  obtain ⟨i, hi, rfl⟩ := List.getElem_of_mem ha
  have := h i hi
  rwa [getD_lt _ _ _ hi] at this
set_option maxHeartbeats 1000000 in
theorem node06_ (x : NodeT) : EvO (fun n => law06_node n x) true (SmallN x) false := by
  obtain ⟨x1, x2, x3, x4, x5, x6, x7⟩ := x
  unfold law06_node
  refine EvO.cond (fun _ => .no (Ev.ret _)) (fun h1 => ?_)
  refine EvO.cond (fun _ => .no (Ev.ret _)) (fun h2 => ?_)
  refine EvO.cond (fun _ => .no (Ev.ret _)) (fun h3 => ?_)
  refine EvO.cond (fun _ => .no (Ev.ret _)) (fun h4 => ?_)
  refine EvO.cond (fun _ => .no (Ev.ret _)) (fun h5 => ?_)
  simp only [decide_eq_false_iff_not] at h1 h2 h3 h4 h5
  have b1 : x2.length ≤ 50 := by omega
  have b2 : x3.length ≤ 50 := by omega
  have b3 : x4.length ≤ 50 := by omega
  have b4 : x5.length ≤ 50 := by omega
  have b5 : x6.length ≤ 80 := by omega
  refine EvO.bind1 (x := (x1, x2, x3, x4, x5, x6, x7, x1 :: x2.map (·.1))) (Ev.loop (st := fun i => ((i : Int), x1, x2, x3, x4, x5, x6, x7, x1 :: (x2.take i).map (·.1))) x2.length _ rfl (fun i hi => ?_) ?_) ?_
  · have hl : (x1 :: (x2.take i).map (·.1)).length ≤ 1000 := by simp; omega
    rw [take_snoc x2 i (ByteArray.mk #[], 0, 0, 0, 0, 0, 0, 0, 0, 0, 0) hi]
    simp only [ofNat_lt_true hi, cond_true, inB_nat, hi, decide_true, atI_nat, wrap_succ (show i < 9223372036854775807 by omega), List.map_append, List.map_cons, List.map_nil]
    refine Ev.yes (fitB_ok ?_) (Ev.ret _)
    simp only [List.length_cons, List.length_nil] at hl ⊢; omega
  · simp only [ofNat_lt_irrefl, cond_false, List.take_length]; exact Ev.ret _
  refine EvO.cond (fun _ => ?_) (fun h => ?_)
  rotate_left
  · exfalso
    simp only [cutOk, mn_eq, Bool.and_eq_false_iff, decide_eq_false_iff_not] at h
    omega
  refine EvO.bindO (strings_ _) (fun _ => ?_) (.no (Ev.ret _))
  refine EvO.bindO (EvO.loop (st := fun i => ((i : Int), x1, x2, x3, x4, x5, x6, x7)) x3.length (fun _ => True) (.inr (x1, x2, x3, x4, x5, x6, x7)) (.inl false) rfl (fun i hi => ?_) ?_) (fun _ => ?_) (by exact .no (Ev.ret _))
  · simp only [ofNat_lt_true hi, cond_true, inB_nat, hi, decide_true, atI_nat, wrap_succ (show i < 9223372036854775807 by omega)]
    exact EvO.bindO (strings_ _) (fun _ => .yes (Ev.ret _) trivial) (.no (Ev.ret _))
  · simp only [ofNat_lt_irrefl, cond_false]; exact Ev.ret _
  refine EvO.bindO (EvO.loop (st := fun i => ((i : Int), x1, x2, x3, x4, x5, x6, x7)) x4.length (fun i => (x4.getD i (ByteArray.mk #[], [], 0)).2.1.length ≤ 50) (.inr (x1, x2, x3, x4, x5, x6, x7)) (.inl false) rfl (fun i hi => ?_) ?_) (fun hph => ?_) (by exact .no (Ev.ret _))
  · simp only [ofNat_lt_true hi, cond_true, inB_nat, hi, decide_true, atI_nat, wrap_succ (show i < 9223372036854775807 by omega), letJ]
    exact EvO.bindO (strings_ _) (fun _ => EvO.bindO (strings_ _) (fun h => .yes (Ev.ret _) h) (.no (Ev.ret _))) (.no (Ev.ret _))
  · simp only [ofNat_lt_irrefl, cond_false]; exact Ev.ret _
  refine EvO.bindO (EvO.loop (st := fun i => ((i : Int), x1, x2, x3, x4, x5, x6, x7)) x5.length (fun i => (x5.getD i []).length ≤ 5 ∧ ∀ k, k < (x5.getD i []).length → ((x5.getD i []).getD k (false, [])).2.length ≤ 50) (.inr (x1, x2, x3, x4, x5, x6, x7)) (.inl false) rfl (fun i hi => ?_) ?_) (fun hgr => ?_) (by exact .no (Ev.ret _))
  · simp only [ofNat_lt_true hi, cond_true, inB_nat, hi, decide_true, atI_nat]
    refine EvO.cond (fun _ => .no (Ev.ret _)) (fun h6 => ?_)
    simp only [decide_eq_false_iff_not] at h6
    have b6 : (x5.getD i []).length ≤ 5 := by omega
    generalize hg : x5.getD i [] = g at b6
    refine EvO.bindO (EvO.loop (st := fun k => ((i : Int), (k : Int), x1, x2, x3, x4, x5, x6, x7)) g.length (fun k => (g.getD k (false, [])).2.length ≤ 50) (.inr ((i : Int), x1, x2, x3, x4, x5, x6, x7)) (.inl false) rfl (fun k hk => ?_) ?_) (fun h => ?_) (by exact .no (Ev.ret _))
    · simp only [inB_nat, hi, decide_true, cond_true, atI_nat, hg, ofNat_lt_true hk, hk, wrap_succ (show k < 9223372036854775807 by omega)]
      exact EvO.bindO (strings_ _) (fun h => .yes (Ev.ret _) h) (.no (Ev.ret _))
    · simp only [inB_nat, hi, decide_true, cond_true, atI_nat, hg, ofNat_lt_irrefl, cond_false]; exact Ev.ret _
    · simp only [Sum.elim_inr, wrap_succ (show i < 9223372036854775807 by omega)]
      exact .yes (Ev.ret _) ⟨b6, h⟩
  · simp only [ofNat_lt_irrefl, cond_false]; exact Ev.ret _
  refine EvO.bindO (EvO.loop (st := fun i => ((i : Int), x1, x2, x3, x4, x5, x6, x7)) x6.length (fun _ => True) (.inr ()) (.inl false) rfl (fun i hi => ?_) ?_) (fun _ => ?_) (by exact .no (Ev.ret _))
  · simp only [ofNat_lt_true hi, cond_true, inB_nat, hi, decide_true, atI_nat, wrap_succ (show i < 9223372036854775807 by omega)]
    exact EvO.bindO (strings_ _) (fun _ => .yes (Ev.ret _) trivial) (.no (Ev.ret _))
  · simp only [ofNat_lt_irrefl, cond_false]; exact Ev.ret _
  exact .yes (Ev.ret _) ⟨b1, b2, b3, b4, b5, mem_getD hph, mem_getD fun i hi => (hgr i hi).1, mem_getD fun i hi => mem_getD fun k hk => (hgr i hi).2 k hk⟩
abbrev StopT := ByteArray × ByteArray × ByteArray × Int × Int × Int
abbrev NetT := Int × Int × Int × Int × Int × List NodeT × List StopT × Int × Int
theorem few06_ (x : NetT) : EvO (fun n => law06_Few n x) true ((x.2.2.2.2.2.1.length ≤ 15 ∧ x.2.2.2.2.2.2.1.length ≤ 15) ∧ ∀ y ∈ x.2.2.2.2.2.1, SmallN y) false := by
  obtain ⟨a, b, c, d, e, ns, ss, f, g⟩ := x
  unfold law06_Few
  refine EvO.cond (fun _ => .no (Ev.ret _)) (fun h1 => ?_)
  refine EvO.cond (fun _ => .no (Ev.ret _)) (fun h2 => ?_)
  simp only [decide_eq_false_iff_not] at h1 h2
  have b1 : ns.length ≤ 15 := by omega
  have b2 : ss.length ≤ 15 := by omega
  refine EvO.bindO (EvO.loop (st := fun i => ((i : Int), a, b, c, d, e, ns, ss, f, g)) ns.length (fun i => SmallN (ns.getD i (ByteArray.mk #[], [], [], [], [], [], 0))) (.inr (a, b, c, d, e, ns, ss, f, g)) (.inl false) rfl (fun i hi => ?_) ?_) (fun hn => ?_) (by exact .no (Ev.ret _))
  · simp only [ofNat_lt_true hi, cond_true, inB_nat, hi, decide_true, atI_nat, wrap_succ (show i < 9223372036854775807 by omega)]
    exact EvO.bindO (node06_ _) (fun h => .yes (Ev.ret _) h) (.no (Ev.ret _))
  · simp only [ofNat_lt_irrefl, cond_false]; exact Ev.ret _
  refine EvO.bindO (EvO.loop (st := fun i => ((i : Int), a, b, c, d, e, ns, ss, f, g)) ss.length (fun _ => True) (.inr ()) (.inl false) rfl (fun i hi => ?_) ?_) (fun _ => ?_) (by exact .no (Ev.ret _))
  · simp only [ofNat_lt_true hi, cond_true, inB_nat, hi, decide_true, atI_nat, wrap_succ (show i < 9223372036854775807 by omega)]
    exact EvO.bindO (strings_ _) (fun _ => .yes (Ev.ret _) trivial) (.no (Ev.ret _))
  · simp only [ofNat_lt_irrefl, cond_false]; exact Ev.ret _
  exact .yes (Ev.ret _) ⟨⟨b1, b2⟩, mem_getD hn⟩
/-- What a timing is where it is small. -/
structure SmallT (g : List SpanT) : Prop where
  spans : g.length ≤ 6
  rings : ∀ x ∈ g, x.length ≤ 6
  rows : ∀ x ∈ g, ∀ l ∈ x, l.length ≤ 8
  walks : ∀ x ∈ g, ∀ l ∈ x, ∀ s ∈ l, s.2.2.2.2.length ≤ 12
theorem SmallT.bd {g : List SpanT} (h : SmallT g) : Bd g := fun x hx l hl s hs => by have := h.walks x hx l hl s hs; omega
abbrev PlanT := Int × List TimT × Int × Int × Int × Int × Bool × Int
def zTim : TimT := (ByteArray.mk #[], 0, [], 0, 0)
set_option maxHeartbeats 1000000 in
theorem few17_ (x : PlanT) : EvO (fun n => law17_Few n x) true (x.2.1.length ≤ 15 ∧ ∀ t ∈ x.2.1, SmallT t.2.2.1) false := by
  obtain ⟨a, ts, b, c, d, e, f, g⟩ := x
  unfold law17_Few
  refine EvO.cond (fun _ => .no (Ev.ret _)) (fun h1 => ?_)
  simp only [decide_eq_false_iff_not] at h1
  have b1 : ts.length ≤ 15 := by omega
  refine EvO.bindO (EvO.loop (st := fun i => ((i : Int), a, ts, b, c, d, e, f, g)) ts.length (fun i => SmallT (ts.getD i zTim).2.2.1) (.inr ()) (.inl false) rfl (fun i hi => ?_) ?_) (fun hn => ?_) (by exact .no (Ev.ret _))
  · have hz : ts.getD i (ByteArray.mk #[], 0, [], 0, 0) = ts.getD i zTim := rfl
    simp only [ofNat_lt_true hi, cond_true, inB_nat, hi, decide_true, atI_nat, hz]
    generalize ts.getD i zTim = t
    obtain ⟨nm, off, spans, ta, tb⟩ := t
    refine EvO.cond (fun _ => .no (Ev.ret _)) (fun h2 => ?_)
    refine EvO.cond (fun _ => .no (Ev.ret _)) (fun h3 => ?_)
    simp only [decide_eq_false_iff_not] at h3
    have b3 : spans.length ≤ 6 := by omega
    refine EvO.bindO (EvO.loop (st := fun k => ((i : Int), (k : Int), a, ts, b, c, d, e, f, g, nm, off, spans, ta, tb)) spans.length (fun k => (spans.getD k []).length ≤ 6 ∧ ∀ m, m < (spans.getD k []).length → ((spans.getD k []).getD m []).length ≤ 8 ∧ ∀ o, o < ((spans.getD k []).getD m []).length → (((spans.getD k []).getD m []).getD o zSlot).2.2.2.2.length ≤ 12) (.inr ((i : Int), a, ts, b, c, d, e, f, g)) (.inl false) rfl (fun k hk => ?_) ?_) (fun hs => ?_) (by exact .no (Ev.ret _))
    · simp only [ofNat_lt_true hk, cond_true, inB_nat, hk, decide_true, atI_nat]
      refine EvO.cond (fun _ => .no (Ev.ret _)) (fun h4 => ?_)
      simp only [decide_eq_false_iff_not] at h4
      have b4 : (spans.getD k []).length ≤ 6 := by omega
      generalize hgx : spans.getD k [] = x at b4
      refine EvO.bindO (EvO.loop (st := fun m => ((i : Int), (k : Int), (m : Int), a, ts, b, c, d, e, f, g, nm, off, spans, ta, tb)) x.length (fun m => (x.getD m []).length ≤ 8 ∧ ∀ o, o < (x.getD m []).length → ((x.getD m []).getD o zSlot).2.2.2.2.length ≤ 12) (.inr ((i : Int), (k : Int), a, ts, b, c, d, e, f, g, nm, off, spans, ta, tb)) (.inl false) rfl (fun m hm => ?_) ?_) (fun h => ?_) (by exact .no (Ev.ret _))
      · simp only [inB_nat, hk, decide_true, cond_true, atI_nat, hgx, ofNat_lt_true hm, hm]
        refine EvO.cond (fun _ => .no (Ev.ret _)) (fun h5 => ?_)
        simp only [decide_eq_false_iff_not] at h5
        have b5 : (x.getD m []).length ≤ 8 := by omega
        generalize x.getD m [] = l at b5
        refine EvO.bindO (EvO.loop (st := fun o => ((i : Int), (k : Int), (m : Int), l, (o : Int), a, ts, b, c, d, e, f, g, nm, off, spans, ta, tb)) l.length (fun o => (l.getD o zSlot).2.2.2.2.length ≤ 12) (.inr ((i : Int), (k : Int), (m : Int), a, ts, b, c, d, e, f, g, nm, off, spans, ta, tb)) (.inl false) rfl (fun o ho => ?_) ?_) (fun h => ?_) (by exact .no (Ev.ret _))
        · have hz : l.getD o (ByteArray.mk #[], 0, 0, 0, []) = l.getD o zSlot := rfl
          simp only [ofNat_lt_true ho, cond_true, inB_nat, ho, decide_true, atI_nat, hz]
          refine EvO.cond (fun _ => .no (Ev.ret _)) (fun h6 => ?_)
          refine EvO.cond (fun _ => .no (Ev.ret _)) (fun h7 => ?_)
          simp only [decide_eq_false_iff_not] at h7
          have b7 : (l.getD o zSlot).2.2.2.2.length ≤ 12 := by omega
          refine EvO.bindO (EvO.loop (st := fun q => ((i : Int), (k : Int), (m : Int), l, (o : Int), (q : Int), a, ts, b, c, d, e, f, g, nm, off, spans, ta, tb)) (l.getD o zSlot).2.2.2.2.length (fun _ => True) (.inr ((i : Int), (k : Int), (m : Int), l, (o : Int), a, ts, b, c, d, e, f, g, nm, off, spans, ta, tb)) (.inl false) rfl (fun q hq => ?_) ?_) (fun h => ?_) (by exact .no (Ev.ret _))
          · simp only [inB_nat, ho, decide_true, cond_true, atI_nat, hz, ofNat_lt_true hq, hq, wrap_succ (show q < 9223372036854775807 by omega)]
            exact EvO.cond (fun _ => .no (Ev.ret _)) (fun _ => .yes (Ev.ret _) trivial)
          · simp only [inB_nat, ho, decide_true, cond_true, atI_nat, hz, ofNat_lt_irrefl, cond_false]; exact Ev.ret _
          · simp only [Sum.elim_inr, wrap_succ (show o < 9223372036854775807 by omega)]
            exact .yes (Ev.ret _) b7
        · simp only [ofNat_lt_irrefl, cond_false]; exact Ev.ret _
        · simp only [Sum.elim_inr, wrap_succ (show m < 9223372036854775807 by omega)]
          exact .yes (Ev.ret _) ⟨b5, h⟩
      · simp only [inB_nat, hk, decide_true, cond_true, atI_nat, hgx, ofNat_lt_irrefl, cond_false]; exact Ev.ret _
      · simp only [Sum.elim_inr, wrap_succ (show k < 9223372036854775807 by omega)]
        exact .yes (Ev.ret _) ⟨b4, h⟩
    · simp only [ofNat_lt_irrefl, cond_false]; exact Ev.ret _
    · simp only [Sum.elim_inr, wrap_succ (show i < 9223372036854775807 by omega)]
      refine .yes (Ev.ret _) ⟨b3, mem_getD fun k hk => (hs k hk).1, mem_getD fun k hk => mem_getD fun m hm => ((hs k hk).2 m hm).1, mem_getD fun k hk => mem_getD fun m hm => mem_getD fun o ho => ((hs k hk).2 m hm).2 o ho⟩
  · simp only [ofNat_lt_irrefl, cond_false]; exact Ev.ret _
  exact .yes (Ev.ret _) ⟨b1, mem_getD hn⟩
/-! ### The document's length -/
theorem rtime_ (n : Nat) (x : Int) : ref18_time n x = some (timeOk x) := by
  unfold ref18_time timeOk
  by_cases h : 0 ≤ x <;> simp [h]
theorem rsum_ (l : List SlotT) (hl : l.length ≤ 1000000) (h : ∀ s ∈ l, timedOf s = true) : Ev (fun n => ref18_Sum n l) (sumOf l) := by
  unfold ref18_Sum
  refine Ev.loopB (st := fun i => (l, sumOf (l.take i), (i : Int))) l.length (sumOf l) rfl (fun i hi => ?_) ?_ (Ev.ret _)
  · have hs := (timed_bd (h _ (getD_mem l i zSlot hi))).1
    have hm := sum_mono h i
    have hz : l.getD i (ByteArray.mk #[], 0, 0, 0, []) = l.getD i zSlot := rfl
    simp only [ofNat_lt_true hi, cond_true, inB_nat, hi, decide_true, atI_nat, hz, wrap_succ (show i < 9223372036854775807 by omega)]
    rw [wrap64_id (by omega) (by omega)]
    unfold sumOf
    rw [sum_take _ l i zSlot hi]
    exact Ev.ret _
  · simp only [ofNat_lt_irrefl, cond_false, List.take_length]; exact Ev.ret _
theorem rlong_ (g : SpanT) (h : spanOk g = true) : Ev (fun n => ref18_Long n g) (longOf g) := by
  obtain ⟨h2, hl⟩ := span_bd h
  unfold ref18_Long
  refine Ev.loopB (st := fun i => ((g.take i).foldl (fun m l => max m (sumOf l)) 0, (i : Int), g)) g.length (longOf g) rfl (fun i hi => ?_) ?_ (Ev.ret _)
  · have hx := hl _ (getD_mem g i [] hi)
    obtain ⟨l4, lt, _⟩ := line_bd hx
    simp only [ofNat_lt_true hi, cond_true, inB_nat, hi, decide_true, atI_nat, wrap_succ (show i < 9223372036854775807 by omega)]
    refine Ev.bind (rsum_ _ (by omega) lt) ?_
    rw [take_snoc g i [] hi, List.foldl_append]
    simp only [mx_eq, List.foldl_cons, List.foldl_nil]
    exact Ev.ret _
  · simp only [ofNat_lt_irrefl, cond_false, List.take_length]; exact Ev.ret _
set_option maxHeartbeats 1000000 in
theorem rlength_ (t : TimT) (hb : SmallT t.2.2.1) : Ev (fun n => ref18_Length n t) (lengthOf t.2.2.1) := by
  obtain ⟨nm, off, spans, ta, tb⟩ := t
  have hw := hb.walks
  have hrw := hb.rows
  simp only at hw hrw ⊢
  unfold ref18_Length lengthOf soundOf
  by_cases h4 : spans.length ≤ 4
  · refine Ev.no (decide_eq_false (by simp only; omega)) ?_
    rw [decide_eq_true h4, Bool.true_and]
    have htot : ∀ i, (∀ k, k < i → (!(spanOk (spans.getD k []))) = false) → i ≤ spans.length → 0 ≤ totOf (spans.take i) ∧ totOf (spans.take i) ≤ 24000 * i := fun i hk hi => by
      have := sum_bd longOf 24000 (spans.take i) fun s hs => longOf_bd (by
        obtain ⟨k, hk1, rfl⟩ := List.getElem_of_mem hs
        have h5 : k < i := by simp at hk1; omega
        have := hk k h5
        rw [getD_lt _ _ _ (by omega)] at this
        simpa using this)
      unfold totOf
      have h2 : ((spans.take i).length : Int) ≤ i := by simp; omega
      omega
    refine Ev.loopD (st := fun i => (totOf (spans.take i), (i : Int), nm, off, spans, ta, tb)) spans.length (fun i => !(spanOk (spans.getD i []))) (fun i => .inl 0) (.inr (totOf spans)) rfl (fun i hi hpre => ?_) (fun _ => ?_) (fun i hi hk hp => ?_) (fun h => ?_)
    · have hx : spans.getD i [] ∈ spans := getD_mem _ _ _ hi
      have ht := htot i hpre (by omega)
      have htn : totOf (spans.take (i + 1)) = totOf (spans.take i) + longOf (spans.getD i []) := by unfold totOf; rw [sum_take _ spans i [] hi]
      rw [htn]
      simp only [ofNat_lt_true hi, cond_true, inB_nat, hi, decide_true, atI_nat]
      generalize totOf (spans.take i) = b at ht
      generalize hgg : spans.getD i [] = g at hx
      have hcase : spanOk g = (decide (g.length ≤ 2) && g.all lineOk) := rfl
      by_cases h2 : g.length ≤ 2
      · rw [decide_eq_true h2, Bool.true_and] at hcase
        rw [decide_eq_false (show ¬ (2 : Int) < (g.length : Int) by omega)]
        simp only [cond_false]
        refine Ev.loopD (st := fun k => (b, (i : Int), g, (k : Int), nm, off, spans, ta, tb)) g.length (fun k => !(lineOk (g.getD k []))) (fun i => .inl 0) (.inr (b, (i : Int), nm, off, spans, ta, tb)) rfl (fun k hk _ => ?_) (fun _ => ?_) (fun k hk _ hp => ?_) (fun h => ?_)
        · have hl : g.getD k [] ∈ g := getD_mem _ _ _ hk
          simp only [ofNat_lt_true hk, cond_true, inB_nat, hk, decide_true, atI_nat]
          generalize hll : g.getD k [] = l at hl
          have hcl : lineOk l = (decide (l.length ≤ 4) && l.all timedOf) := rfl
          by_cases h3 : l.length ≤ 4
          · rw [decide_eq_true h3, Bool.true_and] at hcl
            rw [decide_eq_false (show ¬ (4 : Int) < (l.length : Int) by omega)]
            simp only [cond_false]
            refine Ev.loopD (st := fun m => (b, (i : Int), g, (k : Int), (m : Int), nm, off, spans, ta, tb)) l.length (fun m => !(timedOf (l.getD m zSlot))) (fun i => .inl 0) (.inr (b, (i : Int), g, (k : Int), nm, off, spans, ta, tb)) rfl (fun m hm _ => ?_) (fun _ => ?_) (fun m hm _ hp => ?_) (fun h => ?_)
            · have hz : l.getD m (ByteArray.mk #[], 0, 0, 0, []) = l.getD m zSlot := rfl
              have hsl := hw g hx l hl _ (getD_mem l m zSlot hm)
              simp only [inB_nat, hk, decide_true, cond_true, atI_nat, hll, ofNat_lt_true hm, hm, hz, rtime_, Option.bind_some]
              generalize l.getD m zSlot = s at hsl
              obtain ⟨s1, s2, s3, s4, s5⟩ := s
              unfold timedOf
              simp only at hsl ⊢
              cases timeOk s2 with
              | false => exact Ev.ret _
              | true =>
                cases timeOk s3 with
                | false => exact Ev.ret _
                | true =>
                  cases timeOk s4 with
                  | false => exact Ev.ret _
                  | true =>
                    simp only [Bool.true_and]
                    refine Ev.loopD (st := fun q => (b, (i : Int), g, (k : Int), (m : Int), (q : Int), nm, off, spans, ta, tb, s1, s2, s3, s4, s5)) s5.length (fun q => !(walkOk (s5.getD q (ByteArray.mk #[], 0, 0)))) (fun i => .inl 0) (.inr (b, (i : Int), g, (k : Int), (m : Int), nm, off, spans, ta, tb)) rfl (fun q hq _ => ?_) (fun _ => ?_) (fun q hq _ hp => ?_) (fun h => ?_)
                    · simp only [ofNat_lt_true hq, cond_true, inB_nat, hq, decide_true, atI_nat, Option.bind_some, letJ, wrap_succ (show q < 9223372036854775807 by omega)]
                      generalize s5.getD q (ByteArray.mk #[], 0, 0) = w
                      unfold walkOk
                      cases timeOk w.2.1 with
                      | false => exact Ev.ret _
                      | true => cases timeOk w.2.2 <;> exact Ev.ret _
                    · simp only [ofNat_lt_irrefl, cond_false]; exact Ev.ret _
                    · rw [getD_true hq hp]; exact Ev.ret _
                    · rw [getD_false h]
                      simp only [Sum.elim_inr, wrap_succ (show m < 9223372036854775807 by omega)]
                      exact Ev.ret _
            · simp only [inB_nat, hk, decide_true, cond_true, atI_nat, hll, ofNat_lt_irrefl, cond_false]; exact Ev.ret _
            · rw [hcl, getD_true hm hp]; exact Ev.ret _
            · rw [hcl, getD_false h]
              simp only [Sum.elim_inr, wrap_succ (show k < 9223372036854775807 by omega)]
              exact Ev.ret _
          · rw [decide_eq_false h3, Bool.false_and] at hcl
            rw [hcl, decide_eq_true (show (4 : Int) < (l.length : Int) by omega)]
            exact Ev.ret _
        · simp only [ofNat_lt_irrefl, cond_false]; exact Ev.ret _
        · rw [hcase, getD_true hk hp]; exact Ev.ret _
        · have hall := getD_false h
          rw [hall] at hcase
          have hlb := longOf_bd hcase
          rw [hcase]
          simp only [Sum.elim_inr, inB_nat, hi, decide_true, cond_true, atI_nat, hgg]
          refine Ev.bind (rlong_ g hcase) ?_
          simp only [wrap_succ (show i < 9223372036854775807 by omega)]
          rw [wrap64_id (by omega) (by omega)]
          exact Ev.ret _
      · rw [decide_eq_false h2, Bool.false_and] at hcase
        rw [hcase, decide_eq_true (show (2 : Int) < (g.length : Int) by omega)]
        exact Ev.ret _
    · simp only [ofNat_lt_irrefl, cond_false, List.take_length]; exact Ev.ret _
    · rw [getD_true hi hp]; exact Ev.ret _
    · rw [getD_false h]; exact Ev.ret _
  · refine Ev.yes (decide_eq_true (by simp only; omega)) ?_
    rw [decide_eq_false h4]; exact Ev.ret _
theorem few18_ (x : NodeT) (t : TimT) : EvO (fun n => law18_Few n (x.1, x.2.1, x.2.2.1, x.2.2.2.1, x.2.2.2.2.1, x.2.2.2.2.2.1, x.2.2.2.2.2.2, t)) true ((SmallN x ∧ SmallT t.2.2.1) ∧ lengthOf t.2.2.1 ≤ 500) false := by
  unfold law18_Few
  refine EvO.bindO (few06_ _) (fun h1 => ?_) (.no (Ev.ret _))
  refine EvO.bindO (few17_ _) (fun h2 => ?_) (.no (Ev.ret _))
  have g1 := h1.2 x (by simp)
  have g2 := h2.2 t (by simp)
  refine EvO.bind1 (rlength_ t g2) ?_
  by_cases h : lengthOf t.2.2.1 ≤ 500
  · exact .yes ((Ev.ret _).of_eq (decide_eq_true h)) ⟨⟨g1, g2⟩, h⟩
  · exact .no ((Ev.ret _).of_eq (decide_eq_false h))
end Go.Proofs.YtakkhnoelnpfdaaGreat.Fn
