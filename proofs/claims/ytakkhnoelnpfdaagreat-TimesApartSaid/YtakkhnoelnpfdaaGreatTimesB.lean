/- Chapter 18's functions, of the program: which timings fit a node. -/
import Derived.Test.YtakkhnoelnpfdaaGreatTimes
namespace Go.Proofs.YtakkhnoelnpfdaaGreat.Fn
open Go Go.RowKit Go.Den Go.Circ
set_option linter.unusedVariables false

/-! ### Places of names -/
theorem index_ (l : List ByteArray) (k : ByteArray) (hl : l.length < 9223372036854775807) : Ev (fun n => slices_Index_string n (l, k)) (idxI (fun x => strEq k x) l) := by
  unfold slices_Index_string
  refine Ev.loopD (st := fun i => (l, k, ((l.length : Nat) : Int), (i : Int))) l.length (fun i => strEq k (l.getD i (ByteArray.mk #[]))) (fun i => .inl (i : Int)) (.inr ()) rfl (fun i hi _ => ?_) (fun _ => ?_) (fun i hi hk hp => ?_) (fun h => ?_)
  · simp only [ofNat_lt_true hi, cond_true, inB_nat, hi, decide_true, atI_nat, wrap_succ (show i < 9223372036854775807 by omega)]
    cases strEq k (l.getD i (ByteArray.mk #[])) <;> exact Ev.ret _
  · simp only [ofNat_lt_irrefl, cond_false]; exact Ev.ret _
  · rw [idxI_hit _ (ByteArray.mk #[]) l i hi hk hp]; exact Ev.ret _
  · rw [idxI_none _ (ByteArray.mk #[]) l h]; exact Ev.ret _
def inOf (l : List ByteArray) (k : ByteArray) : Bool := l.any fun x => strEq k x
theorem contains_ (l : List ByteArray) (k : ByteArray) (hl : l.length < 9223372036854775807) : Ev (fun n => slices_Contains_string n (l, k)) (inOf l k) := by
  unfold slices_Contains_string
  refine Ev.bind (index_ l k hl) ?_
  rw [idxI_any]; exact Ev.ret _
/-- The place of the phase that has a head. -/
def homeOf (ph : List PhaseT) (k : ByteArray) : Int := idxI (fun p => inOf p.2.1 k) ph
theorem home_ (a : ByteArray) (b : List HeadT) (c : List PedT) (ph : List PhaseT) (e : List (List RowT)) (f : List FoeT) (g : Int) (k : ByteArray) (hl : ph.length < 9223372036854775807) (hp : ∀ p ∈ ph, p.2.1.length < 9223372036854775807) :
    Ev (fun n => valid_Home n (a, b, c, ph, e, f, g, k)) (homeOf ph k) := by
  unfold valid_Home
  refine Ev.bind (a := (homeOf ph k, k)) ?_ (Ev.ret _)
  unfold slices_IndexFunc_valid_Home_1
  refine indexFuncV_ev (ByteArray.mk #[], [], 0) (fun n a s => valid_Home_1 n (a.1, a.2.1, a.2.2, s)) _ ph k hl fun p hm => ?_
  unfold valid_Home_1
  exact Ev.bind (contains_ _ _ (hp p hm)) (Ev.ret _)
/-! ### Walks -/
def namesOf (peds : List PedT) (k : ByteArray) : List ByteArray := (peds.filter fun p => strEq p.2.1 k).map (·.1)
theorem equal_ (a : List ByteArray) (b : List WalkT) (ha : a.length < 9223372036854775807) : Ev (fun n => slices_EqualFunc_times_walks_1 n (a, b)) (decide (a = b.map (·.1))) := by
  unfold slices_EqualFunc_times_walks_1
  by_cases hlen : a.length = b.length
  · refine Ev.no (by simp [hlen]) ?_
    have key : a = b.map (·.1) ↔ ∀ k, k < a.length → strEq (a.getD k (ByteArray.mk #[])) (b.getD k (ByteArray.mk #[], 0, 0)).1 = true := by
      simp only [strEq_iff]
      constructor
      · intro h k hk
        rw [getD_lt _ _ _ hk, getD_lt _ _ _ (by omega : k < b.length)]
        have : a[k]? = (b.map (·.1))[k]? := by rw [← h]
        rw [List.getElem?_map, List.getElem?_eq_getElem hk, List.getElem?_eq_getElem (by omega : k < b.length)] at this
        simpa using this
      · intro h
        apply List.ext_getElem (by simpa using hlen)
        intro k h1 h2
        have := h k h1
        rw [getD_lt _ _ _ h1, getD_lt _ _ _ (by omega : k < b.length)] at this
        simpa using this
    refine Ev.loopD (st := fun i => (b, a, ((a.length : Nat) : Int), (i : Int))) a.length (fun i => !(strEq (a.getD i (ByteArray.mk #[])) (b.getD i (ByteArray.mk #[], 0, 0)).1)) (fun i => .inl false) (.inr ()) rfl (fun i hi _ => ?_) (fun _ => ?_) (fun i hi hk hp => ?_) (fun h => ?_)
    · have hi' : i < b.length := by omega
      simp only [ofNat_lt_true hi, cond_true, inB_nat, hi, hi', decide_true, atI_nat, wrap_succ (show i < 9223372036854775807 by omega), times_walks_1, Option.bind_some]
      cases strEq (a.getD i (ByteArray.mk #[])) (b.getD i (ByteArray.mk #[], 0, 0)).1 <;> exact Ev.ret _
    · simp only [ofNat_lt_irrefl, cond_false]; exact Ev.ret _
    · rw [decide_eq_false fun e => by rw [key.1 e i hi] at hp; cases hp]; exact Ev.ret _
    · rw [decide_eq_true (key.2 fun k hk => by simpa using h k hk)]; exact Ev.ret _
  · refine Ev.yes (by simp; omega) ?_
    rw [decide_eq_false fun e => hlen (by rw [e]; simp)]; exact Ev.ret _
def walksOf (peds : List PedT) (s : SlotT) : Bool := decide (namesOf peds s.1 = s.2.2.2.2.map (·.1))
theorem walks_ (a : ByteArray) (b : List HeadT) (peds : List PedT) (ph : List PhaseT) (e : List (List RowT)) (f : List FoeT) (g : Int) (s : SlotT) (hl : peds.length ≤ 1000000) :
    Ev (fun n => times_walks n (a, b, peds, ph, e, f, g, s)) (walksOf peds s) := by
  obtain ⟨s1, s2, s3, s4, s5⟩ := s
  unfold times_walks
  refine Ev.loopB (st := fun i => (peds, ((peds.length : Nat) : Int), (i : Int), s1, s2, s3, s4, s5, namesOf (peds.take i) s1)) peds.length (s1, s2, s3, s4, s5, namesOf peds s1) rfl (fun i hi => ?_) ?_ ?_
  · have hn : (namesOf (peds.take i) s1).length ≤ i := by
      unfold namesOf
      rw [List.length_map]
      exact Nat.le_trans (List.length_filter_le _ _) (by simp; omega)
    have he : namesOf (peds.take (i + 1)) s1 = namesOf (peds.take i) s1 ++ if strEq (peds.getD i (ByteArray.mk #[], ByteArray.mk #[], 0, 0, 0, 0)).2.1 s1 then [(peds.getD i (ByteArray.mk #[], ByteArray.mk #[], 0, 0, 0, 0)).1] else [] := by
      rw [take_snoc peds i (ByteArray.mk #[], ByteArray.mk #[], 0, 0, 0, 0) hi]
      generalize peds.getD i (ByteArray.mk #[], ByteArray.mk #[], 0, 0, 0, 0) = p
      unfold namesOf
      rw [List.filter_append, List.map_append]
      congr 1
      cases h : strEq p.2.1 s1 <;> simp [h]
    simp only [ofNat_lt_true hi, cond_true, inB_nat, hi, decide_true, atI_nat, wrap_succ (show i < 9223372036854775807 by omega)]
    rw [he, fitB_ok (by simp only [List.length_cons, List.length_nil]; omega)]
    cases strEq (peds.getD i (ByteArray.mk #[], ByteArray.mk #[], 0, 0, 0, 0)).2.1 s1 with
    | false => simp only [cond_false, Bool.false_eq_true, if_false, List.append_nil]; exact Ev.ret _
    | true => simp only [cond_true, if_true]; exact Ev.ret _
  · simp only [ofNat_lt_irrefl, cond_false, List.take_length]; exact Ev.ret _
  · refine Ev.bind (equal_ _ _ ?_) (Ev.ret _)
    unfold namesOf
    rw [List.length_map]
    exact Nat.lt_of_le_of_lt (List.length_filter_le _ _) (by omega)
/-! ### Rings -/
def leftOf (names : List ByteArray) (l : List SlotT) : List ByteArray := names.filter fun p => !(l.any fun s => strEq p s.1)
def slotOk (peds : List PedT) (left : List ByteArray) (s : SlotT) : Bool := (inOf left s.1 && decide (s.2.2.1 + s.2.2.2.1 < s.2.1)) && walksOf peds s
def zSlot : SlotT := (ByteArray.mk #[], 0, 0, 0, [])
def ringOf (peds : List PedT) (names : List ByteArray) (l : List SlotT) : Bool := ((List.range l.length).all fun i => slotOk peds (leftOf names (l.take i)) (l.getD i zSlot)) && decide (l.length = names.length)
theorem clone1_ (l : List ByteArray) (hl : l.length ≤ 1000000) : Ev (fun n => slices_Clone_string n l) l := by
  refine Ev.const fun n => ?_
  unfold slices_Clone_string
  rw [fitB_ok (by omega)]
  cases l with
  | nil => simp [both]
  | cons a l => rfl
theorem range_all (N : Nat) (q : Nat → Bool) : (List.range N).all q = true ↔ ∀ i, i < N → q i = true := by
  rw [List.all_eq_true]; simp [List.mem_range]
theorem range_false {N : Nat} {q : Nat → Bool} {i : Nat} (hi : i < N) (h : q i = false) : (List.range N).all q = false := by
  cases hh : (List.range N).all q with
  | false => rfl
  | true => rw [(range_all N q).1 hh i hi] at h; cases h
theorem ring_ (a : ByteArray) (b : List HeadT) (peds : List PedT) (ph : List PhaseT) (e : List (List RowT)) (f : List FoeT) (g : Int) (fr : Bool) (names : List ByteArray) (l : List SlotT) (hp : peds.length ≤ 1000000) (hn : names.length ≤ 1000000) (hl : l.length ≤ 1000000) (ht : ∀ s ∈ l, timedOf s = true) :
    Ev (fun n => times_ring n (a, b, peds, ph, e, f, g, fr, names, l)) (ringOf peds names l) := by
  unfold times_ring
  refine Ev.bind (clone1_ names hn) ?_
  refine Ev.loopD (st := fun i => (l, l, ((l.length : Nat) : Int), (i : Int), a, b, peds, ph, e, f, g, fr, names, leftOf names (l.take i))) l.length (fun i => !(slotOk peds (leftOf names (l.take i)) (l.getD i zSlot))) (fun i => .inl false) (.inr (l, fr, names)) ?_ (fun i hi _ => ?_) (fun _ => ?_) (fun i hi hk hp => ?_) (fun h => ?_)
  · have : leftOf names (l.take 0) = names := by simp [leftOf]
    rw [this]; rfl
  · have hs := ht _ (getD_mem l i zSlot hi)
    have hll : (leftOf names (l.take i)).length ≤ 1000000 := Nat.le_trans (List.length_filter_le _ _) hn
    have hnext : leftOf names (l.take (i + 1)) = (leftOf names (l.take i)).filter fun y => !(strEq y (l.getD i zSlot).1) := by
      unfold leftOf
      rw [take_snoc l i zSlot hi, List.filter_filter]
      apply List.filter_congr
      intro p _
      simp [Bool.and_comm]
    rw [hnext]
    generalize leftOf names (l.take i) = left at hll
    have hz : l.getD i (ByteArray.mk #[], 0, 0, 0, []) = l.getD i zSlot := rfl
    simp only [ofNat_lt_true hi, cond_true, inB_nat, hi, decide_true, atI_nat, wrap_succ (show i < 9223372036854775807 by omega), letJ, hz]
    generalize l.getD i zSlot = s at hs
    obtain ⟨s1, s2, s3, s4, s5⟩ := s
    obtain ⟨_, b3, b4⟩ := timed_bd hs
    simp only at b3 b4
    refine Ev.bind (index_ left s1 (by omega)) ?_
    rw [idxI_neg]
    unfold slotOk
    simp only
    unfold inOf
    cases hany : left.any (fun x => strEq s1 x) with
    | false => exact Ev.ret _
    | true =>
      simp only [Bool.not_true, cond_false, Bool.true_and]
      rw [wrap64_id (by omega) (by omega)]
      by_cases hlt : s3 + s4 < s2
      · rw [decide_eq_true hlt, decide_eq_false (show ¬ s2 ≤ s3 + s4 by omega)]
        simp only [cond_false, Bool.true_and]
        refine Ev.bind (walks_ _ _ _ _ _ _ _ _ hp) ?_
        cases walksOf peds (s1, s2, s3, s4, s5) with
        | false => exact Ev.ret _
        | true =>
          simp only [Bool.not_true, cond_false]
          refine Ev.bind (a := (s1, s2, s3, s4, s5, left.filter fun y => !(strEq y s1))) (Ev.const fun n => ?_) (Ev.ret _)
          unfold slices_DeleteFunc_times_ring_1 delF
          have : 0 < left.length := by
            cases left with
            | nil => simp at hany
            | cons _ _ => simp
          rw [if_pos ⟨this, by simp only; omega⟩]
      · rw [decide_eq_false hlt, decide_eq_true (show s2 ≤ s3 + s4 by omega)]
        exact Ev.ret _
  · simp only [ofNat_lt_irrefl, cond_false]; exact Ev.ret _
  · unfold ringOf
    rw [range_false hi (by simpa using hp)]
    exact Ev.ret _
  · unfold ringOf
    rw [(range_all _ _).2 fun i hi => by simpa using h i hi]
    simp only [Sum.elim_inr, Bool.true_and]
    have e : ((((l.length : Nat) : Int) == ((names.length : Nat) : Int)) : Bool) = decide (l.length = names.length) := by
      by_cases h : l.length = names.length
      · simp [h]
      · rw [decide_eq_false h]; simp; omega
    rw [e]; exact Ev.ret _
/-! ### What fits -/
def zRow : RowT := (false, [])
def groupOk (peds : List PedT) (g : List RowT) (x : SpanT) : Bool := decide (x.length = g.length) && (List.range x.length).all fun k => ringOf peds (g.getD k zRow).2 (x.getD k [])
def fitsOf (peds : List PedT) (gs : List (List RowT)) (spans : List SpanT) : Bool :=
  (soundOf spans && decide (spans.length = gs.length)) && (((List.range spans.length).all fun i => groupOk peds (gs.getD i []) (spans.getD i [])) && (decide (1 ≤ lengthOf spans) && decide (lengthOf spans ≤ 6000)))
/-- Are a node's rows short enough? -/
structure NodeBd (x : NodeT) : Prop where
  heads : x.2.1.length ≤ 1000000
  peds : x.2.2.1.length ≤ 1000000
  phases : x.2.2.2.1.length ≤ 1000000
  phase : ∀ p ∈ x.2.2.2.1, p.2.1.length ≤ 1000000
  rows : ∀ g ∈ x.2.2.2.2.1, ∀ r ∈ g, r.2.length ≤ 1000000
set_option maxHeartbeats 1000000 in
theorem fits_ (x : NodeT) (t : TimT) (hx : NodeBd x) (hb : Bd t.2.2.1) : Ev (fun n => times_Fits n (x.1, x.2.1, x.2.2.1, x.2.2.2.1, x.2.2.2.2.1, x.2.2.2.2.2.1, x.2.2.2.2.2.2, t)) (fitsOf x.2.2.1 x.2.2.2.2.1 t.2.2.1) := by
  obtain ⟨x1, x2, x3, x4, x5, x6, x7⟩ := x
  obtain ⟨nm, off, spans, ta, tb⟩ := t
  have hr := hx.rows
  have hpd := hx.peds
  simp only at hb hr hpd ⊢
  unfold times_Fits fitsOf
  simp only [letJ]
  refine Ev.bind (sound_ _ hb) ?_
  simp only
  cases hs : soundOf spans with
  | false => exact Ev.ret _
  | true =>
    obtain ⟨h4, hsp⟩ := sound_bd hs
    simp only [Bool.not_true, cond_false, Bool.true_and]
    by_cases hlen : spans.length = x5.length
    · rw [decide_eq_true hlen]
      refine Ev.no (by simp [hlen]) ?_
      simp only [Bool.true_and]
      refine Ev.loopD (st := fun i => (spans, ((spans.length : Nat) : Int), (i : Int), x1, x2, x3, x4, x5, x6, x7, nm, off, spans, ta, tb)) spans.length (fun i => !(groupOk x3 (x5.getD i []) (spans.getD i []))) (fun i => .inl false) (.inr (nm, off, spans, ta, tb)) rfl (fun i hi _ => ?_) (fun _ => ?_) (fun i hi hk hp => ?_) (fun h => ?_)
      · have hi' : i < x5.length := by omega
        simp only [ofNat_lt_true hi, cond_true, inB_nat, hi, hi', decide_true, atI_nat, wrap_succ (show i < 9223372036854775807 by omega)]
        have hm := hsp _ (getD_mem spans i [] hi)
        have hmr := hr _ (getD_mem x5 i [] hi')
        generalize hgd : x5.getD i [] = g at hmr
        generalize spans.getD i [] = x at hm
        obtain ⟨h2, hln⟩ := span_bd hm
        unfold groupOk
        by_cases hxl : x.length = g.length
        · rw [decide_eq_true hxl]
          refine Ev.no (by simp [hxl]) ?_
          simp only [Bool.true_and]
          refine Ev.loopD (st := fun k => ((i : Int), spans, ((spans.length : Nat) : Int), (i : Int), x, ((x.length : Nat) : Int), (k : Int), x1, x2, x3, x4, x5, x6, x7, nm, off, spans, ta, tb)) x.length (fun k => !(ringOf x3 (g.getD k zRow).2 (x.getD k []))) (fun i => .inl false) (.inr (spans, ((spans.length : Nat) : Int), (i : Int), x1, x2, x3, x4, x5, x6, x7, nm, off, spans, ta, tb)) rfl (fun k hk _ => ?_) (fun _ => ?_) (fun k hk _ hp => ?_) (fun h => ?_)
          · have hk' : k < g.length := by omega
            have hz : g.getD k (false, []) = g.getD k zRow := rfl
            simp only [ofNat_lt_true hk, cond_true, inB_nat, hk, hk', hi', decide_true, atI_nat, hgd, hz, wrap_succ (show k < 9223372036854775807 by omega)]
            have hml := hln _ (getD_mem x k [] hk)
            have hmn := hmr _ (getD_mem g k zRow hk')
            generalize g.getD k zRow = r at hmn
            generalize x.getD k [] = l at hml
            obtain ⟨l4, lt, _⟩ := line_bd hml
            refine Ev.bind (ring_ _ _ _ _ _ _ _ _ _ _ hpd hmn (by omega) lt) ?_
            cases ringOf x3 r.2 l <;> exact Ev.ret _
          · simp only [ofNat_lt_irrefl, cond_false]; exact Ev.ret _
          · rw [range_false hk (by simpa using hp)]; exact Ev.ret _
          · rw [(range_all _ _).2 fun i hi => by simpa using h i hi]
            simp only [Sum.elim_inr, wrap_succ (show i < 9223372036854775807 by omega)]
            exact Ev.ret _
        · rw [decide_eq_false hxl]
          refine Ev.yes (by simp; omega) ?_
          exact Ev.ret _
      · simp only [ofNat_lt_irrefl, cond_false]; exact Ev.ret _
      · rw [range_false hi (by simpa using hp)]; exact Ev.ret _
      · rw [(range_all _ _).2 fun i hi => by simpa using h i hi]
        simp only [Sum.elim_inr, Bool.true_and]
        refine Ev.bind (length_ _ hb) ?_
        simp only
        by_cases h1 : 1 ≤ lengthOf spans
        · rw [decide_eq_true h1]; exact Ev.ret _
        · rw [decide_eq_false h1]; exact Ev.ret _
    · rw [decide_eq_false hlen]
      refine Ev.yes (by simp; omega) ?_
      exact Ev.ret _
theorem fits_bd {peds : List PedT} {gs : List (List RowT)} {spans : List SpanT} (h : fitsOf peds gs spans = true) : soundOf spans = true ∧ spans.length = gs.length ∧ (∀ i, i < spans.length → groupOk peds (gs.getD i []) (spans.getD i []) = true) ∧ 1 ≤ lengthOf spans ∧ lengthOf spans ≤ 6000 := by
  simp only [fitsOf, Bool.and_eq_true, decide_eq_true_eq, range_all] at h
  exact ⟨h.1.1, h.1.2, h.2.1, h.2.2.1, h.2.2.2⟩
end Go.Proofs.YtakkhnoelnpfdaaGreat.Fn
