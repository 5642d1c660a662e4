/- Chapter 18's functions, of the program: when heads are green. -/
import Derived.Test.YtakkhnoelnpfdaaGreatTimesB
namespace Go.Proofs.YtakkhnoelnpfdaaGreat.Fn
open Go Go.RowKit Go.Den Go.Circ
set_option linter.unusedVariables false

/-! ### The slots, with when they begin -/
def lineP : Int → List SlotT → List (SlotT × Int)
  | _, [] => []
  | at_, s :: r => (s, at_) :: lineP (at_ + s.2.1) r
def spanP (at_ : Int) (g : SpanT) : List (SlotT × Int) := g.flatMap (lineP at_)
def allP : Int → List SpanT → List (SlotT × Int)
  | _, [] => []
  | at_, g :: r => spanP at_ g ++ allP (at_ + longOf g) r
theorem lineP_append (at_ : Int) (l m : List SlotT) : lineP at_ (l ++ m) = lineP at_ l ++ lineP (at_ + sumOf l) m := by
  induction l generalizing at_ with
  | nil => simp [lineP, sumOf]
  | cons a l ih =>
    simp only [List.cons_append, lineP, ih]
    congr 3
    simp only [sumOf, List.map_cons, List.sum_cons]
    omega
theorem allP_append (at_ : Int) (l m : List SpanT) : allP at_ (l ++ m) = allP at_ l ++ allP (at_ + totOf l) m := by
  induction l generalizing at_ with
  | nil => simp [allP, totOf]
  | cons a l ih =>
    simp only [List.cons_append, allP, ih, List.append_assoc]
    congr 3
    simp only [totOf, List.map_cons, List.sum_cons]
    omega
theorem lineP_snoc (at_ : Int) (l : List SlotT) (i : Nat) (h : i < l.length) : lineP at_ (l.take (i + 1)) = lineP at_ (l.take i) ++ [(l.getD i zSlot, at_ + sumOf (l.take i))] := by
  rw [take_snoc l i zSlot h, lineP_append]; rfl
theorem spanP_snoc (at_ : Int) (g : SpanT) (i : Nat) (h : i < g.length) : spanP at_ (g.take (i + 1)) = spanP at_ (g.take i) ++ lineP at_ (g.getD i []) := by
  rw [take_snoc g i [] h]; simp [spanP, List.flatMap_append]
theorem allP_snoc (at_ : Int) (g : List SpanT) (i : Nat) (h : i < g.length) : allP at_ (g.take (i + 1)) = allP at_ (g.take i) ++ spanP (at_ + totOf (g.take i)) (g.getD i []) := by
  rw [take_snoc g i [] h, allP_append]; simp [allP]
/-! ### Which arcs they come to -/
abbrev EntT := ByteArray × BarsT
def arcOf (c o at_ n : Int) : Int × Int := normOf c (o + at_, n)
def greenOf (s : SlotT) : Int := s.2.1 - s.2.2.1 - s.2.2.2.1
/-- A slot's arcs. -/
def bars4 (c o : Int) (p : SlotT × Int) : Int × Int × Int × Int := ((arcOf c o p.2 (greenOf p.1)).1, (arcOf c o p.2 (greenOf p.1)).2, (arcOf c o (p.2 + greenOf p.1) p.1.2.2.1).1, (arcOf c o (p.2 + greenOf p.1) p.1.2.2.1).2)
def putS (c o : Int) (m : List EntT) (p : SlotT × Int) : List EntT := if mhas p.1.1 m then m else mput p.1.1 (p.1.1, ByteArray.mk #[], bars4 c o p) m
theorem mhas_put {V : Type} (k j : ByteArray) (v : V) (m : List (ByteArray × V)) : mhas k (mput j (j, v) m) = (mhas k m || strEq j k) := by
  unfold mhas mput
  induction m with
  | nil => simp [putP, hasP]
  | cons a m ih =>
    simp only [putP, hasP]
    cases h : strEq a.1 j with
    | true =>
      rw [strEq_iff] at h
      simp only [cond_true, hasP, h]
      cases h1 : strEq j k <;> simp
    | false =>
      simp only [cond_false, hasP, ih]
      cases strEq a.1 k <;> simp
theorem mfind_put {V : Type} (k j : ByteArray) (v : V) (z : ByteArray × V) (m : List (ByteArray × V)) (hn : mhas j m = false) : mfind k z (mput j (j, v) m) = if mhas k m then mfind k z m else if strEq j k then (j, v) else z := by
  unfold mhas mput mfind at *
  induction m with
  | nil => simp only [putP, findP, hasP]; cases strEq j k <;> simp
  | cons a m ih =>
    simp only [hasP] at hn
    cases h : strEq a.1 j with
    | true => rw [h] at hn; cases hn
    | false =>
      rw [h] at hn
      simp only [cond_false] at hn
      simp only [putP, h, cond_false, findP, hasP]
      by_cases h2 : strEq a.1 k = true
      · simp only [h2, cond_true, if_true]
      · have h3 : strEq a.1 k = false := by simpa using h2
        simp only [h3, cond_false]; exact ih hn
theorem mhas_fold (c o : Int) (k : ByteArray) : ∀ (L : List (SlotT × Int)) (m : List EntT), mhas k (L.foldl (putS c o) m) = (mhas k m || L.any fun p => strEq p.1.1 k) := by
  intro L
  induction L with
  | nil => intro m; simp
  | cons a L ih =>
    intro m
    rw [List.foldl_cons, ih, List.any_cons]
    unfold putS
    by_cases h : mhas a.1.1 m = true
    · rw [if_pos h]
      cases h2 : strEq a.1.1 k with
      | false => simp
      | true => rw [strEq_iff] at h2; rw [← h2, h]; simp
    · rw [if_neg h, mhas_put, Bool.or_assoc]
theorem mfind_fold (c o : Int) (k : ByteArray) (z : EntT) : ∀ (L : List (SlotT × Int)) (m : List EntT), mfind k z (L.foldl (putS c o) m) = if mhas k m then mfind k z m else match L.find? (fun p => strEq p.1.1 k) with
    | some p => (p.1.1, ByteArray.mk #[], bars4 c o p)
    | none => z := by
  intro L
  induction L with
  | nil =>
    intro m
    simp only [List.foldl_nil, List.find?_nil]
    split
    · rfl
    · rename_i h
      unfold mhas at h
      unfold mfind
      induction m with
      | nil => rfl
      | cons a m ih =>
        simp only [hasP] at h
        cases h2 : strEq a.1 k with
        | true => rw [h2] at h; simp at h
        | false =>
          rw [h2] at h
          simp only [findP, h2, cond_false]
          exact ih (by simpa using h)
  | cons a L ih =>
    intro m
    rw [List.foldl_cons, ih, List.find?_cons]
    unfold putS
    by_cases h : mhas a.1.1 m = true
    · rw [if_pos h]
      cases h2 : strEq a.1.1 k with
      | false => rfl
      | true => rw [strEq_iff] at h2; rw [← h2, h]; simp
    · rw [if_neg h]
      have hf : mhas a.1.1 m = false := by simpa using h
      rw [mhas_put, mfind_put _ _ _ _ _ hf]
      cases h3 : mhas k m with
      | true => simp
      | false =>
        cases h2 : strEq a.1.1 k <;> simp
/-- The first slot of a phase, and when it begins. -/
def slotOf (spans : List SpanT) (k : ByteArray) : Option (SlotT × Int) := (allP 0 spans).find? fun p => strEq p.1.1 k
def mapOf (c o : Int) (spans : List SpanT) : List EntT := (allP 0 spans).foldl (putS c o) []
theorem mapOf_find (c o : Int) (spans : List SpanT) (k : ByteArray) (z : EntT) : mfind k z (mapOf c o spans) = match slotOf spans k with
    | some p => (p.1.1, ByteArray.mk #[], bars4 c o p)
    | none => z := by
  unfold mapOf slotOf
  rw [mfind_fold]; rfl
/-! ### The program's own walk -/
theorem arc_ (n : Nat) (c o at_ k : Int) (h : -1000000 ≤ o + at_ ∧ o + at_ ≤ 1000000) : times_clock_arc n (c, o, at_, k) = some (arcOf c o at_ k) := by
  unfold times_clock_arc
  simp only
  rw [wrap64_id (by omega) (by omega), norm_]; rfl
theorem round18_ (n : Nat) (s : SlotT) (at_ c o : Int) (m : List EntT) (hs : timedOf s = true) (ha : 0 ≤ at_ ∧ at_ ≤ 200000) (ho : 0 ≤ o ∧ o ≤ 6000) :
    times_Heads_round n (s.1, s.2.1, s.2.2.1, s.2.2.2.1, s.2.2.2.2, at_, c, o, m) = some (true, c, o, putS c o m (s, at_)) := by
  obtain ⟨s1, s2, s3, s4, s5⟩ := s
  obtain ⟨b1, b2, b3⟩ := timed_bd hs
  simp only at b1 b2 b3
  unfold times_Heads_round putS
  simp only
  rw [wrap64_id (n := s2 - s3) (by omega) (by omega), wrap64_id (n := s2 - s3 - s4) (by omega) (by omega)]
  cases hh : mhas s1 m with
  | true => rfl
  | false =>
    simp only [cond_false]
    rw [wrap64_id (n := at_ + (s2 - s3 - s4)) (by omega) (by omega), arc_ n c o at_ _ (by omega), arc_ n c o _ _ (by omega)]
    rfl
theorem lineP_bd {l : List SlotT} (h : ∀ s ∈ l, timedOf s = true) (i : Nat) (hi : i ≤ 4) : 0 ≤ sumOf (l.take i) ∧ sumOf (l.take i) ≤ 24000 := by
  have := sum_mono h i
  omega
set_option maxHeartbeats 1000000 in
theorem slots1_ (c o : Int) (t : TimT) (hs : soundOf t.2.2.1 = true) (ho : 0 ≤ o ∧ o ≤ 6000) : Ev (fun n => times_slots_1 n (c, o, t.1, t.2.1, t.2.2.1, t.2.2.2.1, t.2.2.2.2, [])) (c, o, t.1, t.2.1, t.2.2.1, t.2.2.2.1, t.2.2.2.2, mapOf c o t.2.2.1) := by
  obtain ⟨nm, off, spans, ta, tb⟩ := t
  obtain ⟨h4, hx⟩ := sound_bd hs
  simp only at h4 hx ⊢
  unfold times_slots_1
  refine Ev.loopB (st := fun i => (totOf (spans.take i), spans, ((spans.length : Nat) : Int), (i : Int), c, o, nm, off, spans, ta, tb, (allP 0 (spans.take i)).foldl (putS c o) [])) spans.length (.inr (c, o, nm, off, spans, ta, tb, mapOf c o spans)) rfl (fun i hi => ?_) ?_ ?_
  · have hm := hx _ (getD_mem spans i [] hi)
    have htb := tot_bd hx i
    have hlb := longOf_bd hm
    have hsnoc := allP_snoc 0 spans i hi
    have htn : totOf (spans.take (i + 1)) = totOf (spans.take i) + longOf (spans.getD i []) := by unfold totOf; rw [sum_take _ spans i [] hi]
    rw [hsnoc, htn, List.foldl_append]
    rw [Int.zero_add]
    simp only [ofNat_lt_true hi, cond_true, inB_nat, hi, decide_true, atI_nat]
    generalize spans.getD i [] = g at hm hlb
    generalize (allP 0 (spans.take i)).foldl (putS c o) [] = M
    generalize totOf (spans.take i) = b at htb
    obtain ⟨h2, hln⟩ := span_bd hm
    have hb : 0 ≤ b ∧ b ≤ 96000 := by omega
    refine Ev.loopB (st := fun k => (b, spans, ((spans.length : Nat) : Int), (i : Int), g, ((g.length : Nat) : Int), (k : Int), c, o, nm, off, spans, ta, tb, g, (spanP b (g.take k)).foldl (putS c o) M)) g.length (.inr (b, spans, ((spans.length : Nat) : Int), (i : Int), c, o, nm, off, spans, ta, tb, g, (spanP b g).foldl (putS c o) M)) rfl (fun k hk => ?_) ?_ ?_
    · have hl := hln _ (getD_mem g k [] hk)
      rw [spanP_snoc b g k hk, List.foldl_append]
      simp only [ofNat_lt_true hk, cond_true, inB_nat, hk, decide_true, atI_nat]
      generalize g.getD k [] = l at hl
      generalize (spanP b (g.take k)).foldl (putS c o) M = M2
      obtain ⟨l4, lt, _⟩ := line_bd hl
      refine Ev.loopB (st := fun j => (b, b + sumOf (l.take j), spans, ((spans.length : Nat) : Int), (i : Int), g, ((g.length : Nat) : Int), (k : Int), l, ((l.length : Nat) : Int), (j : Int), c, o, nm, off, spans, ta, tb, g, (lineP b (l.take j)).foldl (putS c o) M2)) l.length (.inr (b, spans, ((spans.length : Nat) : Int), (i : Int), g, ((g.length : Nat) : Int), (k : Int), c, o, nm, off, spans, ta, tb, g, (lineP b l).foldl (putS c o) M2)) ?_ (fun j hj => ?_) ?_ ?_
      · simp [sumOf, lineP]
      · have hz : l.getD j (ByteArray.mk #[], 0, 0, 0, []) = l.getD j zSlot := rfl
        have hsn : sumOf (l.take (j + 1)) = sumOf (l.take j) + (l.getD j zSlot).2.1 := by unfold sumOf; rw [sum_take _ l j zSlot hj]
        have hbd := lineP_bd lt j (by omega)
        have hts := lt _ (getD_mem l j zSlot hj)
        rw [lineP_snoc b l j hj, List.foldl_append, hsn]
        simp only [ofNat_lt_true hj, cond_true, inB_nat, hj, decide_true, atI_nat, hz]
        generalize (lineP b (l.take j)).foldl (putS c o) M2 = M3
        generalize l.getD j zSlot = s at hts
        generalize sumOf (l.take j) = q at hbd
        have hsb := (timed_bd hts).1
        refine Ev.bindS (fun n => round18_ n s (b + q) c o M3 hts (by omega) ho) ?_
        simp only [Bool.not_true, cond_false, wrap_succ (show j < 9223372036854775807 by omega)]
        rw [wrap64_id (by omega) (by omega), Int.add_assoc]
        exact Ev.ret _
      · simp only [ofNat_lt_irrefl, cond_false, List.take_length]; exact Ev.ret _
      · simp only [Sum.elim_inr, wrap_succ (show k < 9223372036854775807 by omega)]
        exact Ev.ret _
    · simp only [ofNat_lt_irrefl, cond_false, List.take_length]; exact Ev.ret _
    · simp only [Sum.elim_inr, wrap_succ (show i < 9223372036854775807 by omega)]
      refine Ev.bind (long_ g hm) ?_
      rw [wrap64_id (by omega) (by omega)]
      exact Ev.ret _
  · simp only [ofNat_lt_irrefl, cond_false, List.take_length]; exact Ev.ret _
  · exact Ev.ret _
/-- A timing's clock. -/
theorem clock_ (t : TimT) (hb : Bd t.2.2.1) (h1 : 1 ≤ lengthOf t.2.2.1) (h2 : lengthOf t.2.2.1 ≤ 6000) : Ev (fun n => times_newClock n t) (lengthOf t.2.2.1, t.2.1 % lengthOf t.2.2.1) := by
  obtain ⟨nm, off, spans, ta, tb⟩ := t
  unfold times_newClock
  refine Ev.bind (length_ _ hb) ?_
  simp only at hb h1 h2 ⊢
  generalize lengthOf spans = C at h1 h2
  refine Ev.bindS (fun n => norm_ n C (off, 1)) ?_
  have hn := normOf_at h1 (off, 1)
  refine Ev.yes (by simp; omega) ?_
  refine (Ev.ret _).of_eq ?_
  rw [tmod_pos (by omega), if_pos hn.1]
  congr 1
  unfold normOf
  rw [if_neg (by simp only; omega)]
  split
  · rename_i h
    simp only at h
    have : C = 1 := by omega
    subst this
    simp only; omega
  · simp only [Int.emod_emod]
/-- When a head is green and yellow. -/
def headOf (c o : Int) (ph : List PhaseT) (spans : List SpanT) (k : ByteArray) : Int × Int × Int × Int :=
  if 0 ≤ homeOf ph k then (match slotOf spans (ph.getD (homeOf ph k).toNat (ByteArray.mk #[], [], 0)).1 with
    | some p => bars4 c o p
    | none => (0, 0, 0, 0)) else (0, 0, 0, 0)
def headsOf (hs : List HeadT) (ph : List PhaseT) (off : Int) (spans : List SpanT) : List BarsT := hs.map fun h => (h.1, headOf (lengthOf spans) (off % lengthOf spans) ph spans h.1)
set_option maxHeartbeats 1000000 in
theorem heads_ (x : NodeT) (t : TimT) (hx : NodeBd x) (hb : Bd t.2.2.1) : Ev (fun n => times_Heads n (x.1, x.2.1, x.2.2.1, x.2.2.2.1, x.2.2.2.2.1, x.2.2.2.2.2.1, x.2.2.2.2.2.2, t)) (if fitsOf x.2.2.1 x.2.2.2.2.1 t.2.2.1 then (0, headsOf x.2.1 x.2.2.2.1 t.2.1 t.2.2.1) else (180, [])) := by
  have hfit := fits_ x t hx hb
  obtain ⟨x1, x2, x3, x4, x5, x6, x7⟩ := x
  obtain ⟨nm, off, spans, ta, tb⟩ := t
  unfold times_Heads
  refine Ev.bind hfit ?_
  have hh := hx.heads
  have hph := hx.phases
  have hpp := hx.phase
  simp only at hb hh hph hpp ⊢
  cases hf : fitsOf x3 x5 spans with
  | false => exact Ev.ret _
  | true =>
    obtain ⟨hs, _, _, c1, c2⟩ := fits_bd hf
    simp only [Bool.not_true, cond_false, if_true]
    refine Ev.bind (clock_ (nm, off, spans, ta, tb) hb c1 c2) ?_
    refine Ev.bind (a := (nm, off, spans, ta, tb)) (Ev.const fun n => rfl) ?_
    refine (Ev.congr · fun n => ifY_yes yokT_100 _) ?_
    have o1 := Int.emod_nonneg off (b := lengthOf spans) (by omega)
    have o2 := Int.emod_lt_of_pos off (b := lengthOf spans) (by omega)
    refine Ev.bind (slots1_ (lengthOf spans) (off % lengthOf spans) (nm, off, spans, ta, tb) hs (by omega)) ?_
    simp only
    unfold headsOf
    generalize lengthOf spans = c
    generalize off % c = o
    have hfd := mapOf_find c o spans
    generalize mapOf c o spans = M at hfd
    refine Ev.loopB (st := fun i => (x2, ((x2.length : Nat) : Int), (i : Int), x1, x2, x3, x4, x5, x6, x7, (x2.take i).map fun h => (h.1, headOf c o x4 spans h.1), M)) x2.length (x2.map fun h => (h.1, headOf c o x4 spans h.1)) rfl (fun i hi => ?_) ?_ (Ev.ret _)
    · have hlen : ((x2.take i).map fun h : HeadT => ((h.1, headOf c o x4 spans h.1) : BarsT)).length ≤ 1000000 := by simp; omega
      rw [take_snoc x2 i (ByteArray.mk #[], 0, 0, 0, 0, 0, 0, 0, 0, 0, 0) hi, List.map_append]
      simp only [ofNat_lt_true hi, cond_true, inB_nat, hi, decide_true, atI_nat, wrap_succ (show i < 9223372036854775807 by omega)]
      generalize x2.getD i (ByteArray.mk #[], 0, 0, 0, 0, 0, 0, 0, 0, 0, 0) = h
      generalize ((x2.take i).map fun h : HeadT => ((h.1, headOf c o x4 spans h.1) : BarsT)) = out at hlen
      refine Ev.bind (home_ x1 x2 x3 x4 x5 x6 x7 h.1 (by omega) fun p hp => by have := hpp p hp; omega) ?_
      have hfit1 : ∀ y : BarsT, fitB (out.length + [y].length) 48 = true := fun y => fitB_ok (by simp only [List.length_cons, List.length_nil]; omega)
      simp only [hfit1, cond_true, List.map_cons, List.map_nil]
      unfold headOf
      have hg := idxI_ge (fun p : PhaseT => inOf p.2.1 h.1) x4
      have hge : homeOf x4 h.1 < x4.length := hg.2
      by_cases h0 : 0 ≤ homeOf x4 h.1
      · obtain ⟨j, hj⟩ := Int.eq_ofNat_of_zero_le h0
        rw [hj]
        have hj4 : j < x4.length := by omega
        simp only [decide_eq_true (Int.natCast_nonneg j), cond_true, inB_nat, hj4, decide_true, atI_nat, hfd, Int.natCast_nonneg, if_true, Int.toNat_natCast]
        cases slotOf spans (x4.getD j (ByteArray.mk #[], [], 0)).1 <;> exact Ev.ret _
      · simp only [decide_eq_false h0, cond_false, if_neg h0]
        exact Ev.yes (fitB_ok (by simp only [List.length_cons, List.length_nil]; omega)) (Ev.ret _)
    · simp only [ofNat_lt_irrefl, cond_false, List.take_length]; exact Ev.ret _
theorem headsOf_get (hs : List HeadT) (ph : List PhaseT) (off : Int) (spans : List SpanT) (i : Nat) (h : i < hs.length) : (headsOf hs ph off spans).getD i (ByteArray.mk #[], 0, 0, 0, 0) = ((hs.getD i (ByteArray.mk #[], 0, 0, 0, 0, 0, 0, 0, 0, 0, 0)).1, headOf (lengthOf spans) (off % lengthOf spans) ph spans (hs.getD i (ByteArray.mk #[], 0, 0, 0, 0, 0, 0, 0, 0, 0, 0)).1) := by
  unfold headsOf
  rw [getD_lt _ _ _ (by simpa using h), getD_lt _ _ _ h]
  simp
end Go.Proofs.YtakkhnoelnpfdaaGreat.Fn
