/- The laws of chapter 18, about functions alone. -/
import Derived.Test.YtakkhnoelnpfdaaTimesC
import Derived.Test.YtakkhnoelnpfdaaFew
import Derived.Test.YtakkhnoelnpfdaaBusy
namespace Go.Proofs.Ytakkhnoelnpfdaa.Fn
open Go Go.RowKit Go.Den Go.Circ
set_option linter.unusedVariables false

def awX : NodeT := (ByteArray.mk #[], [(ByteArray.mk #[97], 0, 0, 0, 0, 0, 0, 0, 0, 0, 0), (ByteArray.mk #[98], 0, 0, 0, 0, 0, 0, 0, 0, 0, 0)], [], [(ByteArray.mk #[112], [ByteArray.mk #[97]], 0), (ByteArray.mk #[113], [ByteArray.mk #[98]], 0)], [[(false, [ByteArray.mk #[112], ByteArray.mk #[113]])]], [], 0)
def awT : TimT := (ByteArray.mk #[], 5, [[[(ByteArray.mk #[112], 10, 3, 2, []), (ByteArray.mk #[113], 20, 3, 2, [])]]], 0, 0)
theorem awX_bd : NodeBd awX := ⟨by decide, by decide, by decide, by
  intro p hp
  simp only [awX, List.mem_cons, List.not_mem_nil, or_false] at hp
  rcases hp with rfl | rfl <;> decide, by
  intro g hg r hr
  simp only [awX, List.mem_cons, List.not_mem_nil, or_false] at hg
  subst hg
  simp only [List.mem_cons, List.not_mem_nil, or_false] at hr
  subst hr
  decide⟩
theorem awT_bd : Bd awT.2.2.1 := by
  intro x hx l hl s hs
  simp only [awT, List.mem_cons, List.not_mem_nil, or_false] at hx
  subst hx
  simp only [List.mem_cons, List.not_mem_nil, or_false] at hl
  subst hl
  simp only [List.mem_cons, List.not_mem_nil, or_false] at hs
  rcases hs with rfl | rfl <;> decide
theorem awFits : fitsOf awX.2.2.1 awX.2.2.2.2.1 awT.2.2.1 = true := by decide +kernel
theorem awHeads : headsOf awX.2.1 awX.2.2.2.1 awT.2.1 awT.2.2.1 = [(ByteArray.mk #[97], 5, 5, 10, 3), (ByteArray.mk #[98], 15, 15, 0, 3)] := by decide +kernel
theorem awLength : lengthOf awT.2.2.1 = 30 := by decide +kernel
theorem awSet : setOf 30 [normOf 30 (15, 15), normOf 30 (0, 3)] = [(15, 18)] := by
  refine (setOf_arcs (by decide) (by decide) _).unique (one_arc (by decide) (by decide) (by decide) (by decide) fun k k0 k1 => ?_)
  have hn : normOf 30 (15, 15) = (15, 15) := by decide
  have hn2 : normOf 30 (0, 3) = (0, 3) := by decide
  rw [hn, hn2]
  simp only [TS, List.mem_cons, List.not_mem_nil, or_false, exists_eq_or_imp, exists_eq_left, HasT]
  omega
theorem awBusy : busyOf 30 (15, 15) (0, 3) = (15, 18) := by
  unfold busyOf
  rw [awSet]; rfl
theorem awake18_ : Ev (fun n => law18_awake n ()) true := by
  unfold law18_awake
  refine Ev.bindS (fun n => rfl) ?_
  have h1 := heads_ awX awT awX_bd awT_bd
  rw [awFits, if_pos rfl, awHeads] at h1
  refine Ev.bind h1 ?_
  simp only [letJ]
  refine Ev.no rfl ?_
  refine Ev.no rfl ?_
  refine Ev.bindS (fun n => rfl) ?_
  have h2 := fits_ awX awT awX_bd awT_bd
  rw [awFits] at h2
  refine Ev.bind h2 ?_
  refine Ev.no rfl ?_
  have h3 := length_ awT awT_bd
  rw [awLength] at h3
  refine Ev.bind h3 ?_
  have h4 := busy_ 30 (ByteArray.mk #[98]) (15, 15) (0, 3)
  rw [awBusy] at h4
  refine Ev.no rfl ?_
  refine Ev.yes rfl ?_
  refine Ev.yes rfl ?_
  refine Ev.yes rfl ?_
  refine Ev.yes rfl ?_
  refine Ev.yes rfl ?_
  refine Ev.yes rfl ?_
  refine Ev.yes rfl ?_
  refine Ev.yes rfl ?_
  refine Ev.yes rfl ?_
  exact Ev.bind h4 (Ev.ret _)
/-! ### From when to when -/
theorem TimesBusy_ (C : Int) (b : BarsT) : Ev (fun n => law18_TimesBusy n (C, b)) true := by
  obtain ⟨nm, g1, g2, y⟩ := b
  unfold law18_TimesBusy
  have main : Ev (fun n => (times_Busy n (C, nm, g1, g2, y)).bind fun y3 => (ref18_Busy n (C, nm, g1, g2, y)).bind fun y4 =>
      bif (y3.1 == y4.1) && ((y3.2 == y4.2) && true) then (law18_awake n ()).bind fun y5 => some y5 else some false) true := by
    refine Ev.bind (busy_ C nm (g1, g2) y) ?_
    refine Ev.bind (rbusy_ C nm (g1, g2) y) ?_
    refine Ev.yes (by simp) ?_
    exact Ev.bind awake18_ (Ev.ret _)
  refine Ev.ite (fun h => ?_) (fun h => main)
  simp only [letJ]
  exact Ev.ite (fun _ => Ev.ret _) (fun _ => main)
/-! ### A later offset -/
theorem headsOf_get (hs : List HeadT) (ph : List PhaseT) (off : Int) (spans : List SpanT) (i : Nat) (h : i < hs.length) : (headsOf hs ph off spans).getD i (ByteArray.mk #[], 0, 0, 0, 0) = ((hs.getD i (ByteArray.mk #[], 0, 0, 0, 0, 0, 0, 0, 0, 0, 0)).1, headOf (lengthOf spans) (off % lengthOf spans) ph spans (hs.getD i (ByteArray.mk #[], 0, 0, 0, 0, 0, 0, 0, 0, 0, 0)).1) := by
  unfold headsOf
  rw [getD_lt _ _ _ (by simpa using h), getD_lt _ _ _ h]
  simp
theorem arcOf_turn {c : Int} (hc : 1 ≤ c ∧ c ≤ 6000) (off by_ at_ k : Int) : turnOf c [arcOf c (off % c) at_ k] by_ = setOf c [arcOf c ((off + by_) % c) at_ k] ∧ (arcOf c (off % c) at_ k).2 = (arcOf c ((off + by_) % c) at_ k).2 := by
  unfold arcOf
  constructor
  · refine (turnOf_arcs hc.1 hc.2 _ by_).eq hc.1 (setOf_arcs hc.1 hc.2 _) fun j _ _ => ?_
    have e1 := normOf_ts hc.1 hc.2 [(off % c + at_, k)] (j - by_)
    have e2 := normOf_ts hc.1 hc.2 [((off + by_) % c + at_, k)] j
    simp only [List.map_cons, List.map_nil] at e1 e2
    rw [e1, e2]
    simp only [TS, List.mem_singleton, exists_eq_left, HasT]
    have e : (j - by_ - (off % c + at_)) % c = (j - ((off + by_) % c + at_)) % c := by
      have h1 : (j - by_ - (off % c + at_)) % c = (j - by_ - at_ - off) % c := by
        rw [show j - by_ - (off % c + at_) = (j - by_ - at_) - off % c by omega, Int.sub_emod_emod]
      have h2 : (j - ((off + by_) % c + at_)) % c = (j - at_ - (off + by_)) % c := by
        rw [show j - ((off + by_) % c + at_) = (j - at_) - (off + by_) % c by omega, Int.sub_emod_emod]
      rw [h1, h2]; congr 1; omega
    rw [e]
  · unfold normOf
    by_cases h : c < 1 ∨ 6000 < c ∨ k < 1
    · rw [if_pos h, if_pos h]
    · rw [if_neg h, if_neg h]
      split <;> rfl
set_option maxHeartbeats 1000000 in
theorem TimesTurn_ (x : NodeT) (t : TimT) (by_ : Int) : Ev (fun n => law18_TimesTurn n (x.1, x.2.1, x.2.2.1, x.2.2.2.1, x.2.2.2.2.1, x.2.2.2.2.2.1, x.2.2.2.2.2.2, t.1, t.2.1, t.2.2.1, t.2.2.2.1, t.2.2.2.2, by_)) true := by
  unfold law18_TimesTurn
  have aw : Ev (fun n => (law18_awake n ()).bind fun y4 => some y4) true := Ev.bind awake18_ (Ev.ret _)
  rcases few18_ x t with ⟨hF, ⟨hN, hT⟩, hlen⟩ | hF
  rotate_left
  · refine Ev.bind (F := fun n => law18_Few n _) hF ?_
    exact aw
  refine Ev.bind (F := fun n => law18_Few n _) hF ?_
  refine Ev.no rfl ?_
  refine Ev.ite (fun _ => aw) (fun h1 => ?_)
  refine Ev.ite (fun _ => aw) (fun h2 => ?_)
  refine Ev.ite (fun _ => aw) (fun h3 => ?_)
  simp only [letJ]
  refine Ev.ite (fun _ => aw) (fun h4 => ?_)
  simp only [decide_eq_false_iff_not] at h1 h2 h3 h4
  have hH := heads_ x t hN.bd hT.bd
  obtain ⟨nm, off, spans, ta, tb⟩ := t
  have hH2 := heads_ x (nm, off + by_, spans, ta, tb) hN.bd hT.bd
  have hL := length_ (nm, off, spans, ta, tb) hT.bd
  obtain ⟨x1, x2, x3, x4, x5, x6, x7⟩ := x
  have hhd := hN.heads
  simp only at h1 h2 h3 h4 hH hH2 hlen hL hhd ⊢
  refine Ev.bind hH ?_
  rw [wrap64_id (n := off + by_) (by omega) (by omega)]
  refine Ev.bind hH2 ?_
  cases hf : fitsOf x3 x5 spans with
  | false =>
    simp only [Bool.false_eq_true, if_false]
    refine Ev.no rfl ?_
    refine Ev.no rfl ?_
    refine Ev.bind hL ?_
    refine Ev.loopC (st := fun i => (by_, lengthOf spans, (i : Int), ([] : List BarsT), ([] : List BarsT))) 0 (fun _ => true) (fun _ => .inl false) (.inr ()) rfl (fun i hi => by omega) (fun i hi => by omega) (fun _ => ?_) (fun i hi => by omega) (fun _ => ?_)
    · exact Ev.ret _
    · exact aw
  | true =>
    obtain ⟨_, _, _, c1, c2⟩ := fits_bd hf
    simp only [if_true]
    have hl1 : (headsOf x2 x4 off spans).length = x2.length := by simp [headsOf]
    have hl2 : (headsOf x2 x4 (off + by_) spans).length = x2.length := by simp [headsOf]
    refine Ev.no rfl ?_
    refine Ev.no (by rw [hl1, hl2]; simp) ?_
    refine Ev.bind hL ?_
    have hg1 := headsOf_get x2 x4 off spans
    have hg2 := headsOf_get x2 x4 (off + by_) spans
    generalize headsOf x2 x4 off spans = A at hl1 hg1
    generalize headsOf x2 x4 (off + by_) spans = B at hl2 hg2
    generalize lengthOf spans = c at *
    refine Ev.loopB (st := fun i => (by_, c, (i : Int), A, B)) x2.length (.inr ()) rfl (fun i hi => ?_) ?_ ?_
    · have hiA : i < A.length := by omega
      have hiB : i < B.length := by omega
      simp only [ofNat_lt_true hiA, cond_true, inB_nat, hiA, hiB, decide_true, atI_nat, hg1 i hi, hg2 i hi]
      generalize x2.getD i (ByteArray.mk #[], 0, 0, 0, 0, 0, 0, 0, 0, 0, 0) = h
      -- the arcs of the head
      have key : turnOf c [((headOf c (off % c) x4 spans h.1).1, (headOf c (off % c) x4 spans h.1).2.1)] by_ = setOf c [((headOf c ((off + by_) % c) x4 spans h.1).1, (headOf c ((off + by_) % c) x4 spans h.1).2.1)] ∧
          (headOf c (off % c) x4 spans h.1).2.1 = (headOf c ((off + by_) % c) x4 spans h.1).2.1 ∧ (headOf c (off % c) x4 spans h.1).2.2.2 = (headOf c ((off + by_) % c) x4 spans h.1).2.2.2 := by
        have zero : turnOf c [((0 : Int), (0 : Int))] by_ = setOf c [((0 : Int), (0 : Int))] := by
          refine (turnOf_arcs c1 c2 _ by_).eq c1 (setOf_arcs c1 c2 _) fun j _ _ => ?_
          simp [TS, HasT]
        unfold headOf
        split
        · split
          · rename_i p _
            unfold bars4
            simp only
            exact ⟨(arcOf_turn ⟨c1, c2⟩ off by_ _ _).1, (arcOf_turn ⟨c1, c2⟩ off by_ _ _).2, (arcOf_turn ⟨c1, c2⟩ off by_ _ _).2⟩
          · exact ⟨zero, rfl, rfl⟩
        · exact ⟨zero, rfl, rfl⟩
      obtain ⟨k1, k2, k3⟩ := key
      refine Ev.bind (rturn_ c _ by_ (by simp)) ?_
      refine Ev.no (by simp [(strEq_iff h.1 h.1).2 rfl]) ?_
      refine Ev.bind (rset_ c _ (by simp)) ?_
      rw [formOf_set]
      refine Ev.bind (same_ _ _ (by have := turnOf_len c [((headOf c (off % c) x4 spans h.1).1, (headOf c (off % c) x4 spans h.1).2.1)] by_; simp at this; omega)) ?_
      rw [k1, k2, k3]
      simp only [decide_true, Bool.not_true, cond_false, beq_self_eq_true, wrap_succ (show i < 9223372036854775807 by omega)]
      exact Ev.ret _
    · have : A.length = x2.length := hl1
      simp only [this, ofNat_lt_irrefl, cond_false]; exact Ev.ret _
    · exact aw
theorem timesBusyPure (x0 : Int) (x1 : BarsT) (_ : WfA Θ (.one (.int .i64)) x0) (_ : WfA Θ (.agg [.str, .int .i64, .int .i64, .int .i64, .int .i64]) x1) : Ev (fun n => law18_TimesBusy n (x0, x1)) true := TimesBusy_ x0 x1
end Go.Proofs.Ytakkhnoelnpfdaa.Fn
