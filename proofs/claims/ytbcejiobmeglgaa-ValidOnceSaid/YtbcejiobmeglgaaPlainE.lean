/- Chapter 7's laws: in a network that may be, each head is in one phase, each phase once in the rings, foes are apart. -/
import Derived.Test.YtbcejiobmeglgaaPlainD
namespace Go.Proofs.Ytbcejiobmeglgaa.Fn
open Go Go.RowKit Go.Den
set_option linter.unusedVariables false
set_option maxHeartbeats 4000000 in
theorem ValidOnce_ (x : NetT) : Ev (fun n => law07_ValidOnce n x) true := by
  have hf := few06_ x
  obtain ⟨a, b, c, d, e, ns, ss, f, g⟩ := x
  unfold law07_ValidOnce
  simp only [letJ] at hf ⊢
  rcases hf with ⟨hF, ⟨hl, _⟩, hN⟩ | hF
  rotate_left
  · exact Ev.bind hF (Ev.ret _)
  refine Ev.bind hF (Ev.no rfl ?_)
  refine Ev.bind (ccheck_ (a, b, c, d, e, ns, ss, f, g) (small_sh hN)) ?_
  by_cases h0 : (netE (a, b, c, d, e, ns, ss, f, g)).1 = 0
  rotate_left
  · exact Ev.yes (by simp [h0]) (Ev.bind awake07_ (Ev.ret _))
  refine Ev.no (by simp [h0]) ?_
  obtain ⟨h1, h2, h3, h4, h5, h6⟩ := net_zero.1 h0
  refine Ev.loopB (st := fun i => ((i : Int), a, b, c, d, e, ns, ss, f, g)) ns.length (.inr ()) rfl (fun i hi => ?_) ?_ ?_
  rotate_left
  · simp only [ofNat_lt_irrefl, cond_false]; exact Ev.ret _
  · exact Ev.bind awake07_ (Ev.ret _)
  simp only [ofNat_lt_true hi, cond_true, inB_nat, hi, decide_true, atI_nat]
  have hz : (nodeE (ns.getD i (ByteArray.mk #[], [], [], [], [], [], 0))).1 = 0 := one_zero (scanE_ok h5 i hi)
  have hy := hN _ (getD_mem ns i (ByteArray.mk #[], [], [], [], [], [], 0) hi)
  generalize ns.getD i (ByteArray.mk #[], [], [], [], [], [], 0) = y at hy hz
  obtain ⟨y1, y2, y3, y4, y5, y6, y7⟩ := y
  have b1 : y2.length ≤ 50 := hy.heads
  have b2 : y4.length ≤ 50 := hy.phases
  have b3 : ∀ p ∈ y4, p.2.1.length ≤ 50 := hy.phase
  have b4 : y6.length ≤ 80 := hy.foes
  obtain ⟨q1, q2, q3, q4, q5, q6, q7⟩ := node_zero.1 hz
  simp only at q3 q4 q5 q6 q7
  refine Ev.loopB (st := fun j => ((i : Int), (j : Int), a, b, c, d, e, ns, ss, f, g, y1, y2, y3, y4, y5, y6, y7)) y2.length (.inr ((i : Int), a, b, c, d, e, ns, ss, f, g, y1, y2, y3, y4, y5, y6, y7)) rfl (fun j hj => ?_) ?_ ?_
  · simp only [ofNat_lt_true hj, cond_true]
    have h1c := head_once q4 j hj
    refine Ev.loopB (st := fun p => ((i : Int), (j : Int), ((cnt (y2.getD j zHead).1 ((y4.take p).flatMap fun p => p.2.1) : Nat) : Int), (p : Int), a, b, c, d, e, ns, ss, f, g, y1, y2, y3, y4, y5, y6, y7)) y4.length ((i : Int), (j : Int), 1, a, b, c, d, e, ns, ss, f, g, y1, y2, y3, y4, y5, y6, y7) (by simp [cnt]) (fun p hp => ?_) ?_ ?_
    · simp only [ofNat_lt_true hp, cond_true]
      have hL : (y4.getD p zPhase).2.1.length ≤ 50 := b3 _ (getD_mem y4 p zPhase hp)
      have hnext := flat_take (y2.getD j zHead).1 (fun p : PhaseT => p.2.1) zPhase y4 p hp
      have hup := flat_take_le (y2.getD j zHead).1 (fun p : PhaseT => p.2.1) y4 (p + 1)
      refine Ev.loopB (st := fun k => ((i : Int), (j : Int), ((cnt (y2.getD j zHead).1 ((y4.take p).flatMap fun p => p.2.1) + cnt (y2.getD j zHead).1 ((y4.getD p zPhase).2.1.take k) : Nat) : Int), (p : Int), (k : Int), a, b, c, d, e, ns, ss, f, g, y1, y2, y3, y4, y5, y6, y7)) (y4.getD p zPhase).2.1.length ((i : Int), (j : Int), ((cnt (y2.getD j zHead).1 ((y4.take (p + 1)).flatMap fun p => p.2.1) : Nat) : Int), (p : Int), a, b, c, d, e, ns, ss, f, g, y1, y2, y3, y4, y5, y6, y7) (by simp [cnt]) (fun k hk => ?_) ?_ ?_
      · have hk' : k < (y4.getD p (ByteArray.mk #[], [], 0)).2.1.length := hk
        simp only [inB_nat, hp, hj, decide_true, cond_true, atI_nat, ofNat_lt_true hk', hk', wrap_succ (show k < 9223372036854775807 by omega)]
        have ek := cnt_take (y2.getD j zHead).1 (ByteArray.mk #[]) _ k hk
        have hle := cnt_take_le (y2.getD j zHead).1 (y4.getD p zPhase).2.1 (k + 1)
        by_cases hq : strEq ((y4.getD p zPhase).2.1.getD k (ByteArray.mk #[])) (y2.getD j zHead).1 = true
        · rw [if_pos hq] at ek
          refine Ev.yes hq ?_
          rw [wrap_cnt (by omega), ek]
          exact Ev.ret _
        · rw [if_neg hq] at ek
          refine Ev.no (Bool.eq_false_iff.2 hq) ?_
          rw [ek]
          exact Ev.ret _
      · have hh : ∀ l : List PhaseT, l.getD p (ByteArray.mk #[], [], 0) = l.getD p zPhase := fun _ => rfl
        simp only [inB_nat, hp, decide_true, cond_true, atI_nat, hh, ofNat_lt_irrefl, cond_false, List.take_length, hnext]
        exact Ev.ret _
      · simp only [wrap_succ (show p < 9223372036854775807 by omega)]
        exact Ev.ret _
    · simp only [ofNat_lt_irrefl, cond_false, List.take_length, h1c]
      exact Ev.ret _
    · refine Ev.no rfl ?_
      simp only [wrap_succ (show j < 9223372036854775807 by omega)]
      exact Ev.ret _
  · simp only [ofNat_lt_irrefl, cond_false]; exact Ev.ret _
  refine Ev.loopB (st := fun j => ((i : Int), (j : Int), a, b, c, d, e, ns, ss, f, g, y1, y2, y3, y4, y5, y6, y7)) y4.length (.inr ((i : Int), a, b, c, d, e, ns, ss, f, g, y1, y2, y3, y4, y5, y6, y7)) rfl (fun j hj => ?_) ?_ ?_
  · simp only [ofNat_lt_true hj, cond_true, inB_nat, hj, decide_true, atI_nat]
    have e1 := rings_once q6 j hj
    refine Ev.bind (count_ (y1, y2, y3, y4, y5, y6, y7) _ hy.groups hy.rings hy.rows (Nat.le_of_eq e1)) ?_
    refine Ev.no (by
      show (!(((cnt (y4.getD j zPhase).1 (allNames y5) : Nat) : Int) == 1)) = false
      rw [e1]; rfl) ?_
    simp only [wrap_succ (show j < 9223372036854775807 by omega)]
    exact Ev.ret _
  · simp only [ofNat_lt_irrefl, cond_false]; exact Ev.ret _
  refine Ev.loopB (st := fun j => ((i : Int), (j : Int), a, b, c, d, e, ns, ss, f, g, y1, y2, y3, y4, y5, y6, y7)) y6.length (.inr ((i : Int), a, b, c, d, e, ns, ss, f, g)) rfl (fun j hj => ?_) ?_ ?_
  · simp only [ofNat_lt_true hj, cond_true, inB_nat, hj, decide_true, atI_nat]
    obtain ⟨e1, e2⟩ := foe_ok q4 q7 j hj
    refine Ev.bind (home_ y1 y2 y3 y4 y5 y6 y7 _ (by omega) fun p hp => by have := b3 p hp; omega) ?_
    refine Ev.bind (home_ y1 y2 y3 y4 y5 y6 y7 _ (by omega) fun p hp => by have := b3 p hp; omega) ?_
    refine Ev.no (beq_false_of_ne e1) ?_
    refine Ev.bind (home_ y1 y2 y3 y4 y5 y6 y7 _ (by omega) fun p hp => by have := b3 p hp; omega) ?_
    refine Ev.no (decide_eq_false (by
      show ¬ homeOf y4 (y6.getD j zFoe).1 < 0
      omega)) ?_
    simp only [wrap_succ (show j < 9223372036854775807 by omega)]
    exact Ev.ret _
  · simp only [ofNat_lt_irrefl, cond_false]; exact Ev.ret _
  · simp only [Sum.elim_inr, wrap_succ (show i < 9223372036854775807 by omega)]
    exact Ev.ret _
end Go.Proofs.Ytbcejiobmeglgaa.Fn
