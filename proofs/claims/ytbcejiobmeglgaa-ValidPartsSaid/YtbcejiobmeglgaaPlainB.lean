/- Chapter 7's laws: what a network that may be is made of may be. -/
import Derived.Test.YtbcejiobmeglgaaPlainA
namespace Go.Proofs.Ytbcejiobmeglgaa.Fn
open Go Go.RowKit Go.Den
set_option linter.unusedVariables false
theorem then_zero {a b : Err} : (thenE a b).1 = 0 ↔ a.1 = 0 ∧ b.1 = 0 := by
  unfold thenE
  by_cases h : a.1 = 0
  · rw [if_pos h]; exact ⟨fun k => ⟨h, k⟩, fun k => k.2⟩
  · rw [if_neg h]; exact ⟨fun k => absurd k h, fun k => k.1⟩
theorem node_zero {y : NodeT} : (nodeE y).1 = 0 ↔ sizesOk y = true ∧ someOk y = true ∧ (headsE y.2.1).1 = 0 ∧ (phasesE y.2.1 y.2.2.2.1).1 = 0 ∧ (pedsE y.2.2.1 y.2.2.2.1).1 = 0 ∧ (ringsE y.2.2.2.1 y.2.2.2.2.2.2 y.2.2.2.2.1).1 = 0 ∧ (foesE y.2.1 y.2.2.2.1 y.2.2.2.2.2.1).1 = 0 := by
  unfold nodeE
  by_cases h1 : sizesOk y = true
  · rw [if_pos h1]
    by_cases h2 : someOk y = true
    · rw [if_pos h2, then_zero, then_zero, then_zero, then_zero]
      constructor
      · rintro ⟨⟨⟨⟨k1, k2⟩, k3⟩, k4⟩, k5⟩; exact ⟨h1, h2, k1, k2, k3, k4, k5⟩
      · rintro ⟨_, _, k1, k2, k3, k4, k5⟩; exact ⟨⟨⟨⟨k1, k2⟩, k3⟩, k4⟩, k5⟩
    · rw [if_neg h2]
      exact ⟨fun h => (by cases h), fun h => absurd h.2.1 h2⟩
  · rw [if_neg h1]
    exact ⟨fun h => (by cases h), fun h => absurd h.1 h1⟩
theorem net_zero {a b c d e : Int} {ns : List NodeT} {ss : List StopT} {f g : Int} : (netE (a, b, c, d, e, ns, ss, f, g)).1 = 0 ↔ ns.length ≤ 12 ∧ ss.length ≤ 12 ∧ netRange (a, b, c, d, e, ns, ss, f, g) = true ∧ ns.length ≠ 0 ∧ (scanE ns.length (oneNodeE ns)).1 = 0 ∧ (stopsE ns ss).1 = 0 := by
  unfold netE
  simp only
  by_cases h1 : 12 < ns.length ∨ 12 < ss.length
  · rw [if_pos h1]; exact ⟨fun h => (by cases h), fun h => by omega⟩
  rw [if_neg h1]
  by_cases h2 : netRange (a, b, c, d, e, ns, ss, f, g) = true
  · rw [if_pos h2]
    by_cases h3 : ns.length = 0
    · rw [if_pos h3]; exact ⟨fun h => (by cases h), fun h => absurd h3 h.2.2.2.1⟩
    rw [if_neg h3]
    by_cases h4 : (scanE ns.length (oneNodeE ns)).1 = 0
    · rw [if_pos h4]; exact ⟨fun h => ⟨by omega, by omega, h2, h3, h4, h⟩, fun h => h.2.2.2.2.2⟩
    · rw [if_neg h4]; exact ⟨fun h => absurd h h4, fun h => absurd h.2.2.2.2.1 h4⟩
  · rw [if_neg h2]; exact ⟨fun h => (by cases h), fun h => absurd h.2.2.1 h2⟩
theorem one_zero {ns : List NodeT} {i : Nat} (h : (oneNodeE ns i).1 = 0) : (nodeE (ns.getD i zNode)).1 = 0 := by
  unfold oneNodeE at h
  split at h
  · cases h
  · exact h
theorem alone_zero {a b c d e : Int} {ns : List NodeT} {ss : List StopT} {f g : Int} {y : NodeT} (h : (netE (a, b, c, d, e, ns, ss, f, g)).1 = 0) (hy : (nodeE y).1 = 0) : (netE (a, b, c, d, e, [y], [], f, g)).1 = 0 := by
  obtain ⟨h1, h2, h3, h4, h5, h6⟩ := net_zero.1 h
  refine net_zero.2 ⟨by simp, by simp, h3, by simp, ?_, rfl⟩
  have : scanE [y].length (oneNodeE [y]) = (0, 0) := scanE_none fun i hi => by
    have : i = 0 := by simpa using hi
    subst this
    unfold oneNodeE
    rw [if_neg (by
      have : nodeIx [y] (List.getD [y] 0 zNode).1 = 0 := by simp [nodeIx, idxI, (strEq_iff y.1 y.1).2 rfl]
      rw [this]; omega)]
    exact hy
  rw [this]
theorem bare_zero {y1 : ByteArray} {y2 : List HeadT} {y3 : List PedT} {y4 : List PhaseT} {y5 : List (List RowT)} {y6 : List FoeT} {y7 : Int} (h : (nodeE (y1, y2, y3, y4, y5, y6, y7)).1 = 0) : (nodeE (y1, y2, [], y4, y5, [], y7)).1 = 0 := by
  obtain ⟨h1, h2, h3, h4, h5, h6, h7⟩ := node_zero.1 h
  refine node_zero.2 ⟨?_, h2, h3, h4, rfl, h6, rfl⟩
  simp [sizesOk] at h1 ⊢
  omega
set_option maxHeartbeats 1000000 in
theorem ValidParts_ (x : NetT) : Ev (fun n => law07_ValidParts n x) true := by
  have hf := few06_ x
  obtain ⟨a, b, c, d, e, ns, ss, f, g⟩ := x
  unfold law07_ValidParts
  simp only [letJ] at hf ⊢
  rcases hf with ⟨hF, ⟨hl, _⟩, hN⟩ | hF
  rotate_left
  · exact Ev.bind hF (Ev.ret _)
  refine Ev.bind hF (Ev.no rfl ?_)
  refine Ev.bind (ccheck_ (a, b, c, d, e, ns, ss, f, g) (small_sh hN)) ?_
  by_cases h0 : (netE (a, b, c, d, e, ns, ss, f, g)).1 = 0
  rotate_left
  · exact Ev.yes (by simp [h0]) (Ev.bind awake07_ (Ev.ret _))
  refine Ev.no (by simp [h0]) ?_
  obtain ⟨h1, h2, h3, h4, h5, h6⟩ := net_zero.1 h0
  refine Ev.loopB (st := fun i => ((i : Int), a, b, c, d, e, ns, ss, f, g, a, b, c, d, e, ns, f, g)) ns.length (.inr (a, b, c, d, e, ns, f, g)) rfl (fun i hi => ?_) ?_ ?_
  · simp only [ofNat_lt_true hi, cond_true, inB_nat, hi, decide_true, atI_nat, wrap_succ (show i < 9223372036854775807 by omega)]
    have hz : (nodeE (ns.getD i (ByteArray.mk #[], [], [], [], [], [], 0))).1 = 0 := one_zero (scanE_ok h5 i hi)
    have hy := hN _ (getD_mem ns i (ByteArray.mk #[], [], [], [], [], [], 0) hi)
    generalize ns.getD i (ByteArray.mk #[], [], [], [], [], [], 0) = y at hy hz
    obtain ⟨y1, y2, y3, y4, y5, y6, y7⟩ := y
    have b1 : y2.length ≤ 50 := hy.heads
    have b3 : ∀ p ∈ y4, p.2.1.length ≤ 50 := hy.phase
    have k1 := alone_zero h0 hz
    have k2 := alone_zero h0 (bare_zero hz)
    refine Ev.bind (ccheck_ (a, b, c, d, e, [(y1, y2, y3, y4, y5, y6, y7)], [], f, g) ⟨fun z hm => ?_, fun z hm p hp => ?_⟩) ?_
    · rw [List.mem_singleton.1 hm]; simp only [Sh]; omega
    · rw [List.mem_singleton.1 hm] at hp; have := b3 p hp; simp only [Sh]; omega
    refine Ev.bind (ccheck_ (a, b, c, d, e, [(y1, y2, [], y4, y5, [], y7)], [], f, g) ⟨fun z hm => ?_, fun z hm p hp => ?_⟩) ?_
    · rw [List.mem_singleton.1 hm]; simp only [Sh]; omega
    · rw [List.mem_singleton.1 hm] at hp; have := b3 p hp; simp only [Sh]; omega
    rw [k1, k2]
    exact Ev.ret _
  · simp only [ofNat_lt_irrefl, cond_false]; exact Ev.ret _
  · refine Ev.bind (ccheck_ (a, b, c, d, e, ns, [], f, g) (small_sh (x := (a, b, c, d, e, ns, [], f, g)) hN)) ?_
    have : (netE (a, b, c, d, e, ns, [], f, g)).1 = 0 := net_zero.2 ⟨h1, by simp, h3, h4, h5, rfl⟩
    refine Ev.yes (by simp [this]) (Ev.bind awake07_ (Ev.ret _))
end Go.Proofs.Ytbcejiobmeglgaa.Fn
