/- Chapter 7's laws, of networks: the checks agree, and so do the places of names. -/
import Derived.Test.YtbcejiobmeglgaaChecksG
namespace Go.Proofs.Ytbcejiobmeglgaa.Fn
open Go Go.RowKit Go.Den
set_option linter.unusedVariables false
theorem awake07_ : Ev (fun n => law07_awake n ()) true := Ev.const fun n => law07_awake_eq n ()
theorem small_sh {x : NetT} (h : ∀ y ∈ x.2.2.2.2.2.1, SmallN y) : NetSh x :=
  ⟨fun y hy => by have := (h y hy).heads; simp only [Sh]; omega, fun y hy p hp => by have := (h y hy).phase p hp; simp only [Sh]; omega⟩
theorem ValidCheck_ (x : NetT) : Ev (fun n => law07_ValidCheck n x) true := by
  unfold law07_ValidCheck
  rcases few06_ x with ⟨hF, _, hN⟩ | hF
  rotate_left
  · exact Ev.bind hF (Ev.ret _)
  refine Ev.bind hF ?_
  refine Ev.no rfl ?_
  refine Ev.bind (ccheck_ x (small_sh hN)) (Ev.bind (net07_ x (small_sh hN)) ?_)
  refine Ev.yes (beq_self_eq_true _) (Ev.yes (beq_self_eq_true _) ?_)
  exact Ev.bind awake07_ (Ev.ret _)
theorem cphaseIx_ (a : ByteArray) (b : List HeadT) (c : List PedT) (ph : List PhaseT) (e : List (List RowT)) (f : List FoeT) (g : Int) (k : ByteArray) (hl : ph.length < 9223372036854775807) : Ev (fun n => valid_Phase n (a, b, c, ph, e, f, g, k)) (phaseIx ph k) := by
  unfold valid_Phase
  refine Ev.bind (a := (phaseIx ph k, k)) ?_ (Ev.ret _)
  unfold slices_IndexFunc_valid_Phase_1
  exact indexFuncV_ev (S := ByteArray) zPhase (fun n a s => valid_Phase_1 n (a.1, a.2.1, a.2.2, s)) (fun h => strEq h.1 k) ph k hl fun a _ => Ev.ret _
set_option maxHeartbeats 1000000 in
theorem ValidFinds_ (x : NetT) (id : ByteArray) : Ev (fun n => law07_ValidFinds n (x.1, x.2.1, x.2.2.1, x.2.2.2.1, x.2.2.2.2.1, x.2.2.2.2.2.1, x.2.2.2.2.2.2.1, x.2.2.2.2.2.2.2.1, x.2.2.2.2.2.2.2.2, id)) true := by
  have hf := few06_ x
  obtain ⟨a, b, c, d, e, ns, ss, f, g⟩ := x
  unfold law07_ValidFinds
  simp only [letJ] at hf ⊢
  rcases hf with ⟨hF, ⟨hl, _⟩, hN⟩ | hF
  rotate_left
  · exact Ev.bind hF (Ev.ret _)
  refine Ev.bind hF (Ev.no rfl ?_)
  cases h1 : decide (100 < ((id.size : Nat) : Int)) with
  | true => exact Ev.ret _
  | false =>
  refine Ev.no rfl ?_
  refine Ev.bind (cnodeIx_ a b c d e ns ss f g id (by omega)) (Ev.bind (rnode07_ a b c d e ns ss f g id (by simp only [Sh]; omega)) ?_)
  refine Ev.no (by simp) ?_
  refine Ev.loopB (st := fun i => (id, (i : Int), a, b, c, d, e, ns, ss, f, g)) ns.length (.inr ()) rfl (fun i hi => ?_) ?_ ?_
  · simp only [ofNat_lt_true hi, cond_true, inB_nat, hi, decide_true, atI_nat, wrap_succ (show i < 9223372036854775807 by omega)]
    have hy := hN _ (getD_mem ns i (ByteArray.mk #[], [], [], [], [], [], 0) hi)
    generalize ns.getD i (ByteArray.mk #[], [], [], [], [], [], 0) = y at hy
    obtain ⟨y1, y2, y3, y4, y5, y6, y7⟩ := y
    have b1 : y2.length ≤ 50 := hy.heads
    have b2 : y4.length ≤ 50 := hy.phases
    have b3 : ∀ p ∈ y4, p.2.1.length ≤ 50 := hy.phase
    refine Ev.bind (cheadIx_ y1 y2 y3 y4 y5 y6 y7 id (by omega)) (Ev.bind (rhead07_ y1 y2 y3 y4 y5 y6 y7 id (by simp only [Sh]; omega)) (Ev.no (by simp) ?_))
    refine Ev.bind (cphaseIx_ y1 y2 y3 y4 y5 y6 y7 id (by omega)) (Ev.bind (rphase07_ y1 y2 y3 y4 y5 y6 y7 id (by simp only [Sh]; omega)) (Ev.no (by simp) ?_))
    refine Ev.bind (home_ y1 y2 y3 y4 y5 y6 y7 id (by omega) fun p hp => by have := b3 p hp; omega) (Ev.bind (rhome07_ y1 y2 y3 y4 y5 y6 y7 id (by simp only [Sh]; omega) fun p hp => by have := b3 p hp; simp only [Sh]; omega) (Ev.no (by simp) ?_))
    exact Ev.ret _
  · simp only [ofNat_lt_irrefl, cond_false]; exact Ev.ret _
  · exact Ev.bind awake07_ (Ev.ret _)
end Go.Proofs.Ytbcejiobmeglgaa.Fn
