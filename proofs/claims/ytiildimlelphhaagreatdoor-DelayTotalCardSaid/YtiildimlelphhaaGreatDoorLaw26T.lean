/- Chapter 26's statements on totals. -/
import Derived.Test.YtiildimlelphhaaGreatDoorAwake26
namespace Go.Proofs.YtiildimlelphhaaGreatDoor.Fn
set_option linter.unusedVariables false
open Go Go.RowKit Go.Den Go.Circ

theorem delayTotal_pure (x0 : Int × Int × Int × Int × Int) (x1 : Int × Int × Int) : Ev (fun n => law26_DelayTotal n (x0.1, x0.2.1, x0.2.2.1, x0.2.2.2.1, x0.2.2.2.2, x1)) true := by
  obtain ⟨V, S, a1, a2, C⟩ := x0
  obtain ⟨q, t, N⟩ := x1
  unfold law26_DelayTotal letJ
  simp only [show inB 0 3 = true from rfl, show inB 1 3 = true from rfl, show inB 2 3 = true from rfl, cond_true]
  have main : (N ≤ 6000 ∨ 1048576 < N) → Ev (fun n => (delay_Total n (V, S, a1, a2, C, q, t, N)).bind fun y3 => (ref26_Total n (V, S, a1, a2, C, q, t, N)).bind fun y4 =>
      bif y3.1 == y4.1 then bif y3.2 == y4.2 then (law26_awake n ()).bind fun y5 => some y5 else some false else some false) true := by
    intro hn
    refine Ev.bind (total_ V S C q t N (a1, a2) hn) ?_
    refine Ev.bind (rtotal26_ V S C q t N (a1, a2) hn) ?_
    simp only [beq_self_eq_true, cond_true]
    exact Ev.bind awake26_ (Ev.ret _)
  by_cases h1 : 3000 < N
  · simp only [h1, decide_true, cond_true]
    by_cases h2 : N ≤ 1048576
    · simp only [h2, decide_true, cond_true]; exact Ev.ret _
    · simp only [h2, decide_false, cond_false]; exact main (by omega)
  · simp only [h1, decide_false, cond_false]
    exact main (by omega)
end Go.Proofs.YtiildimlelphhaaGreatDoor.Fn
