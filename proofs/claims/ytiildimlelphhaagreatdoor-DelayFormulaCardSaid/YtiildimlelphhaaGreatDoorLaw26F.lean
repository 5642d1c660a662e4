/- Chapter 26's statement of the formula. -/
import Derived.Test.YtiildimlelphhaaGreatDoorFormC
import Derived.Test.YtiildimlelphhaaGreatDoorAwake26
namespace Go.Proofs.YtiildimlelphhaaGreatDoor.Fn
set_option linter.unusedVariables false
open Go Go.RowKit Go.Den Go.Circ

theorem delayFormula_pure (x0 x1 : Int) (x2 : Int × Int) (w0 : WfA Θ (.one (.int .i64)) x0) (w1 : WfA Θ (.one (.int .i64)) x1) (w2 : WfA Θ (.agg [.int .i64, .int .i64]) x2) : Ev (fun n => law26_DelayFormula n (x0, x1, x2)) true := by
  obtain ⟨a, d⟩ := x2
  have ha : I64 a := i64_of (w2 _ (List.mem_cons_self ..))
  have hd : I64 d := i64_of (w2 _ (List.mem_cons_of_mem _ (List.mem_cons_self ..)))
  obtain ⟨X, h1, h2, _⟩ := formula_ x0 x1 a d ha hd
  unfold law26_DelayFormula
  refine Ev.bind h1 (Ev.bind h2 ?_)
  simp only [beq_self_eq_true, Bool.and_self, cond_true]
  exact Ev.bind awake26_ (Ev.ret _)
end Go.Proofs.YtiildimlelphhaaGreatDoor.Fn
