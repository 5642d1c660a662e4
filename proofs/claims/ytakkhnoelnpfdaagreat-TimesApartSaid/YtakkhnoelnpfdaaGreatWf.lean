/- What a law's arguments are: rows that can be counted. -/
import Derived.Test.YtakkhnoelnpfdaaGreatValidB
namespace Go.Proofs.YtakkhnoelnpfdaaGreat.Fn
open Go Go.RowKit Go.Den Go.Circ
set_option linter.unusedVariables false
theorem wf_len {e : TypeId} {l : List (Θ.T e)} (h : WfP Θ (.sl e l)) : l.length ≤ 9223372036854775807 ∧ ∀ y ∈ l, ∀ p ∈ Θ.enc e y, WfP Θ p := by
  cases h with
  | sl _ _ h hl => exact ⟨h, hl⟩
theorem nodeSh_of {y : NodeT} (h : ∀ p ∈ Θ.enc 28 y, WfP Θ p) : Sh y.2.1 ∧ ∀ q ∈ y.2.2.2.1, Sh q.2.1 := by
  have h1 : WfP Θ (.sl 72 y.2.1) := h _ (.tail _ (.head _))
  have h2 : WfP Θ (.sl 111 y.2.2.2.1) := h _ (.tail _ (.tail _ (.tail _ (.head _))))
  refine ⟨(wf_len h1).1, fun q hq => ?_⟩
  have h3 : WfP Θ (.sl 9 q.2.1) := (wf_len h2).2 q hq _ (.tail _ (.head _))
  exact (wf_len h3).1
theorem netSh_of {x : NetT} (h : WfA Θ (.agg [.int .i64, .int .i64, .int .i64, .int .i64, .int .i64, .sl 28, .sl 121, .int .i64, .int .i64]) x) : NetSh x := by
  have h1 : WfP Θ (.sl 28 x.2.2.2.2.2.1) := h _ (.tail _ (.tail _ (.tail _ (.tail _ (.tail _ (.head _))))))
  exact ⟨fun y hy => (nodeSh_of ((wf_len h1).2 y hy)).1, fun y hy => (nodeSh_of ((wf_len h1).2 y hy)).2⟩
end Go.Proofs.YtakkhnoelnpfdaaGreat.Fn
