/- Chapter 7's laws, of networks: the checks agree, and so do the places of names. -/
import Derived.Test.YtbcejiobmeglgaaChecksG
namespace Go.Proofs.Ytbcejiobmeglgaa.Fn
open Go Go.RowKit Go.Den
set_option linter.unusedVariables false
theorem awake07_ : Ev (fun n => law07_awake n ()) true := Ev.const fun n => law07_awake_eq n ()
theorem small_sh {x : NetT} (h : ∀ y ∈ x.2.2.2.2.2.1, SmallN y) : NetSh x :=
  ⟨fun y hy => by have := (h y hy).heads; simp only [Sh]; omega, fun y hy p hp => by have := (h y hy).phase p hp; simp only [Sh]; omega⟩
end Go.Proofs.Ytbcejiobmeglgaa.Fn
