/- Chapter 26's examples: reckoned. -/
import Derived.Test.YtiildimlelphhaaGreatDoorDelayTot
import Derived.KernelRfl
namespace Go.Proofs.YtiildimlelphhaaGreatDoor.Fn
set_option linter.unusedVariables false
set_option maxRecDepth 100000
open Go Go.RowKit Go.Den Go.Circ

theorem ev_at {A : Type} {F : Nat → Option A} {v : A} (K : Nat) (h : ∀ n, F (n + K) = some v) : Ev F v := ⟨K, fun n hn => by
  obtain ⟨m, rfl⟩ : ∃ m, n = m + K := ⟨n - K, by omega⟩
  exact h m⟩
theorem awForm (n : Nat) : delay_Formula (n + 150) (40, 20, 1, 2) = some (10, 1, 0) := by kernel_rfl
theorem awSteady (n : Nat) : queue_Steady (n + 150) (600, 1800, 0, 10, 20) = some (6000, true) := by kernel_rfl
theorem awOf (n : Nat) : frac_Of (n + 150) (45000, 12000) = some (15, 4, 0) := by kernel_rfl
theorem awTot : tot26 600 1800 20 (0, 10) 0 10 10 = (33000, 0) := by kernel_rfl
theorem awTot2 : tot26 600 1800 20 (0, 10) 6000 0 20 = (45000, 0) := by kernel_rfl
theorem awMean : Ev (fun n => delay_Mean n (600, 1800, 0, 10, 20)) (15, 4, 0) := by
  unfold delay_Mean letJ
  refine Ev.bindS (fun n => qright_ n 600 1800 20 (0, 10)) ?_
  have e1 : rightB 600 1800 20 = true := by decide
  simp only [e1, Bool.not_true, cond_false]
  refine Ev.bind (ev_at 150 awSteady) ?_
  simp only [Bool.not_true, cond_false]
  have e2 : ((600 : Int) == 0) = false := rfl
  simp only [e2, cond_false]
  have h := total_ 600 1800 20 6000 0 20 (0, 10) (.inl (by decide))
  rw [awTot2] at h
  refine Ev.bind h ?_
  have e3 : wrap64 ((600 : Int) * 20) = 12000 := by kernel_rfl
  simp only [e3]
  exact Ev.bind (ev_at 150 awOf) (Ev.ret _)
theorem awake26_ : Ev (fun n => law26_awake n ()) true := by
  unfold law26_awake letJ
  have h := total_ 600 1800 20 0 10 10 (0, 10) (.inl (by decide))
  rw [awTot] at h
  refine Ev.bind h ?_
  refine Ev.bind (ev_at 150 awForm) ?_
  refine Ev.bind awMean ?_
  exact Ev.ret _
end Go.Proofs.YtiildimlelphhaaGreatDoor.Fn
