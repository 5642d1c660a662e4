/- Chapter 28's statements. -/
import Derived.Test.YtoafplpdjmiolaaChart
namespace Go.Proofs.Ytoafplpdjmiolaa.Fn
open Go Go.RowKit Go.Den Go.Circ
set_option linter.unusedVariables false
theorem chartRowPure (x0 : Int × Int) (x1 : Int × Int × Int × Int) (x2 : Int × Int) : Ev (fun n => law28_ChartRow n (x0.1, x0.2, x1.1, x1.2.1, x1.2.2.1, x1.2.2.2, x2)) true := by
  obtain ⟨c, s⟩ := x0
  obtain ⟨a1, a2, b1, b2⟩ := x1
  obtain ⟨w1, w2⟩ := x2
  unfold law28_ChartRow letJ
  simp only [show inB 0 2 = true from rfl, show inB 1 2 = true from rfl, cond_true]
  have main : Ev (fun n => (chart_Row n (c, a1, a2, b1, b2, s)).bind fun y3 => (ref28_Row n (c, a1, a2, b1, b2, s)).bind fun y4 =>
      bif strEq y3 y4 then (chart_Band n (c, w1, w2, s)).bind fun y5 => (ref28_Band n (c, w1, w2, s)).bind fun y6 =>
        bif strEq y5 y6 then (law28_awake n ()).bind fun y7 => some y7 else some false else some false) true := by
    refine Ev.bind (row_ c s (a1, a2) (b1, b2)) (Ev.bind (rrow_ c s (a1, a2) (b1, b2)) ?_)
    refine Ev.yes (by rw [strEq_eq, decide_eq_true rfl]) ?_
    refine Ev.bind (band_ c s (w1, w2)) (Ev.bind (rband_ c s (w1, w2)) ?_)
    refine Ev.yes (by rw [strEq_eq, decide_eq_true rfl]) ?_
    exact Ev.bind awake28 (Ev.ret _)
  by_cases h1 : 500 < c
  · simp only [h1, decide_true, cond_true]
    by_cases h2 : c ≤ 6000
    · simp only [h2, decide_true, cond_true]; exact Ev.ret _
    · simp only [h2, decide_false, cond_false]; exact main
  · simp only [h1, decide_false, cond_false]; exact main
/-- The counts of a row with a sign for each tick. -/
theorem counts {c : Int} (h1 : 1 ≤ c) (h2 : c ≤ 6000) (a b : Int × Int) :
    (rowB c 1 (hasB c a) (hasB c b)).length = c.toNat ∧
    (rowB c 1 (hasB c a) (hasB c b)).count 35 + (rowB c 1 (hasB c a) (hasB c b)).count 62 = (normOf c a).2.toNat ∧
    (rowB c 1 (hasB c a) (hasB c b)).count 35 + (rowB c 1 (hasB c a) (hasB c b)).count 60 = (normOf c b).2.toNat ∧
    (rowB c 1 (hasB c a) (hasB c b)).count 46 + (normOf c a).2.toNat + (normOf c b).2.toNat = c.toNat + (rowB c 1 (hasB c a) (hasB c b)).count 35 := by
  have hn : nSig c 1 = c.toNat := by unfold nSig; rw [Int.ediv_one]; congr 1; omega
  have hc : ((c.toNat : Nat) : Int) = c := Int.toNat_of_nonneg (by omega)
  have na := norm_count (C := c.toNat) (by omega) (by omega) a
  have nb := norm_count (C := c.toNat) (by omega) (by omega) b
  rw [hc] at na nb
  have hp := count_split (fun j : Nat => hasB c a ((j : Int) * 1)) (fun j : Nat => hasB c b ((j : Int) * 1)) (List.range c.toNat)
  simp only [count_rowB, hn]
  have ea : ((List.range c.toNat).countP fun j : Nat => hasB c a ((j : Int) * 1)) = (normOf c a).2.toNat := by
    rw [← na]; refine List.countP_congr fun j _ => ?_; rw [Int.mul_one]; exact Iff.rfl
  have eb : ((List.range c.toNat).countP fun j : Nat => hasB c b ((j : Int) * 1)) = (normOf c b).2.toNat := by
    rw [← nb]; refine List.countP_congr fun j _ => ?_; rw [Int.mul_one]; exact Iff.rfl
  rw [ea, eb, List.length_range] at hp
  exact ⟨by simp [rowB, hn], hp.1, hp.2.1, hp.2.2⟩
theorem chartTicksPure (x0 : Int) (x1 x2 : Int × Int) : Ev (fun n => law28_ChartTicks n (x0, x1.1, x1.2, x2)) true := by
  unfold law28_ChartTicks letJ
  have main : Ev (fun n => (chart_Row n (x0, x1.1, x1.2, x2.1, x2.2, 1)).bind fun y3 => (ref03_Cycle n x0).bind fun y4 =>
      bif !y4 then (bif strEq y3 (ByteArray.mk #[]) then (law28_awake n ()).bind fun y5 => some y5 else some false)
      else (ref03_Norm n (x0, x1.1, x1.2)).bind fun y6 => (ref03_Norm n (x0, x2)).bind fun y7 => (chart_Count n (y3, 35)).bind fun y8 =>
        bif ((ByteArray.size y3 : Nat) : Int) == x0 then (chart_Count n (y3, 62)).bind fun y9 =>
          bif (wrap64 (y8 + y9)) == y6.2 then (chart_Count n (y3, 60)).bind fun y10 =>
            bif (wrap64 (y8 + y10)) == y7.2 then (chart_Count n (y3, 46)).bind fun y11 =>
              bif y11 == (wrap64 ((wrap64 ((wrap64 (x0 - y6.2)) - y7.2)) + y8)) then (law28_awake n ()).bind fun y12 => some y12 else some false
            else some false
          else some false
        else some false) true := by
    refine Ev.bind (row_ x0 1 x1 x2) (Ev.bindS (fun n => rcycle_ n x0) ?_)
    by_cases hc : 1 ≤ x0 ∧ x0 ≤ 6000
    · refine Ev.no (by rw [decide_eq_true hc]; rfl) ?_
      obtain ⟨h1, h2⟩ := hc
      unfold rowT
      rw [if_pos ⟨h1, h2, by omega, by omega⟩]
      obtain ⟨k0, k1, k2, k3⟩ := counts h1 h2 x1 x2
      have na := normOf_at h1 x1
      have nb := normOf_at h1 x2
      refine Ev.bind (rnorm_ x0 x1) (Ev.bind (rnorm_ x0 x2) (Ev.bindS (fun n => count_ n _ 35) ?_))
      generalize rowB x0 1 (hasB x0 x1) (hasB x0 x2) = R at *
      have z0 : (((⟨R.toArray⟩ : ByteArray).size : Nat) : Int) = x0 := by
        show ((R.toArray.size : Nat) : Int) = x0
        rw [List.size_toArray, k0]; omega
      refine Ev.yes (by rw [z0]; exact beq_self_eq_true _) ?_
      refine Ev.bindS (fun n => count_ n _ 62) ?_
      dsimp only
      rw [show UInt8.ofNat (Int.toNat 35) = 35 from rfl, show UInt8.ofNat (Int.toNat 62) = 62 from rfl]
      have l0 : R.count 35 ≤ R.length := List.count_le_length
      refine Ev.yes (by rw [wrap64_id (by omega) (by omega), beq_iff_eq]; omega) ?_
      refine Ev.bindS (fun n => count_ n _ 60) ?_
      dsimp only
      rw [show UInt8.ofNat (Int.toNat 60) = 60 from rfl]
      refine Ev.yes (by rw [wrap64_id (by omega) (by omega), beq_iff_eq]; omega) ?_
      refine Ev.bindS (fun n => count_ n _ 46) ?_
      dsimp only
      rw [show UInt8.ofNat (Int.toNat 46) = 46 from rfl]
      refine Ev.yes (by rw [wrap64_id (n := x0 - _) (by omega) (by omega), wrap64_id (n := x0 - _ - _) (by omega) (by omega), wrap64_id (by omega) (by omega), beq_iff_eq]; omega) ?_
      exact Ev.bind awake28 (Ev.ret _)
    · refine Ev.yes (by rw [decide_eq_false hc]; rfl) ?_
      unfold rowT
      rw [if_neg (fun e => hc ⟨e.1, e.2.1⟩)]
      exact Ev.yes (by rw [strEq_eq, decide_eq_true rfl]) (Ev.bind awake28 (Ev.ret _))
  by_cases h1 : 500 < x0
  · simp only [h1, decide_true, cond_true]
    by_cases h2 : x0 ≤ 6000
    · simp only [h2, decide_true, cond_true]; exact Ev.ret _
    · simp only [h2, decide_false, cond_false]; exact main
  · simp only [h1, decide_false, cond_false]; exact main
end Go.Proofs.Ytoafplpdjmiolaa.Fn
