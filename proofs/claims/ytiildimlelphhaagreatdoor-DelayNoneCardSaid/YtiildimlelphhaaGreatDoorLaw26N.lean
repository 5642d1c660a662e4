/- Chapter 26's statement that who has green always does not wait. -/
import Derived.Test.YtiildimlelphhaaGreatDoorGreen
namespace Go.Proofs.YtiildimlelphhaaGreatDoor.Fn
set_option linter.unusedVariables false
open Go Go.RowKit Go.Den Go.Circ

theorem form_zero {C A D P Q : Nat} (hC : 1 ≤ C) (hAD : A < D) (h : P * (C * (2 * (D - A))) = Q * ((C - C) * (C - C) * D)) : P = 0 := by
  simp only [Nat.sub_self, Nat.zero_mul, Nat.mul_zero] at h
  rcases Nat.mul_eq_zero.1 h with h | h
  · exact h
  · have := Nat.mul_pos (show 0 < C by omega) (show 0 < 2 * (D - A) by omega)
    rw [h] at this; exact absurd this (Nat.lt_irrefl 0)
theorem form_mono {C G H A D P Q P' Q' : Nat} (hC : 1 ≤ C) (hAD : A < D) (hG : H ≤ G) (h : P * (C * (2 * (D - A))) = Q * ((C - G) * (C - G) * D)) (h' : P' * (C * (2 * (D - A))) = Q' * ((C - H) * (C - H) * D)) : P * Q' ≤ P' * Q := by
  have hK : 0 < C * (2 * (D - A)) := Nat.mul_pos (by omega) (by omega)
  generalize C * (2 * (D - A)) = K at h h' hK
  have hsq : (C - G) * (C - G) * D ≤ (C - H) * (C - H) * D := Nat.mul_le_mul_right D (Nat.mul_le_mul (by omega) (by omega))
  generalize (C - G) * (C - G) * D = X at h hsq
  generalize (C - H) * (C - H) * D = Y at h' hsq
  apply Nat.le_of_mul_le_mul_right (c := K) _ hK
  have e1 : P * Q' * K = Q * Q' * X := by
    rw [Nat.mul_right_comm, h]; ac_rfl
  have e2 : P' * Q * K = Q * Q' * Y := by
    rw [Nat.mul_right_comm, h']; ac_rfl
  rw [e1, e2]
  exact Nat.mul_le_mul_left _ hsq
theorem ordF_lt {x y : Nat} (h : y ≤ x) : decide (ordF x y < 0) = false := by
  unfold ordF
  apply decide_eq_false
  rw [if_neg (by omega)]
  by_cases h2 : y < x
  · rw [if_pos h2]; omega
  · rw [if_neg h2]; omega
theorem awkN : Ev (fun n => (law26_awake n ()).bind fun y => some y) true := Ev.bind awake26_ (Ev.ret _)
theorem delayNone_pure (x0 x1 : Int) (x2 : Int × Int) (w0 : WfA Θ (.one (.int .i64)) x0) (w1 : WfA Θ (.one (.int .i64)) x1) (w2 : WfA Θ (.agg [.int .i64, .int .i64]) x2) : Ev (fun n => law26_DelayNone n (x0, x1, x2)) true := by
  obtain ⟨a, d⟩ := x2
  have ha : I64 a := i64_of (w2 _ (List.mem_cons_self ..))
  have hd : I64 d := i64_of (w2 _ (List.mem_cons_of_mem _ (List.mem_cons_self ..)))
  obtain ⟨X, h1, _, h3⟩ := formula_ x0 x1 a d ha hd
  unfold law26_DelayNone letJ
  refine Ev.bind h1 ?_
  by_cases hx : ¬ X.2.2 = 0
  · have e : (!(X.2.2 == 0)) = true := by rw [Bool.not_eq_true', beq_eq_false_iff_ne]; exact hx
    simp only [e, cT]
    exact awkN
  replace hx := Decidable.not_not.1 hx
  have e : (!(X.2.2 == 0)) = false := by rw [hx]; rfl
  obtain ⟨C, G, A, D, rfl, rfl, rfl, rfl, c1, c2, g1, ad, P, Q, rfl, p1, q0, q1, hr, key⟩ := h3 hx
  simp only [e, cF]
  -- the mean
  obtain ⟨q, hm⟩ := meanFull (100 + min (G : Int) 1000) (C : Int) (by omega) (by omega) (by omega) (by omega)
  have hS : wrap64 (100 + mx 0 (mn (G : Int) 1000)) = 100 + min (G : Int) 1000 := by
    rw [mx_eq, mn_eq, wrap64_id (by omega) (by omega)]; omega
  have fin : Ev (fun n => (delay_Mean n (100, wrap64 (100 + mx 0 (mn (G : Int) 1000)), 0, (C : Int), (C : Int))).bind fun y11 =>
        bif y11.2.2 == 0 then
          bif y11.1 == 0 then
            (law26_awake n ()).bind fun y12 =>
            some y12
          else
          some false
        else
        some false) true := by
    rw [hS]
    refine Ev.bind hm ?_
    simp only [beq_self_eq_true, cT]
    exact awkN
  -- what is left, when the first two say no
  have rest : Ev (fun n => bif decide ((0 : Int) < (G : Int)) then
        (delay_Formula n ((C : Int), wrap64 ((G : Int) - 1), (A : Int), (D : Int))).bind fun y5 =>
        bif y5.2.2 == 0 then
          (ref02_Cmp n (y5.1, y5.2.1, (P : Int), (Q : Int))).bind fun y6 =>
          bif decide (y6 < 0) then
            some false
          else
          (delay_Mean n (100, wrap64 (100 + mx 0 (mn (G : Int) 1000)), 0, (C : Int), (C : Int))).bind fun y11 =>
        bif y11.2.2 == 0 then
          bif y11.1 == 0 then
            (law26_awake n ()).bind fun y12 =>
            some y12
          else
          some false
        else
        some false
        else
          (delay_Mean n (100, wrap64 (100 + mx 0 (mn (G : Int) 1000)), 0, (C : Int), (C : Int))).bind fun y11 =>
        bif y11.2.2 == 0 then
          bif y11.1 == 0 then
            (law26_awake n ()).bind fun y12 =>
            some y12
          else
          some false
        else
        some false
      else
          (delay_Mean n (100, wrap64 (100 + mx 0 (mn (G : Int) 1000)), 0, (C : Int), (C : Int))).bind fun y11 =>
        bif y11.2.2 == 0 then
          bif y11.1 == 0 then
            (law26_awake n ()).bind fun y12 =>
            some y12
          else
          some false
        else
        some false) true := by
    by_cases hg : 0 < G
    · have w : wrap64 ((G : Int) - 1) = ((G - 1 : Nat) : Int) := by rw [wrap64_id (by omega) (by omega)]; omega
      simp only [decide_eq_true (show (0 : Int) < (G : Int) by omega), cT, w]
      obtain ⟨Y, k1, _, k3⟩ := formula_ (C : Int) ((G - 1 : Nat) : Int) (A : Int) (D : Int) ha hd
      refine Ev.bind k1 ?_
      by_cases hy : ¬ Y.2.2 = 0
      · have e2 : (Y.2.2 == 0) = false := by rw [beq_eq_false_iff_ne]; exact hy
        simp only [e2, cF]
        exact fin
      replace hy := Decidable.not_not.1 hy
      have e2 : (Y.2.2 == 0) = true := by rw [hy]; rfl
      obtain ⟨C', H, A', D', i1, i2, i3, i4, _, _, _, _, P', Q', rfl, p1', q0', q1', hr', key'⟩ := k3 hy
      obtain rfl : C = C' := by clear w hS; omega
      obtain rfl : A = A' := by clear w hS; omega
      obtain rfl : D = D' := by clear w hS; omega
      have hHG : H ≤ G := by clear w hS; omega
      have hle := form_mono c1 ad hHG key key'
      simp only [e2, cT]
      refine Ev.bind (rcmp_ P' Q' P Q p1' q1' p1 q1 hr' hr) ?_
      simp only [ordF_lt hle, cF]
      exact fin
    · simp only [decide_eq_false (show ¬ (0 : Int) < (G : Int) by omega), cF]
      exact fin
  by_cases hgc : G = C
  · subst hgc
    have hP := form_zero c1 ad key
    subst hP
    simp only [beq_self_eq_true, cT, show (!(((0 : Nat) : Int) == 0)) = false from rfl, cF]
    exact rest
  · have e3 : ((G : Int) == (C : Int)) = false := by rw [beq_eq_false_iff_ne]; omega
    simp only [e3, cF]
    exact rest
end Go.Proofs.YtiildimlelphhaaGreatDoor.Fn
