/- Webster's first term: the program's and the document's formula come to the same. -/
import Derived.Test.YtiildimlelphhaaGreatDoorWGcd
namespace Go.Proofs.YtiildimlelphhaaGreatDoor.Fn
set_option linter.unusedVariables false
open Go Go.RowKit Go.Den Go.Circ

theorem redF_cases (N D : Nat) (hD : 0 < D) : (redF false N D = (0, 0, 2) ∧ ¬ (N < 9223372036854775808 ∧ D < 9223372036854775808)) ∨
    ∃ p q k : Nat, redF false N D = ((p : Int), (q : Int), 0) ∧ p < 9223372036854775808 ∧ 0 < q ∧ q < 9223372036854775808 ∧ rgt (p : Int) (q : Int) = true ∧ 0 < k ∧ N = p * k ∧ D = q * k ∧ p ≤ N ∧ q ≤ D := by
  have hg : 0 < Nat.gcd N D := Nat.gcd_pos_of_pos_right _ hD
  obtain ⟨p, q, hc, hp, hq⟩ := Nat.exists_coprime N D
  have e1 : N / Nat.gcd N D = p := by
    have := Nat.mul_div_cancel p hg
    rw [← hp] at this; exact this
  have e2 : D / Nat.gcd N D = q := by
    have := Nat.mul_div_cancel q hg
    rw [← hq] at this; exact this
  have l1 : p ≤ N := by rw [← e1]; exact Nat.div_le_self _ _
  have l2 : q ≤ D := by rw [← e2]; exact Nat.div_le_self _ _
  have q0 : 0 < q := by
    apply Nat.pos_of_ne_zero
    rintro rfl
    rw [Nat.zero_mul] at hq; omega
  unfold redF
  rw [e1, e2]
  simp only [Bool.false_eq_true, if_false]
  by_cases h : p < 9223372036854775808 ∧ q < 9223372036854775808
  · rw [if_pos h]
    refine .inr ⟨p, q, Nat.gcd N D, rfl, h.1, q0, h.2, ?_, hg, hp, hq, l1, l2⟩
    unfold rgt
    rw [decide_eq_true (show (1 : Int) ≤ (q : Int) by omega), Int.natAbs_natCast, Int.natAbs_natCast, Bool.true_and, beq_iff_eq]
    exact hc
  · rw [if_neg h]
    exact .inl ⟨rfl, fun h2 => h ⟨by omega, by omega⟩⟩
theorem redF_ok {N D : Nat} (hD : 0 < D) (hN : N < 9223372036854775808) (hD2 : D < 9223372036854775808) :
    ∃ p q k : Nat, redF false N D = ((p : Int), (q : Int), 0) ∧ p < 9223372036854775808 ∧ 0 < q ∧ q < 9223372036854775808 ∧ rgt (p : Int) (q : Int) = true ∧ 0 < k ∧ N = p * k ∧ D = q * k ∧ p ≤ N ∧ q ≤ D := by
  rcases redF_cases N D hD with h | h
  · exact absurd ⟨hN, hD2⟩ h.2
  · exact h
theorem redF_scale (s : Bool) (k N D : Nat) (hk : 0 < k) : redF s (k * N) (k * D) = redF s N D := by
  unfold redF
  rw [Nat.gcd_mul_left, Nat.mul_div_mul_left _ _ hk, Nat.mul_div_mul_left _ _ hk]
theorem i64n {p : Nat} (h : p < 9223372036854775808) : I64 (p : Int) := ⟨by omega, by omega⟩
theorem nneg (p : Nat) : decide ((p : Int) < 0) = false := decide_eq_false (by omega)
/-! ### Order of products -/
/- cond_true and cond_false are lemmas by rfl: simp leaves it to the kernel to see them, and the kernel then may unfold a decision about great numbers. So these: -/
theorem cT {α : Type} (a b : α) : cond true a b = a := Eq.trans (cond_true a b) (Eq.refl a)
theorem cF {α : Type} (a b : α) : cond false a b = b := Eq.trans (cond_false a b) (Eq.refl b)
theorem cmp_sg  : ∀ (n : Nat) (x y : Nat), 0 < y → ref01_sign n ((x : Int), (y : Int)) = some (if x = 0 then 0 else 1) := by
  intro n x y hy
  unfold ref01_sign
  have ey : ((y : Int) == 0) = false := by rw [beq_eq_false_iff_ne]; omega
  by_cases hx : x = 0
  · subst hx; simp only [letJ, show (((0 : Nat) : Int) == 0) = true from rfl, cond_true, if_true]
  · have ex : ((x : Int) == 0) = false := by rw [beq_eq_false_iff_ne]; omega
    simp only [letJ, ex, ey, cond_false, nneg, if_neg hx]; rfl
theorem cmp_sz  : ∀ n (x : Nat), x < 9223372036854775808 → ref01_Size n (x : Int) = some (x : Int) := fun n x hx => by rw [rsize_ n _ (i64n hx), Int.natAbs_natCast]
theorem cmp_big (A B C D : Nat) (hA : A < 9223372036854775808) (hB : B < 9223372036854775808) (hC : C < 9223372036854775808) (hD : D < 9223372036854775808) : ∀ y : Int, Ev (fun n => (ref01_Size n (A : Int)).bind fun y9 =>
    (ref01_Size n (B : Int)).bind fun y10 =>
    (ref01_Times n (y9, y10)).bind fun y11 =>
    (ref01_Size n (C : Int)).bind fun y12 =>
    (ref01_Size n (D : Int)).bind fun y13 =>
    (ref01_Times n (y12, y13)).bind fun y14 =>
    (ref01_Order n (y11, y14)).bind fun y15 =>
    some (wrap64 (y * y15))) (wrap64 (y * ordF (A * B) (C * D))) := by
  intro y
  obtain ⟨u, ⟨u1, u2, u3⟩, u4⟩ := times_ A B (by omega) (by omega)
  obtain ⟨v, ⟨v1, v2, v3⟩, v4⟩ := times_ C D (by omega) (by omega)
  have ord := order_ u v u1 v1 (by omega) (by omega)
  rw [u2, v2] at ord
  exact Ev.bindS (fun n => cmp_sz n A hA) (Ev.bindS (fun n => cmp_sz n B hB) (Ev.bind u4 (Ev.bindS (fun n => cmp_sz n C hC) (Ev.bindS (fun n => cmp_sz n D hD) (Ev.bind v4 (Ev.bind ord (Ev.ret _)))))))
theorem cmp_sml (A B C D : Nat) : A < 2147483648 → B < 2147483648 → C < 2147483648 → D < 2147483648 →
    (bif decide (wrap64 ((A : Int) * (B : Int)) < wrap64 ((C : Int) * (D : Int))) then some (-1) else bif decide (wrap64 ((C : Int) * (D : Int)) < wrap64 ((A : Int) * (B : Int))) then some 1 else some 0) = some (ordF (A * B) (C * D)) := by
  intro a1 a2 a3 a4
  have m1 := Nat.mul_le_mul (show A ≤ 2147483647 by omega) (show B ≤ 2147483647 by omega)
  have m2 := Nat.mul_le_mul (show C ≤ 2147483647 by omega) (show D ≤ 2147483647 by omega)
  rw [← Int.natCast_mul, ← Int.natCast_mul]
  generalize A * B = X at m1 ⊢
  generalize C * D = Y at m2 ⊢
  rw [wrap64_id (n := (X : Int)) (by omega) (by omega), wrap64_id (n := (Y : Int)) (by omega) (by omega)]
  unfold ordF
  by_cases h : X < Y
  · rw [if_pos h, decide_eq_true (show (X : Int) < (Y : Int) by omega)]; rfl
  · rw [if_neg h, decide_eq_false (show ¬ (X : Int) < (Y : Int) by omega)]
    by_cases h2 : Y < X
    · rw [if_pos h2, decide_eq_true (show (Y : Int) < (X : Int) by omega)]; rfl
    · rw [if_neg h2, decide_eq_false (show ¬ (Y : Int) < (X : Int) by omega)]; rfl
theorem l31  : ∀ x : Nat, decide ((x : Int) < 2147483648) = decide (x < 2147483648) := fun x => decide_eq_decide.2 (by omega)
theorem few4 (K : Bool → Option Int) (sA sB sC sD : Option Int) (A B C D : Nat) (eA : sA = some (A : Int)) (eB : sB = some (B : Int)) (eC : sC = some (C : Int)) (eD : sD = some (D : Int)) :
    (sA.bind fun y3 => bif decide (y3 < 2147483648) then sB.bind fun y4 => bif decide (y4 < 2147483648) then sC.bind fun y5 => bif decide (y5 < 2147483648) then sD.bind fun y6 => K (decide (y6 < 2147483648)) else K false else K false else K false) =
    K (decide (A < 2147483648 ∧ B < 2147483648 ∧ C < 2147483648 ∧ D < 2147483648)) := by
  rw [eA, Option.bind_some, l31]
  by_cases h1 : A < 2147483648
  · rw [decide_eq_true h1, cT, eB, Option.bind_some, l31]
    by_cases h2 : B < 2147483648
    · rw [decide_eq_true h2, cT, eC, Option.bind_some, l31]
      by_cases h3 : C < 2147483648
      · rw [decide_eq_true h3, cT, eD, Option.bind_some, l31]
        by_cases h4 : D < 2147483648
        · rw [decide_eq_true h4, decide_eq_true (show A < 2147483648 ∧ B < 2147483648 ∧ C < 2147483648 ∧ D < 2147483648 from ⟨h1, h2, h3, h4⟩)]
        · rw [decide_eq_false h4, decide_eq_false (show ¬ (A < 2147483648 ∧ B < 2147483648 ∧ C < 2147483648 ∧ D < 2147483648) from fun h => h4 h.2.2.2)]
      · rw [decide_eq_false h3, cF, decide_eq_false (show ¬ (A < 2147483648 ∧ B < 2147483648 ∧ C < 2147483648 ∧ D < 2147483648) from fun h => h3 h.2.2.1)]
    · rw [decide_eq_false h2, cF, decide_eq_false (show ¬ (A < 2147483648 ∧ B < 2147483648 ∧ C < 2147483648 ∧ D < 2147483648) from fun h => h2 h.2.1)]
  · rw [decide_eq_false h1, cF, decide_eq_false (show ¬ (A < 2147483648 ∧ B < 2147483648 ∧ C < 2147483648 ∧ D < 2147483648) from fun h => h1 h.1)]
def cmpK (n : Nat) (A B C D y : Int) (b : Bool) : Option Int :=
  bif b then
    bif decide (wrap64 (A * B) < wrap64 (C * D)) then
      some (-1)
    else
    bif decide (wrap64 (C * D) < wrap64 (A * B)) then
      some 1
    else
    some 0
  else
    (ref01_Size n A).bind fun y9 =>
    (ref01_Size n B).bind fun y10 =>
    (ref01_Times n (y9, y10)).bind fun y11 =>
    (ref01_Size n C).bind fun y12 =>
    (ref01_Size n D).bind fun y13 =>
    (ref01_Times n (y12, y13)).bind fun y14 =>
    (ref01_Order n (y11, y14)).bind fun y15 =>
    some (wrap64 (y * y15))
theorem cmpK_true (n : Nat) (A B C D y : Int) : cmpK n A B C D y true = bif decide (wrap64 (A * B) < wrap64 (C * D)) then some (-1) else bif decide (wrap64 (C * D) < wrap64 (A * B)) then some 1 else some 0 := by unfold cmpK; rw [cT]
theorem cmpK_false (n : Nat) (A B C D y : Int) : cmpK n A B C D y false = (ref01_Size n A).bind fun y9 =>
    (ref01_Size n B).bind fun y10 =>
    (ref01_Times n (y9, y10)).bind fun y11 =>
    (ref01_Size n C).bind fun y12 =>
    (ref01_Size n D).bind fun y13 =>
    (ref01_Times n (y12, y13)).bind fun y14 =>
    (ref01_Order n (y11, y14)).bind fun y15 =>
    some (wrap64 (y * y15)) := by unfold cmpK; rw [cF]
theorem cmp_both (A B C D : Nat) (hA : A < 9223372036854775808) (hB : B < 9223372036854775808) (hC : C < 9223372036854775808) (hD : D < 9223372036854775808) (y : Int) (hy : wrap64 (y * ordF (A * B) (C * D)) = ordF (A * B) (C * D)) :
    Ev (fun n => (ref01_Size n (A : Int)).bind fun y3 => bif decide (y3 < 2147483648) then (ref01_Size n (B : Int)).bind fun y4 => bif decide (y4 < 2147483648) then (ref01_Size n (C : Int)).bind fun y5 => bif decide (y5 < 2147483648) then (ref01_Size n (D : Int)).bind fun y6 => cmpK n A B C D y (decide (y6 < 2147483648)) else cmpK n A B C D y false else cmpK n A B C D y false else cmpK n A B C D y false) (ordF (A * B) (C * D)) := by
  have e := fun n => few4 (cmpK n A B C D y) _ _ _ _ A B C D (cmp_sz n A hA) (cmp_sz n B hB) (cmp_sz n C hC) (cmp_sz n D hD)
  rw [funext e]
  have bg := cmp_big A B C D hA hB hC hD y
  rw [hy] at bg
  by_cases h : A < 2147483648 ∧ B < 2147483648 ∧ C < 2147483648 ∧ D < 2147483648
  · rw [decide_eq_true h]
    exact Ev.const fun n => (cmpK_true n A B C D y).trans (cmp_sml A B C D h.1 h.2.1 h.2.2.1 h.2.2.2)
  · rw [decide_eq_false h, show (fun n => cmpK n A B C D y false) = _ from funext fun n => cmpK_false n A B C D y]
    exact bg
theorem cmp_txt (n : Nat) (A B C D : Int) : ref01_Compare n (A, B, C, D) = (ref01_sign n (A, B)).bind fun y1 => (ref01_sign n (C, D)).bind fun y2 => bif decide (y1 < y2) then some (-1) else bif decide (y2 < y1) then some 1 else
    (ref01_Size n A).bind fun y3 => bif decide (y3 < 2147483648) then (ref01_Size n B).bind fun y4 => bif decide (y4 < 2147483648) then (ref01_Size n C).bind fun y5 => bif decide (y5 < 2147483648) then (ref01_Size n D).bind fun y6 => cmpK n A B C D y1 (decide (y6 < 2147483648)) else cmpK n A B C D y1 false else cmpK n A B C D y1 false else cmpK n A B C D y1 false := by
  kernel_rfl
theorem rcompare_ (A B C D : Nat) (hA : A < 9223372036854775808) (hB : B < 9223372036854775808) (hC : C < 9223372036854775808) (hD : D < 9223372036854775808) (h1 : 0 < B) (h2 : 0 < D) :
    Ev (fun n => ref01_Compare n ((A : Int), (B : Int), (C : Int), (D : Int))) (ordF (A * B) (C * D)) := by
  rw [show (fun n => ref01_Compare n ((A : Int), (B : Int), (C : Int), (D : Int))) = _ from funext fun n => cmp_txt n A B C D]
  refine Ev.bindS (fun n => cmp_sg n A B h1) (Ev.bindS (fun n => cmp_sg n C D h2) ?_)
  by_cases hz : A = 0
  · by_cases hz2 : C = 0
    · rw [if_pos hz, if_pos hz2]
      simp only [show decide ((0 : Int) < 0) = false from rfl, cF]
      refine cmp_both A B C D hA hB hC hD 0 ?_
      rw [hz, hz2, Nat.zero_mul, Nat.zero_mul, Int.zero_mul, wrap64_id (by omega) (by omega)]; unfold ordF; rw [if_neg (Nat.lt_irrefl 0), if_neg (Nat.lt_irrefl 0)]
    · rw [if_pos hz, if_neg hz2, hz, Nat.zero_mul]
      have e : ordF 0 (C * D) = -1 := by unfold ordF; rw [if_pos (Nat.mul_pos (by omega) h2)]
      rw [e]
      simp only [show decide ((0 : Int) < 1) = true from rfl, cT]
      exact Ev.ret _
  · by_cases hz2 : C = 0
    · rw [if_neg hz, if_pos hz2, hz2, Nat.zero_mul]
      have hp : 0 < A * B := Nat.mul_pos (by omega) h1
      have e : ordF (A * B) 0 = 1 := by unfold ordF; rw [if_neg (Nat.not_lt_zero _), if_pos hp]
      rw [e]
      simp only [show decide ((0 : Int) < 1) = true from rfl, show decide ((1 : Int) < 0) = false from rfl, cT, cF]
      exact Ev.ret _
    · rw [if_neg hz, if_neg hz2]
      simp only [show decide ((1 : Int) < 1) = false from rfl, cF]
      refine cmp_both A B C D hA hB hC hD 1 ?_
      unfold ordF
      rw [Int.one_mul]
      by_cases h : A * B < C * D
      · rw [if_pos h]; exact wrap64_id (by omega) (by omega)
      · rw [if_neg h]
        by_cases h2 : C * D < A * B
        · rw [if_pos h2]; exact wrap64_id (by omega) (by omega)
        · rw [if_neg h2]; exact wrap64_id (by omega) (by omega)
theorem rcmp_ (A B C D : Nat) (hA : A < 9223372036854775808) (hB : B < 9223372036854775808) (hC : C < 9223372036854775808) (hD : D < 9223372036854775808)
    (h1 : rgt (A : Int) (B : Int) = true) (h2 : rgt (C : Int) (D : Int) = true) : Ev (fun n => ref02_Cmp n ((A : Int), (B : Int), (C : Int), (D : Int))) (ordF (A * D) (C * B)) := by
  have p1 := rgt_pos h1
  have p2 := rgt_pos h2
  unfold ref02_Cmp
  refine Ev.bind (rnorm_ _ _ (i64n hA) (i64n hB) h1) (Ev.bind (rnorm_ _ _ (i64n hC) (i64n hD) h2) ?_)
  exact Ev.bind (rcompare_ A D C B hA hD hC hB (by omega) (by omega)) (Ev.ret _)
end Go.Proofs.YtiildimlelphhaaGreatDoor.Fn
