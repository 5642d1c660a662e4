/- Webster's first term: the program's and the document's formula come to the same. -/
import Derived.Test.YtiildimlelphhaaGreatDoorForm
namespace Go.Proofs.YtiildimlelphhaaGreatDoor.Fn
set_option linter.unusedVariables false
open Go Go.RowKit Go.Den Go.Circ

theorem sgnN (a c : Nat) : (!(decide ((a : Int) < 0) == decide ((c : Int) < 0))) = false := by rw [nneg, nneg]; rfl
theorem fmulN (A B C D : Nat) (hA : A < 9223372036854775808) (hB : B < 9223372036854775808) (hC : C < 9223372036854775808) (hD : D < 9223372036854775808) (h1 : rgt (A : Int) (B : Int) = true) (h2 : rgt (C : Int) (D : Int) = true) :
    Ev (fun n => frac_Mul n ((A : Int), (B : Int), (C : Int), (D : Int))) (redF false (A * C) (B * D)) := by
  have h := fmul_ A B C D (i64n hA) (i64n hB) (i64n hC) (i64n hD) h1 h2
  rw [sgnN] at h; exact h
theorem rmulN (A B C D : Nat) (hA : A < 9223372036854775808) (hB : B < 9223372036854775808) (hC : C < 9223372036854775808) (hD : D < 9223372036854775808) (h1 : rgt (A : Int) (B : Int) = true) (h2 : rgt (C : Int) (D : Int) = true) :
    Ev (fun n => ref02_Mul n ((A : Int), (B : Int), (C : Int), (D : Int))) (redF false (A * C) (B * D)) := by
  have h := rmul_ A B C D (i64n hA) (i64n hB) (i64n hC) (i64n hD) h1 h2
  rw [sgnN] at h; exact h
theorem fdivN (A B C D : Nat) (hA : A < 9223372036854775808) (hB : B < 9223372036854775808) (hC : C < 9223372036854775808) (hD : D < 9223372036854775808) (h1 : rgt (A : Int) (B : Int) = true) (h2 : rgt (C : Int) (D : Int) = true) (h0 : 0 < C) :
    Ev (fun n => frac_Div n ((A : Int), (B : Int), (C : Int), (D : Int))) (redF false (A * D) (B * C)) := by
  have h := fdiv_ A B C D (i64n hA) (i64n hB) (i64n hC) (i64n hD) h1 h2
  rw [sgnN, if_neg (by omega)] at h; exact h
theorem rdivN (A B C D : Nat) (hA : A < 9223372036854775808) (hB : B < 9223372036854775808) (hC : C < 9223372036854775808) (hD : D < 9223372036854775808) (h1 : rgt (A : Int) (B : Int) = true) (h2 : rgt (C : Int) (D : Int) = true) (h0 : 0 < C) :
    Ev (fun n => ref02_Div n ((A : Int), (B : Int), (C : Int), (D : Int))) (redF false (A * D) (B * C)) := by
  have h := rdiv_ A B C D (i64n hA) (i64n hB) (i64n hC) (i64n hD) h1 h2
  rw [sgnN, if_neg (by omega)] at h; exact h
theorem rsubN (A D : Nat) (hA : A < 9223372036854775808) (hD : D < 9223372036854775808) (h1 : rgt (A : Int) (D : Int) = true) (hle : A ≤ D) :
    Ev (fun n => ref02_Sub n (1, 1, (A : Int), (D : Int))) (redF false (D - A) D) := by
  have h := rsub_ A D (i64n hA) (i64n hD) h1 (by omega) (by omega)
  rw [show ((D : Int) - (A : Int)).natAbs = D - A by omega, Int.natAbs_natCast] at h; exact h
theorem ofF_nat (N D : Nat) (h : 0 < D) : ofF (N : Int) (D : Int) = redF false N D := by
  unfold ofF
  rw [if_neg (by omega), sgnN, Int.natAbs_natCast, Int.natAbs_natCast]
theorem fofN (N D : Nat) (hN : N < 9223372036854775808) (hD : D < 9223372036854775808) (h : 0 < D) : Ev (fun n => frac_Of n ((N : Int), (D : Int))) (redF false N D) := by
  have h2 := fof_ N D (i64n hN) (i64n hD)
  rw [ofF_nat _ _ h] at h2; exact h2
theorem rofN (N D : Nat) (hN : N < 9223372036854775808) (hD : D < 9223372036854775808) (h : 0 < D) : Ev (fun n => ref02_Of n ((N : Int), (D : Int))) (redF false N D) := by
  have h2 := rof_ N D (i64n hN) (i64n hD)
  rw [ofF_nat _ _ h] at h2; exact h2
theorem rgt_n1 (C : Nat) : rgt (C : Int) 1 = true := by
  unfold rgt
  rw [decide_eq_true (show (1 : Int) ≤ 1 by omega), show (1 : Int).natAbs = 1 from rfl, Nat.gcd_one_right]; rfl
theorem wsubN {C G : Nat} (h : G ≤ C) (hC : C < 9223372036854775808) : wrap64 ((C : Int) - (G : Int)) = ((C - G : Nat) : Int) := by
  rw [wrap64_id (by omega) (by omega)]; omega
/-- What the formula's answer is, when there is one. -/
def FormOk (C G A D : Nat) (X : Int × Int × Int) : Prop := ∃ P Q : Nat, X = ((P : Int), (Q : Int), 0) ∧ P < 9223372036854775808 ∧ 0 < Q ∧ Q < 9223372036854775808 ∧ rgt (P : Int) (Q : Int) = true ∧
  P * (C * (2 * (D - A))) = Q * ((C - G) * (C - G) * D)
theorem chain_ {C E F D p4 q4 k4 p5 q5 k5 p6 q6 k6 p7 q7 k7 p8 q8 k8 P Q k9 : Nat} (e1 : E = p4 * k4) (e2 : C = q4 * k4) (f1 : p4 * p4 = p5 * k5) (f2 : q4 * q4 = q5 * k5) (g1 : p5 * C = p6 * k6) (g2 : q5 * 1 = q6 * k6)
    (h1 : F = p7 * k7) (h2 : D = q7 * k7) (i1 : p7 * 2 = p8 * k8) (i2 : q7 * 1 = q8 * k8) (j1 : p6 * q8 = P * k9) (j2 : q6 * p8 = Q * k9) (z5 : 0 < k5) (z6 : 0 < k6) (z8 : 0 < k8) (z9 : 0 < k9) :
    P * (C * (2 * F)) = Q * (E * E * D) := by
  have key : P * (C * (2 * F)) * (k9 * (k8 * (k6 * k5))) = Q * (E * E * D) * (k9 * (k8 * (k6 * k5))) := by
    have l : P * (C * (2 * F)) * (k9 * (k8 * (k6 * k5))) = (p4 * p4) * (C * C) * q7 * (2 * p7) * k7 := by
      calc P * (C * (2 * F)) * (k9 * (k8 * (k6 * k5))) = (P * k9) * (C * 2 * F * (k8 * (k6 * k5))) := by ac_rfl
        _ = (p6 * k6) * (q8 * k8) * (C * 2 * F * k5) := by rw [← j1]; ac_rfl
        _ = (p5 * C) * (q7 * 1) * (C * 2 * (p7 * k7) * k5) := by rw [← g1, ← i2, h1]
        _ = (p5 * k5) * (C * C) * q7 * (2 * p7) * k7 := by rw [Nat.mul_one]; ac_rfl
        _ = _ := by rw [← f1]
    have r : Q * (E * E * D) * (k9 * (k8 * (k6 * k5))) = (q4 * q4) * (E * E) * q7 * (2 * p7) * k7 := by
      calc Q * (E * E * D) * (k9 * (k8 * (k6 * k5))) = (Q * k9) * (E * E * D * (k8 * (k6 * k5))) := by ac_rfl
        _ = (q6 * k6) * (p8 * k8) * (E * E * D * k5) := by rw [← j2]; ac_rfl
        _ = (q5 * 1) * (p7 * 2) * (E * E * (q7 * k7) * k5) := by rw [← g2, ← i1, h2]
        _ = (q5 * k5) * (E * E) * q7 * (2 * p7) * k7 := by rw [Nat.mul_one]; ac_rfl
        _ = _ := by rw [← f2]
    rw [l, r, e1, e2]
    ac_rfl
  exact Nat.eq_of_mul_eq_mul_right (Nat.mul_pos z9 (Nat.mul_pos z8 (Nat.mul_pos z6 z5))) key
theorem sq36 {p : Nat} (h : p ≤ 6000) : p * p ≤ 36000000 := Nat.mul_le_mul h h
theorem cub {p C : Nat} (h : p ≤ 36000000) (h2 : C ≤ 6000) : p * C ≤ 216000000000 := Nat.mul_le_mul h h2
theorem main_ (C G A D : Nat) (hC1 : 1 ≤ C) (hC : C ≤ 6000) (hG : G ≤ C) (hAD : A < D) (hD : D < 9223372036854775808) (hr : rgt (A : Int) (D : Int) = true) : ∃ X : Int × Int × Int,
    Ev (fun n => (frac_Of n (wrap64 ((C : Int) - (G : Int)), (C : Int))).bind fun y4 =>
    (frac_Mul n (y4.1, y4.2.1, y4.1, y4.2.1)).bind fun y5 =>
    (frac_Mul n (y5.1, y5.2.1, (C : Int), 1)).bind fun y6 =>
    (frac_Of n (wrap64 ((D : Int) - (A : Int)), (D : Int))).bind fun y7 =>
    bif !(y7.2.2 == 0) then
      some (0, 0, y7.2.2)
    else
    (frac_Mul n (y7.1, y7.2.1, 2, 1)).bind fun y8 =>
    bif !(y8.2.2 == 0) then
      some (0, 0, y8.2.2)
    else
    (frac_Div n (y6.1, y6.2.1, y8.1, y8.2.1)).bind fun y9 =>
    some y9) X ∧
    Ev (fun n => (ref02_Of n ((G : Int), (C : Int))).bind fun y5 =>
    (ref02_Sub n (1, 1, y5.1, y5.2.1)).bind fun y6 =>
    (ref02_Mul n (y6.1, y6.2.1, y6.1, y6.2.1)).bind fun y7 =>
    (ref02_Mul n (y7.1, y7.2.1, (C : Int), 1)).bind fun y8 =>
    (ref02_Sub n (1, 1, (A : Int), (D : Int))).bind fun y9 =>
    bif !(y9.2.2 == 0) then
      some (0, 0, y9.2.2)
    else
    (ref02_Mul n (2, 1, y9.1, y9.2.1)).bind fun y10 =>
    bif !(y10.2.2 == 0) then
      some (0, 0, y10.2.2)
    else
    (ref02_Div n (y8.1, y8.2.1, y10.1, y10.2.1)).bind fun y11 =>
    some y11) X ∧ (X.2.2 = 0 → FormOk C G A D X) := by
  obtain ⟨p4, q4, k4, r4, a4, b4, c4, g4, z4, m4, n4, x4, y4⟩ := redF_ok (N := C - G) (D := C) (by omega) (by omega) (by omega)
  obtain ⟨p5, q5, k5, r5, a5, b5, c5, g5, z5, m5, n5, x5, y5⟩ := redF_ok (N := p4 * p4) (D := q4 * q4) (Nat.mul_pos b4 b4) (Nat.lt_of_le_of_lt (sq36 (by omega)) (by omega)) (Nat.lt_of_le_of_lt (sq36 (by omega)) (by omega))
  have w5 : p5 ≤ 36000000 := Nat.le_trans x5 (sq36 (by omega))
  have v5 : q5 ≤ 36000000 := Nat.le_trans y5 (sq36 (by omega))
  obtain ⟨p6, q6, k6, r6, a6, b6, c6, g6, z6, m6, n6, x6, y6⟩ := redF_ok (N := p5 * C) (D := q5 * 1) (by omega) (Nat.lt_of_le_of_lt (cub w5 hC) (by omega)) (by omega)
  obtain ⟨p7, q7, k7, r7, a7, b7, c7, g7, z7, m7, n7, x7, y7⟩ := redF_ok (N := D - A) (D := D) (by omega) (by omega) (by omega)
  have p70 : 0 < p7 := by
    apply Nat.pos_of_ne_zero
    rintro rfl
    rw [Nat.zero_mul] at m7
    omega
  -- the document's way to 1 - green/c
  obtain ⟨p, q, k, r, a, b, cc, gg, z, m, nn, x, y⟩ := redF_ok (N := G) (D := C) (by omega) (by omega) (by omega)
  have hpq : p ≤ q := by
    rw [m, nn] at hG
    exact Nat.le_of_mul_le_mul_right hG z
  have rsame : redF false (q - p) q = ((p4 : Int), (q4 : Int), 0) := by
    rw [← redF_scale false k (q - p) q z, Nat.mul_sub, Nat.mul_comm k q, Nat.mul_comm k p, ← m, ← nn]
    exact r4
  have dd : ∀ n, (fun n => wrap64 ((C : Int) - (G : Int))) n = ((C - G : Nat) : Int) := fun n => wsubN hG (by omega)
  have e0 : (!((0 : Int) == 0)) = false := rfl
  have e2 : (!((2 : Int) == 0)) = true := rfl
  have two : ((2 : Nat) : Int) = 2 := rfl
  have one : ((1 : Nat) : Int) = 1 := rfl
  have s1 := fofN (C - G) C (by omega) (by omega) (by omega)
  have s2 := fmulN p4 q4 p4 q4 a4 c4 a4 c4 g4 g4
  have s3 := fmulN p5 q5 C 1 a5 c5 (by omega) (by omega) g5 (rgt_n1 C)
  have s4 := fofN (D - A) D (by omega) hD (by omega)
  have s5 := fmulN p7 q7 2 1 a7 c7 (by omega) (by omega) g7 (rgt_n1 2)
  have t1 := rofN G C (by omega) (by omega) (by omega)
  have t2 := rsubN p q a cc gg hpq
  have t3 := rmulN p4 q4 p4 q4 a4 c4 a4 c4 g4 g4
  have t4 := rmulN p5 q5 C 1 a5 c5 (by omega) (by omega) g5 (rgt_n1 C)
  have t5 := rsubN A D (by omega) hD hr (by omega)
  have t6 := rmulN 2 1 p7 q7 (by omega) (by omega) a7 c7 (rgt_n1 2) g7
  rw [r4] at s1
  rw [r5] at s2 t3
  rw [r6, one] at s3 t4
  rw [r7] at s4 t5
  rw [r] at t1
  rw [rsame] at t2
  rw [two, one] at s5 t6
  rw [Nat.mul_comm 2 p7, Nat.mul_comm 1 q7] at t6
  rw [wsubN hG (by omega), wsubN (show A ≤ D by omega) hD]
  rcases redF_cases (p7 * 2) (q7 * 1) (by omega) with ⟨r8, _⟩ | ⟨p8, q8, k8, r8, a8, b8, c8, g8, z8, m8, n8, x8, y8⟩
  · rw [r8] at s5 t6
    refine ⟨(0, 0, 2), ?_, ?_, fun h => absurd h (by decide)⟩
    · refine Ev.bind s1 (Ev.bind s2 (Ev.bind s3 (Ev.bind s4 ?_)))
      simp only [e0, cF]
      refine Ev.bind s5 ?_
      simp only [e2, cT]
      exact Ev.ret _
    · refine Ev.bind t1 (Ev.bind t2 (Ev.bind t3 (Ev.bind t4 (Ev.bind t5 ?_))))
      simp only [e0, cF]
      refine Ev.bind t6 ?_
      simp only [e2, cT]
      exact Ev.ret _
  · rw [r8] at s5 t6
    have p80 : 0 < p8 := by
      apply Nat.pos_of_ne_zero
      rintro rfl
      rw [Nat.zero_mul] at m8
      omega
    have s6 := fdivN p6 q6 p8 q8 a6 c6 a8 c8 g6 g8 p80
    have t7 := rdivN p6 q6 p8 q8 a6 c6 a8 c8 g6 g8 p80
    refine ⟨redF false (p6 * q8) (q6 * p8), ?_, ?_, fun h => ?_⟩
    · refine Ev.bind s1 (Ev.bind s2 (Ev.bind s3 (Ev.bind s4 ?_)))
      simp only [e0, cF]
      refine Ev.bind s5 ?_
      simp only [e0, cF]
      exact Ev.bind s6 (Ev.ret _)
    · refine Ev.bind t1 (Ev.bind t2 (Ev.bind t3 (Ev.bind t4 (Ev.bind t5 ?_))))
      simp only [e0, cF]
      refine Ev.bind t6 ?_
      simp only [e0, cF]
      exact Ev.bind t7 (Ev.ret _)
    · rcases redF_cases (p6 * q8) (q6 * p8) (Nat.mul_pos b6 p80) with ⟨r9, _⟩ | ⟨p9, q9, k9, r9, a9, b9, c9, g9, z9, m9, n9, x9, y9⟩
      · rw [r9] at h; exact absurd h (by decide)
      · exact ⟨p9, q9, r9, a9, b9, c9, g9, chain_ m4 n4 m5 n5 m6 n6 m7 n7 m8 n8 m9 n9 z5 z6 z8 z9⟩
end Go.Proofs.YtiildimlelphhaaGreatDoor.Fn
