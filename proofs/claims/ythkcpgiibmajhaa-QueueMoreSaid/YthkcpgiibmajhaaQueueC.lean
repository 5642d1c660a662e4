/- The queue of chapter 25 in plain Lean: both sides' answers, and the law QueueAfter. -/
import Derived.Test.YthkcpgiibmajhaaQueueB
namespace Go.Proofs.Ythkcpgiibmajhaa.Fn
open Go Go.RowKit Go.Den

section
variable {V S A L C : Int}
def RightF (V S C : Int) : Prop := (1 ≤ C ∧ C ≤ 6000) ∧ (0 ≤ V ∧ V ≤ 1000000000) ∧ (0 ≤ S ∧ S ≤ 1000000000)
instance : Decidable (RightF V S C) := by unfold RightF; infer_instance
theorem right14 (n : Nat) : f14 n (V, S, A, L, C) = some (decide (RightF V S C)) := by
  unfold f14 RightF
  simp only [letJ, f24]
  by_cases h1 : 1 ≤ C <;> by_cases h2 : C ≤ 6000 <;> by_cases h3 : 0 ≤ V <;> by_cases h4 : V ≤ 1000000000 <;> by_cases h5 : 0 ≤ S <;> simp [h1, h2, h3, h4, h5]
theorem right26 (n : Nat) : f26 n (V, S, A, L, C) = some (decide (RightF V S C)) := by
  unfold f26 RightF
  simp only [letJ, cyc28]
  by_cases h1 : 1 ≤ C <;> by_cases h2 : C ≤ 6000 <;> by_cases h3 : 0 ≤ V <;> by_cases h4 : V ≤ 1000000000 <;> by_cases h5 : 0 ≤ S <;> simp [h1, h2, h3, h4, h5]
/-- What may be asked. -/
def Asks (q t k : Int) : Prop := (0 ≤ q ∧ q ≤ 1152921504606846976) ∧ (0 ≤ t ∧ t ≤ 1099511627776) ∧ (0 ≤ k ∧ k ≤ 1073741824)
instance (q t k : Int) : Decidable (Asks q t k) := by unfold Asks; infer_instance
theorem may18 (n : Nat) (q t k : Int) : f18 n ((V, S, A, L, C), q, t, k) = some (decide (RightF V S C ∧ Asks q t k)) := by
  unfold f18 Asks
  simp only [letJ, right26, Option.bind_some]
  by_cases h0 : RightF V S C <;> by_cases h1 : 0 ≤ q <;> by_cases h2 : q ≤ 1152921504606846976 <;> by_cases h3 : 0 ≤ t <;> by_cases h4 : t ≤ 1099511627776 <;> by_cases h5 : 0 ≤ k <;> simp [h0, h1, h2, h3, h4, h5]
theorem asked_no (n : Nat) (q t k : Int) (h : ¬ (RightF V S C ∧ Asks q t k)) : f16 n ((V, S, A, L, C), q, t, k) = some ((0, 0, 0, 0), false) := by
  unfold Asks at h
  unfold f16
  simp only [letJ, right14, Option.bind_some]
  by_cases h0 : RightF V S C <;> by_cases h1 : q < 0 <;> by_cases h2 : 1152921504606846976 < q <;> by_cases h3 : t < 0 <;> by_cases h4 : 1099511627776 < t <;> by_cases h5 : k < 0 <;> by_cases h6 : 1073741824 < k <;> simp [h0, h1, h2, h3, h4, h5, h6]
  exact absurd ⟨h0, by omega⟩ h
theorem asked_yes {q t : Int} {k : Nat} (hR : RightF V S C) (hA : Asks q t k) : ∃ c, Ev (fun n => f16 n ((V, S, A, L, C), q, t, (k : Int))) (c, true) ∧ Eff V S c k (gr C A L) t := by
  obtain ⟨⟨c1, c2⟩, ⟨v1, v2⟩, s1, s2⟩ := id hR
  obtain ⟨⟨q1, q2⟩, ⟨t1, t2⟩, k1, k2⟩ := hA
  obtain ⟨c, hc1, hc2⟩ := eff_all (A := A) (L := L) v1 v2 s1 s2 c1 c2 t1 (k := k) (by omega)
  refine ⟨c, ?_, hc2⟩
  have h1 : decide (q < 0) = false := by simp; omega
  have h2 : decide (1152921504606846976 < q) = false := by simp; omega
  have h3 : decide (t < 0) = false := by simp; omega
  have h4 : decide (1099511627776 < t) = false := by simp; omega
  have h5 : decide ((k : Int) < 0) = false := by simp
  have h6 : decide (1073741824 < (k : Int)) = false := by simp; omega
  refine Ev.congr (F := fun n => (f23 n ((V, S, A, L, C), t, (k : Int))).bind fun y4 => some (y4, true)) (Ev.bind hc1 (Ev.ret _)) fun n => ?_
  unfold f16
  simp only [letJ, right14, Option.bind_some, hR, decide_true, Bool.not_true, cond_false, h1, h2, h3, h4, h5, h6]
theorem after7 {q t : Int} {k : Nat} (hR : RightF V S C) (hA : Asks q t k) : Ev (fun n => f7 n ((V, S, A, L, C), q, t, (k : Int))) (rn V S (gr C A L) k t q, 0) := by
  obtain ⟨c, h1, h2⟩ := asked_yes (A := A) (L := L) hR hA
  obtain ⟨⟨q1, q2⟩, _, k1, k2⟩ := hA
  refine Ev.bind h1 ?_
  simp only [Bool.not_true, cond_false, f17, Option.bind_some, mx_eq]
  obtain ⟨b1, b2, _, _, _, _, _, _, b9, _⟩ := h2
  rw [wrap64_id (by omega) (by omega), b9 q q1]
  exact Ev.ret _
theorem after7_no (n : Nat) {q t k : Int} (h : ¬ (RightF V S C ∧ Asks q t k)) : f7 n ((V, S, A, L, C), q, t, k) = some (0, 1) := by
  unfold f7; simp [asked_no n q t k h]
theorem peak9 {q t : Int} {k : Nat} (hR : RightF V S C) (hA : Asks q t k) : Ev (fun n => f9 n ((V, S, A, L, C), q, t, (k : Int))) (pk V S (gr C A L) k t q, 0) := by
  obtain ⟨c, h1, h2⟩ := asked_yes (A := A) (L := L) hR hA
  obtain ⟨⟨q1, q2⟩, _, k1, k2⟩ := hA
  refine Ev.bind h1 ?_
  simp only [Bool.not_true, cond_false, f20, Option.bind_some, mx_eq]
  obtain ⟨_, _, _, _, b1, b2, _, _, _, b9⟩ := h2
  rw [wrap64_id (by omega) (by omega), b9 q q1]
  exact Ev.ret _
theorem peak9_no (n : Nat) {q t k : Int} (h : ¬ (RightF V S C ∧ Asks q t k)) : f9 n ((V, S, A, L, C), q, t, k) = some (0, 1) := by
  unfold f9; simp [asked_no n q t k h]
/-! ### The document's answer -/
theorem tick19 (n : Nat) (hR : RightF V S C) {q t : Int} (h1 : 0 ≤ q) (h2 : q ≤ 4611686018427387904) : f19 n ((V, S, A, L, C), q, t) = some (stp V S (gr C A L t) q) := by
  obtain ⟨⟨c1, c2⟩, ⟨v1, v2⟩, s1, s2⟩ := hR
  unfold f19
  simp only [in27 _ _ _ _ _ c1 c2, Option.bind_some, wrap64_id (n := q + V) (by omega) (by omega), mx_eq]
  unfold stp
  cases gr C A L t with
  | true => simp only [cond_true, if_true]; rw [wrap64_id (by omega) (by omega)]
  | false => simp
theorem refAfter8 {q t : Int} {k : Nat} (hR : RightF V S C) (hA : Asks q t k) : Ev (fun n => f8 n ((V, S, A, L, C), q, t, (k : Int))) (rn V S (gr C A L) k t q, 0) := by
  have hR' := hR
  have hA' := hA
  obtain ⟨⟨q1, q2⟩, ⟨t1, t2⟩, k1, k2⟩ := hA
  obtain ⟨_, ⟨v1, v2⟩, s1, s2⟩ := hR
  unfold f8
  simp only [may18, Option.bind_some, hR', hA', and_self, decide_true, Bool.not_true, cond_false]
  refine Ev.bind (Ev.of_eq (Ev.iter
    (fun x : Int × Int × Int × Int × Int × Int × Int × Int × Int => x.2.1 = t ∧ x.2.2.1 = k ∧ 0 ≤ x.2.2.2.1 ∧ x.2.2.2.1 ≤ k ∧ x.2.2.2.2 = (V, S, A, L, C) ∧ 0 ≤ x.1 ∧ x.1 ≤ q + x.2.2.2.1 * V)
    (fun x => (k - x.2.2.2.1).toNat) (fun x => rn V S (gr C A L) (k - x.2.2.2.1).toNat (t + x.2.2.2.1) x.1) ?_ _ ?_) (w := rn V S (gr C A L) k t q) (by simp)) (Ev.ret _)
  · rintro ⟨y, t', k', i, F⟩ ⟨rfl, rfl, i1, i2, rfl, y1, y2⟩
    simp only at *
    have hiV : i * V ≤ 1073741824 * 1000000000 := by
      have h1 := Int.mul_le_mul_of_nonneg_right (c := V) (show i ≤ 1073741824 by omega) v1
      have h2 := Int.mul_le_mul_of_nonneg_left (c := 1073741824) v2 (by omega)
      omega
    by_cases h0 : i < k
    · left
      have w1 : wrap64 (t' + i) = t' + i := wrap64_id (by omega) (by omega)
      have w2 : wrap64 (i + 1) = i + 1 := wrap64_id (by omega) (by omega)
      have hst := stp_le v1 s1 y1 (gr C A L (t' + i))
      refine ⟨(stp V S (gr C A L (t' + i)) y, t', (k : Int), i + 1, (V, S, A, L, C)), Ev.const fun n => ?_, ⟨rfl, rfl, by simp only; omega, by simp only; omega, rfl, stp_nonneg v1 y1 _, ?_⟩, by simp only; omega, ?_⟩
      · simp only [h0, decide_true, cond_true, w1, w2, tick19 n hR' (q := y) (t := t' + i) y1 (by omega), Option.bind_some]
      · simp only; rw [Int.add_mul]; omega
      · simp only
        have e : ((k : Int) - i).toNat = ((k : Int) - (i + 1)).toNat + 1 := by omega
        rw [e]
        simp only [rn]
        rw [Int.add_assoc]
    · right
      refine ⟨y, Ev.const fun n => by simp [h0], ?_⟩
      have e : ((k : Int) - i).toNat = 0 := by omega
      rw [e]; rfl
  · exact ⟨rfl, rfl, Int.le_refl _, by simp, rfl, q1, by simp⟩
theorem refPeak10 {q t : Int} {k : Nat} (hR : RightF V S C) (hA : Asks q t k) : Ev (fun n => f10 n ((V, S, A, L, C), q, t, (k : Int))) (pk V S (gr C A L) k t q, 0) := by
  have hR' := hR
  have hA' := hA
  obtain ⟨⟨q1, q2⟩, ⟨t1, t2⟩, k1, k2⟩ := hA
  obtain ⟨_, ⟨v1, v2⟩, s1, s2⟩ := hR
  unfold f10
  simp only [may18, Option.bind_some, hR', hA', and_self, decide_true, Bool.not_true, cond_false]
  refine Ev.bind (Ev.of_eq (Ev.iter
    (fun x : Int × Int × Int × Int × Int × Int × Int × Int × Int × Int => x.2.1 = t ∧ x.2.2.1 = k ∧ 0 ≤ x.2.2.2.2.1 ∧ x.2.2.2.2.1 ≤ k ∧ x.2.2.2.2.2 = (V, S, A, L, C) ∧ 0 ≤ x.1 ∧ x.1 ≤ q + x.2.2.2.2.1 * V ∧ x.1 ≤ x.2.2.2.1)
    (fun x => (k - x.2.2.2.2.1).toNat) (fun x => max x.2.2.2.1 (pk V S (gr C A L) (k - x.2.2.2.2.1).toNat (t + x.2.2.2.2.1) x.1)) ?_ _ ?_) (w := pk V S (gr C A L) k t q) ?_) (Ev.ret _)
  · rintro ⟨y, t', k', b, i, F⟩ ⟨rfl, rfl, i1, i2, rfl, y1, y2, y3⟩
    simp only at *
    have hiV : i * V ≤ 1073741824 * 1000000000 := by
      have h1 := Int.mul_le_mul_of_nonneg_right (c := V) (show i ≤ 1073741824 by omega) v1
      have h2 := Int.mul_le_mul_of_nonneg_left (c := 1073741824) v2 (by omega)
      omega
    by_cases h0 : i < k
    · left
      have w1 : wrap64 (t' + i) = t' + i := wrap64_id (by omega) (by omega)
      have w2 : wrap64 (i + 1) = i + 1 := wrap64_id (by omega) (by omega)
      have hst := stp_le v1 s1 y1 (gr C A L (t' + i))
      refine ⟨(stp V S (gr C A L (t' + i)) y, t', (k : Int), max b (stp V S (gr C A L (t' + i)) y), i + 1, (V, S, A, L, C)), Ev.const fun n => ?_, ⟨rfl, rfl, by simp only; omega, by simp only; omega, rfl, stp_nonneg v1 y1 _, ?_, by simp only; omega⟩, by simp only; omega, ?_⟩
      · simp only [h0, decide_true, cond_true, w1, w2, tick19 n hR' (q := y) (t := t' + i) y1 (by omega), Option.bind_some, mx_eq]
      · simp only; rw [Int.add_mul]; omega
      · simp only
        have e : ((k : Int) - i).toNat = ((k : Int) - (i + 1)).toNat + 1 := by omega
        rw [e]
        simp only [pk]
        rw [Int.add_assoc]
        have := pk_ge (V := V) (S := S) (G := gr C A L) ((k : Int) - (i + 1)).toNat (t' + (i + 1)) (stp V S (gr C A L (t' + i)) y)
        omega
    · right
      refine ⟨b, Ev.const fun n => by simp [h0], ?_⟩
      have e : ((k : Int) - i).toNat = 0 := by omega
      rw [e]; simp only [pk]; omega
  · exact ⟨rfl, rfl, Int.le_refl _, by simp, rfl, q1, by simp, Int.le_refl _⟩
  · have := pk_ge (V := V) (S := S) (G := gr C A L) k t q
    simp; omega
theorem refAfter8_no (n : Nat) {q t k : Int} (h : ¬ (RightF V S C ∧ Asks q t k)) : f8 n ((V, S, A, L, C), q, t, k) = some (0, 1) := by
  unfold f8; simp [may18, h]
theorem refPeak10_no (n : Nat) {q t k : Int} (h : ¬ (RightF V S C ∧ Asks q t k)) : f10 n ((V, S, A, L, C), q, t, k) = some (0, 1) := by
  unfold f10; simp [may18, h]
/-- Chapter 25's example. -/
theorem awake11 : Ev (fun n => f11 n ()) true := by
  have a1 := after7 (V := 600) (S := 1800) (A := 0) (L := 10) (C := 40) (q := 0) (t := 10) (k := 30) (by decide) (by decide)
  have a2 := after7 (V := 600) (S := 1800) (A := 0) (L := 10) (C := 40) (q := 18000) (t := 40) (k := 10) (by decide) (by decide)
  have a3 := peak9 (V := 600) (S := 1800) (A := 0) (L := 10) (C := 40) (q := 0) (t := 10) (k := 40) (by decide) (by decide)
  have e1 : rn 600 1800 (gr 40 0 10) 30 10 0 = 18000 := by decide +kernel
  have e2 : rn 600 1800 (gr 40 0 10) 10 40 18000 = 6000 := by decide +kernel
  have e3 : pk 600 1800 (gr 40 0 10) 40 10 0 = 18000 := by decide +kernel
  rw [e1] at a1
  rw [e2] at a2
  rw [e3] at a3
  unfold f11
  refine Ev.bind a1 (Ev.bind a2 (Ev.bind a3 (Ev.const fun n => ?_)))
  kernel_rfl
/-- The law QueueAfter, in plain Lean. -/
theorem queueAfter (q t k : Int) : Ev (fun n => f3 n ((V, S, A, L, C), q, t, k)) true := by
  have main : (k ≤ 3000 ∨ 1073741824 < k) → Ev (fun n =>
      (f7 n ((V, S, A, L, C), q, t, k)).bind fun y3 =>
      (f8 n ((V, S, A, L, C), q, t, k)).bind fun y4 =>
      (f9 n ((V, S, A, L, C), q, t, k)).bind fun y5 =>
      (f10 n ((V, S, A, L, C), q, t, k)).bind fun y6 =>
      letJ (fun (x8 : Bool) => some x8) fun J9 =>
      bif y3.1 == y4.1 then
        bif y3.2 == y4.2 then
          bif y5.1 == y6.1 then
            bif y5.2 == y6.2 then
              (f11 n ()).bind fun y7 => J9 y7
            else J9 false
          else J9 false
        else J9 false
      else J9 false) true := by
    intro _
    by_cases h : RightF V S C ∧ Asks q t k
    · obtain ⟨kn, rfl⟩ := Int.eq_ofNat_of_zero_le h.2.2.2.1
      refine Ev.bind (after7 h.1 h.2) (Ev.bind (refAfter8 h.1 h.2) (Ev.bind (peak9 h.1 h.2) (Ev.bind (refPeak10 h.1 h.2) ?_)))
      simp only [letJ, beq_self_eq_true, cond_true]
      exact Ev.bind awake11 (Ev.ret _)
    · refine Ev.bind (a := (0, 1)) (Ev.const fun n => after7_no n h) (Ev.bind (a := (0, 1)) (Ev.const fun n => refAfter8_no n h) (Ev.bind (a := (0, 1)) (Ev.const fun n => peak9_no n h) (Ev.bind (a := (0, 1)) (Ev.const fun n => refPeak10_no n h) ?_)))
      simp only [letJ, beq_self_eq_true, cond_true]
      exact Ev.bind awake11 (Ev.ret _)
  have hb : inB 0 3 = true ∧ inB 1 3 = true ∧ inB 2 3 = true := by decide
  by_cases h1 : 3000 < k
  · by_cases h2 : k ≤ 1073741824
    · exact Ev.const fun n => by simp [f3, letJ, hb.1, hb.2.1, hb.2.2, h1, h2]
    · exact (main (.inr (by omega))).congr fun n => by simp [f3, letJ, hb.1, hb.2.1, hb.2.2, h1, h2]
  · exact (main (.inl (by omega))).congr fun n => by simp [f3, letJ, hb.1, hb.2.1, hb.2.2, h1]
end
theorem queueAfterPure (x0 : PD.Ty Θ.T (.agg [.int .i64, .int .i64, .int .i64, .int .i64, .int .i64])) (x1 : PD.Ty Θ.T (.agg [.int .i64, .int .i64, .int .i64])) (_ : WfA Θ _ x0) (_ : WfA Θ _ x1) : Ev (fun n => f3 n (x0, x1)) true :=
  queueAfter x1.1 x1.2.1 x1.2.2
end Go.Proofs.Ythkcpgiibmajhaa.Fn
