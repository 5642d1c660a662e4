/- The queue of chapter 25 in plain Lean: the law QueueSplit. -/
import Derived.Test.YthkcpgiibmajhaaQueueC
namespace Go.Proofs.Ythkcpgiibmajhaa.Fn
open Go Go.RowKit Go.Den

section
variable {V S A L C : Int}
theorem queueSplit (q t k m : Int) : Ev (fun n => f4 n ((V, S, A, L, C), q, t, k, m)) true := by
  have hb : inB 0 4 = true ∧ inB 1 4 = true ∧ inB 2 4 = true ∧ inB 3 4 = true := by decide
  have wake : Ev (fun n => (f11 n ()).bind fun y3 => some y3) true := Ev.bind awake11 (Ev.ret _)
  by_cases g1 : k < 0
  · exact wake.congr fun n => by simp [f4, letJ, hb.1, hb.2.1, hb.2.2.1, hb.2.2.2, g1]
  by_cases g2 : m < 0
  · exact wake.congr fun n => by simp [f4, letJ, hb.1, hb.2.1, hb.2.2.1, hb.2.2.2, g1, g2]
  by_cases g3 : 536870912 < k
  · exact wake.congr fun n => by simp [f4, letJ, hb.1, hb.2.1, hb.2.2.1, hb.2.2.2, g1, g2, g3]
  by_cases g4 : 536870912 < m
  · exact wake.congr fun n => by simp [f4, letJ, hb.1, hb.2.1, hb.2.2.1, hb.2.2.2, g1, g2, g3, g4]
  by_cases g5 : t < 0
  · exact wake.congr fun n => by simp [f4, letJ, hb.1, hb.2.1, hb.2.2.1, hb.2.2.2, g1, g2, g3, g4, g5]
  by_cases g6 : 1073741824 < t
  · exact wake.congr fun n => by simp [f4, letJ, hb.1, hb.2.1, hb.2.2.1, hb.2.2.2, g1, g2, g3, g4, g5, g6]
  obtain ⟨kn, rfl⟩ := Int.eq_ofNat_of_zero_le (show 0 ≤ k by omega)
  obtain ⟨mn_, rfl⟩ := Int.eq_ofNat_of_zero_le (show 0 ≤ m by omega)
  unfold f4
  simp only [letJ, hb.1, hb.2.1, hb.2.2.1, hb.2.2.2, cond_true, g1, g2, g3, g4, g5, g6, decide_false, cond_false]
  by_cases h : RightF V S C ∧ Asks q t kn
  · obtain ⟨hR, hA⟩ := h
    obtain ⟨⟨q1, q2⟩, ⟨t1, t2⟩, k1, k2⟩ := id hA
    have w1 : wrap64 (t + kn) = t + kn := wrap64_id (by omega) (by omega)
    have w2 : wrap64 ((kn : Int) + mn_) = ((kn + mn_ : Nat) : Int) := by rw [wrap64_id (by omega) (by omega)]; omega
    refine Ev.bind (after7 hR hA) (Ev.bind (peak9 hR hA) ?_)
    simp only [beq_self_eq_true, Bool.not_true, cond_false]
    have ha0 := rn_nonneg (V := V) (S := S) (G := gr C A L) hR.2.1.1 kn t q q1
    generalize hra : rn V S (gr C A L) kn t q = a at *
    by_cases h5 : 1152921504606846976 < a
    · simp only [h5, decide_true, cond_true]; exact wake
    · simp only [h5, decide_false, cond_false, w1, w2]
      have hA2 : Asks a (t + kn) mn_ := ⟨⟨ha0, by omega⟩, ⟨by omega, by omega⟩, by omega, by omega⟩
      have hA3 : Asks q t ((kn + mn_ : Nat) : Int) := ⟨⟨q1, q2⟩, ⟨t1, t2⟩, by omega, by omega⟩
      refine Ev.bind (after7 hR hA2) (Ev.bind (peak9 hR hA2) (Ev.bind (after7 hR hA3) (Ev.bind (peak9 hR hA3) ?_)))
      have e1 : rn V S (gr C A L) mn_ (t + kn) a = rn V S (gr C A L) (kn + mn_) t q := by rw [rn_add, hra]
      have e2 : pk V S (gr C A L) (kn + mn_) t q = max (pk V S (gr C A L) kn t q) (pk V S (gr C A L) mn_ (t + kn) a) := by rw [pk_add, hra]
      have e3 := pk_ge (V := V) (S := S) (G := gr C A L) (kn + mn_) t q
      have e4 := rn_le_pk (V := V) (S := S) (G := gr C A L) (kn + mn_) t q
      have e5 : decide (mx q (rn V S (gr C A L) (kn + mn_) t q) ≤ pk V S (gr C A L) (kn + mn_) t q) = true := by rw [mx_eq]; simp; omega
      have e6 : (pk V S (gr C A L) (kn + mn_) t q == mx (pk V S (gr C A L) kn t q) (pk V S (gr C A L) mn_ (t + kn) a)) = true := by rw [mx_eq, ← e2]; simp
      have e7 : (rn V S (gr C A L) mn_ (t + kn) a == rn V S (gr C A L) (kn + mn_) t q) = true := by rw [e1]; simp
      simp only [beq_self_eq_true, cond_true, e5, e6, e7]
      exact wake
  · refine Ev.bind (a := (0, 1)) (Ev.const fun n => after7_no n h) (Ev.bind (a := (0, 1)) (Ev.const fun n => peak9_no n h) ?_)
    simpa using wake
end
theorem queueSplitPure (x0 : PD.Ty Θ.T (.agg [.int .i64, .int .i64, .int .i64, .int .i64, .int .i64])) (x1 : PD.Ty Θ.T (.agg [.int .i64, .int .i64, .int .i64, .int .i64])) (_ : WfA Θ _ x0) (_ : WfA Θ _ x1) : Ev (fun n => f4 n (x0, x1)) true :=
  queueSplit x1.1 x1.2.1 x1.2.2.1 x1.2.2.2
end Go.Proofs.Ythkcpgiibmajhaa.Fn
