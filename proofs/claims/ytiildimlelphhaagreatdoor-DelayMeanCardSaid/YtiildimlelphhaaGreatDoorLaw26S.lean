/- Chapter 26's second statement: the totals of some ticks, and of those behind them. -/
import Derived.Test.YtiildimlelphhaaGreatDoorAwake26
namespace Go.Proofs.YtiildimlelphhaaGreatDoor.Fn
set_option linter.unusedVariables false
open Go Go.RowKit Go.Den Go.Circ

theorem may_ (n : Nat) (V S C q t N : Int) (a : Int × Int) (hr : rightB V S C = true) (q1 : 0 ≤ q) (q2 : q ≤ 1152921504606846976) (t1 : 0 ≤ t) (t2 : t ≤ 1099511627776) (n1 : 0 ≤ N) (n2 : N ≤ 1073741824) :
    ref25_May n (V, S, a.1, a.2, C, q, t, N) = some true := by
  unfold ref25_May letJ
  simp only [rright_, Option.bind_some, hr, cond_true, decide_eq_true q1, decide_eq_true q2, decide_eq_true t1, decide_eq_true t2, decide_eq_true n1, decide_eq_true n2]
theorem after_ (V S C q t : Int) (N : Nat) (a : Int × Int) (hr : rightB V S C = true) (q1 : 0 ≤ q) (q2 : q ≤ 1152921504606846976) (t1 : 0 ≤ t) (t2 : t ≤ 1099511627776) (hN : N ≤ 6000) :
    Ev (fun n => ref25_After n (V, S, a.1, a.2, C, q, t, (N : Int))) (qa V S C a t q N, 0) := by
  obtain ⟨⟨c1, c2⟩, v1, v2, s1, s2⟩ := rightB_iff.1 hr
  unfold ref25_After
  refine Ev.bindS (fun n => may_ n V S C q t N a hr q1 q2 t1 t2 (by omega) (by omega)) ?_
  simp only [Bool.not_true, cond_false]
  refine Ev.loopB (fun i => (qa V S C a t q i, t, (N : Int), (i : Int), V, S, a.1, a.2, C)) N (qa V S C a t q N) rfl (fun i hi => ?_) ?_ (Ev.const fun n => rfl)
  · have hq := qa_bound (C := C) (t := t) (a := a) v1 v2 s1 q1 i
    have w1 : wrap64 (t + i) = t + i := wrap64_id (by omega) (by omega)
    refine Ev.const fun n => ?_
    have htk := rtick_ n V S C (qa V S C a t q i) (t + i) a c1 c2 v1 v2 s1 s2 hq.1 (by omega)
    simp only [ofNat_lt_true hi, cond_true, w1, htk, Option.bind_some, wrap_succ (show i < 9223372036854775807 by omega)]
    rfl
  · simp only [ofNat_lt_irrefl, cond_false]
    exact Ev.ret _
theorem tot_end {V S C t q : Int} {a : Int × Int} (hV : 0 ≤ V) (hV' : V ≤ 1000000000) (hS : 0 ≤ S) (hq : 0 ≤ q) (hq' : q ≤ 1099511627776) (i : Nat) (hi : i ≤ 6000) (h0 : 0 < i) : qa V S C a t q i ≤ tt V S C a t q i := by
  cases i with
  | zero => omega
  | succ i =>
    have := tt_bound (C := C) (t := t) (a := a) (S := S) hV hV' hS hq hq' i (by omega)
    simp only [tt]
    omega
theorem tot26_fine {V S C q t : Int} {a : Int × Int} {N : Nat} (h : badT V S C q t N = false) : tot26 V S C a q t N = (tt V S C a t q N, 0) := by
  unfold tot26
  rw [if_neg (by rw [h]; exact Bool.false_ne_true)]
  rfl
theorem good_of {V S C q t n : Int} (hr : rightB V S C = true) (q1 : 0 ≤ q) (q2 : q ≤ 1099511627776) (t1 : 0 ≤ t) (t2 : t ≤ 1099511627776) (n1 : 0 ≤ n) (n2 : n ≤ 1048576) : badT V S C q t n = false := by
  unfold badT
  rw [hr, decide_eq_false (by omega), decide_eq_false (by omega), decide_eq_false (by omega), decide_eq_false (by omega), decide_eq_false (by omega), decide_eq_false (by omega)]
  rfl
theorem awk : Ev (fun n => (law26_awake n ()).bind fun y => some y) true := Ev.bind awake26_ (Ev.ret _)
theorem ref25_refused (n : Nat) (V S C q t N : Int) (a : Int × Int) (h : ref25_May n (V, S, a.1, a.2, C, q, t, N) = some false) : ref25_After n (V, S, a.1, a.2, C, q, t, N) = some (0, 1) := by
  unfold ref25_After
  rw [h]
  rfl
/-- Behind the guards. -/
theorem split_core (V S C q t : Int) (a : Int × Int) (N M : Nat) (hN : N ≤ 3000) (hM : M ≤ 3000) (t1 : 0 ≤ t) (t2 : t ≤ 1073741824) (hb : badT V S C q t N = false) (hq : qa V S C a t q N ≤ 1099511627776) :
    tot26 V S C a (qa V S C a t q N) (t + N) M = (tt V S C a (t + N) (qa V S C a t q N) M, 0) ∧ tot26 V S C a q t ((N + M : Nat) : Int) = (tt V S C a t q N + tt V S C a (t + N) (qa V S C a t q N) M, 0) ∧
    (∀ n, ref01_Add n (tt V S C a t q N, tt V S C a (t + N) (qa V S C a t q N) M) = some (tt V S C a t q N + tt V S C a (t + N) (qa V S C a t q N) M, 0)) ∧
    Ev (fun n => ref25_After n (V, S, a.1, a.2, C, qa V S C a t q N, t + N, (M : Int))) (qa V S C a (t + N) (qa V S C a t q N) M, 0) ∧
    (N + M ≠ 0 → qa V S C a (t + N) (qa V S C a t q N) M ≤ tt V S C a t q N + tt V S C a (t + N) (qa V S C a t q N) M) := by
  obtain ⟨c1, c2, v1, v2, s1, s2, q1, q2, _, _, _, _⟩ := fine_of hb
  have hr : rightB V S C = true := rightB_iff.2 ⟨⟨c1, c2⟩, v1, v2, s1, s2⟩
  have hqa := qa_bound (C := C) (t := t) (a := a) v1 v2 s1 q1 N
  have b1 := tt_bound (C := C) (t := t) (a := a) (S := S) v1 v2 s1 q1 q2 N (by omega)
  have b2 := tt_bound (C := C) (t := t + N) (a := a) (S := S) v1 v2 s1 hqa.1 hq M (by omega)
  refine ⟨tot26_fine (good_of hr hqa.1 hq (by omega) (by omega) (by omega) (by omega)), ?_, fun n => radd_ n _ _ ⟨by omega, by omega⟩ ⟨by omega, by omega⟩ (by omega) (by omega), after_ V S C _ _ M a hr hqa.1 (by omega) (by omega) (by omega) (by omega), fun h0 => ?_⟩
  · rw [tot26_fine (good_of hr q1 q2 t1 (by omega) (by omega) (by omega)), tt_add]
  · rw [← tt_add, ← qa_add]
    exact tot_end v1 v2 s1 q1 q2 (N + M) (by omega) (by omega)
theorem delaySplit_pure (x0 : Int × Int × Int × Int × Int) (x1 : Int × Int × Int × Int) : Ev (fun n => law26_DelaySplit n (x0.1, x0.2.1, x0.2.2.1, x0.2.2.2.1, x0.2.2.2.2, x1)) true := by
  obtain ⟨V, S, a1, a2, C⟩ := x0
  obtain ⟨q, t, N, M⟩ := x1
  unfold law26_DelaySplit
  simp only [show inB 0 4 = true from rfl, show inB 1 4 = true from rfl, show inB 2 4 = true from rfl, show inB 3 4 = true from rfl, cond_true]
  unfold letJ
  by_cases g1 : N < 0
  · simp only [g1, decide_true, cond_true]; exact awk
  by_cases g2 : 3000 < N
  · simp only [g1, g2, decide_true, decide_false, cond_true, cond_false]; exact awk
  by_cases g3 : M < 0
  · simp only [g1, g2, g3, decide_true, decide_false, cond_true, cond_false]; exact awk
  by_cases g4 : 3000 < M
  · simp only [g1, g2, g3, g4, decide_true, decide_false, cond_true, cond_false]; exact awk
  by_cases g5 : t < 0
  · simp only [g1, g2, g3, g4, g5, decide_true, decide_false, cond_true, cond_false]; exact awk
  by_cases g6 : 1073741824 < t
  · simp only [g1, g2, g3, g4, g5, g6, decide_true, decide_false, cond_true, cond_false]; exact awk
  simp only [g1, g2, g3, g4, g5, g6, decide_false, cond_false]
  obtain ⟨N, rfl⟩ := Int.eq_ofNat_of_zero_le (show 0 ≤ N by omega)
  obtain ⟨M, rfl⟩ := Int.eq_ofNat_of_zero_le (show 0 ≤ M by omega)
  refine Ev.bind (total_ V S C q t N (a1, a2) (by omega)) ?_
  cases hb : badT V S C q t N with
  | true =>
    have e : tot26 V S C (a1, a2) q t N = (0, 1) := by unfold tot26; rw [if_pos hb]
    rw [e]
    -- whatever After tells, the guard lets nothing by
    have hafter : ∃ y, Ev (fun n => ref25_After n (V, S, a1, a2, C, q, t, (N : Int))) y := by
      cases hr : rightB V S C with
      | false =>
        refine ⟨(0, 1), Ev.const fun n => ref25_refused n V S C q t N (a1, a2) ?_⟩
        unfold ref25_May letJ
        have h := rright_ n V S C (a1, a2)
        simp only at h
        simp only [h, Option.bind_some, hr, cond_false]
      | true =>
        by_cases h1 : 0 ≤ q ∧ q ≤ 1152921504606846976
        · exact ⟨_, after_ V S C q t N (a1, a2) hr h1.1 h1.2 (by omega) (by omega) (by omega)⟩
        · refine ⟨(0, 1), Ev.const fun n => ref25_refused n V S C q t N (a1, a2) ?_⟩
          unfold ref25_May letJ
          have h := rright_ n V S C (a1, a2)
          simp only at h
          simp only [h, Option.bind_some, hr, cond_true]
          by_cases h2 : 0 ≤ q
          · have h3 : ¬ q ≤ 1152921504606846976 := fun h => h1 ⟨h2, h⟩
            simp only [h2, h3, decide_true, decide_false, cond_true, cond_false]
          · simp only [h2, decide_false, cond_false]
    obtain ⟨y, hy⟩ := hafter
    refine Ev.bind hy ?_
    simp only [show (!((1 : Int) == 0)) = true from rfl, cond_true]
    exact awk
  | false =>
    have hf := fine_of hb
    have hr : rightB V S C = true := rightB_iff.2 ⟨⟨hf.c1, hf.c2⟩, hf.v1, hf.v2, hf.s1, hf.s2⟩
    rw [tot26_fine hb]
    refine Ev.bind (after_ V S C q t N (a1, a2) hr hf.q1 (by have := hf.q2; omega) (by omega) (by omega) (by omega)) ?_
    simp only [show (!((0 : Int) == 0)) = false from rfl, cond_false]
    by_cases h5 : 1099511627776 < qa V S C (a1, a2) t q N
    · simp only [h5, decide_true, cond_true]
      exact awk
    · simp only [h5, decide_false, cond_false]
      obtain ⟨k1, k2, k3, k4, k5⟩ := split_core V S C q t (a1, a2) N M (by omega) (by omega) (by omega) (by omega) hb (by omega)
      have w1 : wrap64 (t + (N : Int)) = t + N := wrap64_id (by omega) (by omega)
      have w2 : wrap64 ((N : Int) + M) = ((N + M : Nat) : Int) := by rw [wrap64_id (by omega) (by omega)]; omega
      have hqa := qa_bound (C := C) (t := t) (a := (a1, a2)) hf.v1 hf.v2 hf.s1 hf.q1 N
      have T1 := total_ V S C (qa V S C (a1, a2) t q N) (t + N) M (a1, a2) (by omega)
      have T2 := total_ V S C q t ((N + M : Nat) : Int) (a1, a2) (by omega)
      rw [k1] at T1
      rw [k2] at T2
      simp only [w1, w2]
      refine Ev.bind T1 ?_
      refine Ev.bind T2 ?_
      refine Ev.bindS k3 ?_
      simp only [show (!((0 : Int) == 0)) = false from rfl, cond_false]
      refine Ev.bind k4 ?_
      simp only [show ((0 : Int) == 0) = true from rfl, cond_true, beq_self_eq_true]
      by_cases h0 : N + M = 0
      · have e0 : (((N + M : Nat) : Int) == 0) = true := by rw [h0]; rfl
        simp only [e0, cond_true]
        exact Ev.bind awake26_ (Ev.ret _)
      · have e0 : (((N + M : Nat) : Int) == 0) = false := by
          rw [beq_eq_false_iff_ne]; omega
        have e1 := k5 h0
        simp only [e0, cond_false, decide_eq_true e1, cond_true]
        exact Ev.bind awake26_ (Ev.ret _)
end Go.Proofs.YtiildimlelphhaaGreatDoor.Fn
