/- Chapter 26's third statement: how long a vehicle waits. -/
import Derived.Test.YtiildimlelphhaaGreatDoorQueueP
import Derived.Test.YtiildimlelphhaaGreatDoorFracR
namespace Go.Proofs.YtiildimlelphhaaGreatDoor.Fn
set_option linter.unusedVariables false
open Go Go.RowKit Go.Den Go.Circ

theorem qgr_gr {C A L t : Int} (h1 : 1 ≤ C) : qgr C A L t = gr C (A, L) t := by
  unfold qgr gr
  by_cases hL : L < 1
  · rw [if_pos hL]
    exact (decide_eq_false (fun h : HasT C (A, L) t => by have : 1 ≤ L := h.1; omega)).symm
  · rw [if_neg hL]
    by_cases hC : C ≤ L
    · rw [if_pos hC]
      exact (decide_eq_true (show HasT C (A, L) t from ⟨by show 1 ≤ L; omega, .inl hC⟩)).symm
    · rw [if_neg hC, ← Int.sub_emod]
      exact decide_eq_decide.2 ⟨fun h => ⟨by show 1 ≤ L; omega, .inr h⟩, fun h => h.2.resolve_left hC⟩
theorem le6 {k : Nat} {x : Int} (hk : (k : Int) ≤ 6000) (h : x ≤ k * 1000000000) : x ≤ 6000000000000 := by omega
theorem dk0 (k : Nat) : decide ((0 : Int) ≤ (k : Int) + 1) = true := decide_eq_true (by omega)
theorem dk1 {k : Nat} (h : 1 ≤ (k : Int)) : decide ((1 : Int) ≤ (k : Int) + 1) = true := decide_eq_true (by omega)
theorem steady_num {b ls : Int} (h : b ≤ 0) (hn : 0 ≤ max (0 + b) ls) (hle : ls ≤ 6000000000000) : (ls ≤ 0 → max (0 + b) ls = 0 ∧ max 0 ls = 0) ∧ (¬ ls ≤ 0 → max (0 + b) ls = ls ∧ max (ls + b) ls = ls ∧ max 0 ls = ls ∧ 0 ≤ ls ∧ ls ≤ 1152921504606846976 ∧ ls ≠ 0) := by omega
theorem qrn_qa {V S C A L t q : Int} (h1 : 1 ≤ C) (k : Nat) : qrn V S (qgr C A L) k t q = qa V S C (A, L) t q k := by
  induction k with
  | zero => rfl
  | succ k ih =>
    rw [q_rn_add k 1 t q]
    simp only [qrn, qa, ← ih, ← qgr_gr h1]
    rfl
theorem qgc_succ {G : Int → Bool} (k : Nat) : qgc G (k + 1) 0 = qgc G k 0 + (if G k = true then 1 else 0) := by
  rw [q_gc_add k 1 0]
  simp [qgc]
theorem rserves_ (V S C A L : Int) (hr : rightB V S C = true) : Ev (fun n => ref25_Serves n (V, S, A, L, C)) (decide (V * C ≤ S * (qnrm C A L).2)) := by
  obtain ⟨⟨c1, c2⟩, v1, v2, s1, s2⟩ := rightB_iff.1 hr
  unfold ref25_Serves
  refine Ev.bindS (fun n => rright_ n V S C (A, L)) ?_
  rw [hr]
  simp only [Bool.not_true, cond_false]
  obtain ⟨K, rfl⟩ := Int.eq_ofNat_of_zero_le (show 0 ≤ C by omega)
  have hin : ∀ n (t : Int), ref03_In n ((K : Int), A, L, t) = some (qgr K A L t) := fun n t => by
    have := rin_ n K (A, L) t
    rw [this, qgr_gr c1]
    unfold gr
    congr 1
    exact decide_eq_decide.2 ⟨fun h => h.2.2, fun h => ⟨c1, c2, h⟩⟩
  have hb : ∀ i : Nat, i ≤ K → 0 ≤ V * i ∧ V * i ≤ 6000000000000 ∧ 0 ≤ S * (qgc (qgr K A L) i 0 : Int) ∧ S * (qgc (qgr K A L) i 0 : Int) ≤ 6000000000000 := by
    intro i hi
    have hg := q_gc_le (G := qgr K A L) i 0
    have a1 := Int.mul_nonneg v1 (show (0 : Int) ≤ i by omega)
    have a2 := Int.mul_nonneg s1 (show (0 : Int) ≤ (qgc (qgr K A L) i 0 : Int) by omega)
    have a3 : V * (i : Int) ≤ 1000000000 * i := Int.mul_le_mul_of_nonneg_right v2 (by omega)
    have a4 : S * (qgc (qgr K A L) i 0 : Int) ≤ 1000000000 * (qgc (qgr K A L) i 0 : Int) := Int.mul_le_mul_of_nonneg_right s2 (by omega)
    omega
  refine Ev.loopB (fun i => (V * (i : Int), S * (qgc (qgr K A L) i 0 : Int), (i : Int), V, S, A, L, (K : Int))) K (V * (K : Int), S * (qgc (qgr K A L) K 0 : Int)) (by simp [qgc]) (fun i hi => ?_) ?_ ?_
  · refine Ev.const fun n => ?_
    obtain ⟨b1, b2, b3, b4⟩ := hb i (by omega)
    obtain ⟨d1, d2, d3, d4⟩ := hb (i + 1) (by omega)
    have e1 : V * ((i + 1 : Nat) : Int) = V * i + V := by rw [Int.natCast_add, Int.mul_add]; simp
    have w1 : wrap64 (V * (i : Int) + V) = V * ((i + 1 : Nat) : Int) := by rw [e1]; exact wrap64_id (by omega) (by omega)
    have w2 : wrap64 (S * (qgc (qgr K A L) i 0 : Int) + S) = S * (qgc (qgr K A L) i 0 : Int) + S := wrap64_id (by omega) (by omega)
    simp only [ofNat_lt_true hi, cond_true, hin, Option.bind_some, w1, w2, wrap_succ (show i < 9223372036854775807 by omega)]
    rw [qgc_succ]
    cases hg : qgr K A L i with
    | true =>
      simp only [cond_true, if_true]
      have : S * ((qgc (qgr K A L) i 0 + 1 : Nat) : Int) = S * (qgc (qgr K A L) i 0 : Int) + S := by rw [Int.natCast_add, Int.mul_add]; simp
      rw [this]
    | false => simp only [cond_false, Bool.false_eq_true, if_false, Nat.add_zero]
  · simp only [ofNat_lt_irrefl, cond_false]
    exact Ev.ret _
  · refine (Ev.ret _).of_eq ?_
    simp only
    rw [q_gc_cycle c1 K rfl]
/-- The steady queue, of both. -/
theorem steady_ (V S C A L : Int) (hr : rightB V S C = true) : ∃ r : Int × Bool, Ev (fun n => queue_Steady n (V, S, A, L, C)) r ∧ Ev (fun n => ref25_Steady n (V, S, A, L, C)) r := by
  have hR := rightB_iff.1 hr
  obtain ⟨⟨c1, c2⟩, v1, v2, s1, s2⟩ := id hR
  have hsv := fun n => serves15 (A := A) (L := L) n hR
  by_cases hs : V * C ≤ S * (qnrm C A L).2
  · obtain ⟨k, rfl⟩ := Int.eq_ofNat_of_zero_le (show 0 ≤ C by omega)
    obtain ⟨c, hc1, hc2⟩ := eff_all (A := A) (L := L) (t := 0) v1 v2 s1 s2 c1 c2 (by omega) (k := k) (by omega)
    have hsum := eff_sum v1 s1 s2 (by omega) hc2
    have hgc := q_gc_cycle (A := A) (L := L) c1 k rfl
    have hby : c.1 ≤ 0 := by
      rw [hsum, hgc, Int.mul_comm (k : Int) V]; omega
    have hls := hc2.ls2
    have haft := hc2.after
    refine ⟨(max 0 c.2.1, true), ?_, ?_⟩
    · refine Ev.congr (F := fun n => (queue_all n (V, S, A, L, (k : Int), 0, (k : Int))).bind fun y2 => some (mx 0 y2.2.1, true)) (Ev.bind hc1 ?_) fun n => ?_
      · rw [mx_eq]; exact Ev.ret _
      · unfold queue_Steady; simp only [hsv, Option.bind_some, hs, decide_true, Bool.not_true, cond_false]
    · unfold ref25_Steady
      refine Ev.bind (rserves_ V S k A L hr) ?_
      simp only [decide_eq_true hs, Bool.not_true, cond_false]
      have haf : ∀ q : Int, 0 ≤ q → q ≤ 1152921504606846976 → Ev (fun n => ref25_After n (V, S, A, L, (k : Int), q, 0, (k : Int))) (max (q + c.1) c.2.1, 0) := fun q q1 q2 => by
        have := after_ V S k q 0 k (A, L) hr q1 q2 (by omega) (by omega) (by omega)
        rw [← qrn_qa c1, ← haft q q1] at this
        exact this
      have h00 := haft 0 (Int.le_refl 0)
      have hnn := q_rn_nonneg (V := V) (S := S) (G := qgr k A L) v1 k 0 0 (Int.le_refl 0)
      rw [← h00] at hnn
      obtain ⟨num1, num2⟩ := steady_num hby hnn (le6 c2 hls)
      have w1 : wrap64 ((k : Int) + 1) = k + 1 := wrap64_id (by clear hsum hls haft haf h00 hnn num1 num2; omega) (by clear hsum hls haft haf h00 hnn num1 num2; omega)
      have d0 := dk0 k
      have d1 := dk1 c1
      have w2 : wrap64 ((0 : Int) + 1) = 1 := wrap64_id (n := 0 + 1) (by decide) (by decide)
      clear hsum hls h00 hnn
      by_cases h0 : c.2.1 ≤ 0
      · -- nothing waits: found at once
        obtain ⟨e0, e1⟩ := num1 h0
        refine Ev.bind (a := .inl (0, true)) (Ev.loop (fun _ => ((0 : Int), (0 : Int), V, S, A, L, (k : Int))) 0 _ rfl (fun i hi => absurd hi (Nat.not_lt_zero i)) ?_) ?_
        · simp only [w1, d0, cond_true]
          refine Ev.bind (haf 0 (by decide) (by decide)) ?_
          rw [e0]
          exact Ev.ret _
        · rw [e1]
          exact Ev.const fun n => rfl
      · obtain ⟨e0, e1, e2, e3, e4, e5⟩ := num2 h0
        rw [e2]
        refine Ev.bind (a := .inl (c.2.1, true)) (Ev.loop (fun i => ((if i = 0 then (0 : Int) else c.2.1), (if i = 0 then (0 : Int) else 1), V, S, A, L, (k : Int))) 1 _ rfl (fun i hi => ?_) ?_) (Ev.const fun n => rfl)
        · obtain rfl : i = 0 := Nat.lt_one_iff.1 hi
          simp only [if_true, w1, d0, cond_true]
          refine Ev.bind (haf 0 (by decide) (by decide)) ?_
          rw [e0]
          have : (c.2.1 == 0) = false := by rw [beq_eq_false_iff_ne]; exact e5
          simp only [this, cond_false, w2]
          exact Ev.ret _
        · simp only [show (1 : Nat) = 0 ↔ False from ⟨by decide, False.elim⟩, if_false, w1, d1, cond_true]
          refine Ev.bind (haf c.2.1 e3 e4) ?_
          rw [e1]
          simp only [beq_self_eq_true, cond_true]
          exact Ev.ret _
  · refine ⟨(0, false), Ev.const fun n => ?_, ?_⟩
    · unfold queue_Steady; simp only [hsv, Option.bind_some, decide_eq_false hs, Bool.not_false, cond_true]
    · unfold ref25_Steady
      refine Ev.bind (rserves_ V S C A L hr) ?_
      simp only [decide_eq_false hs, Bool.not_false, cond_true]
      exact Ev.ret _
theorem tot26_i64 (V S C q t n : Int) (a : Int × Int) (hn : n ≤ 6000) : I64 (tot26 V S C a q t n).1 := by
  unfold tot26
  cases hb : badT V S C q t n with
  | true => rw [if_pos rfl]; exact ⟨by decide, by decide⟩
  | false =>
    rw [if_neg Bool.false_ne_true]
    have hf := fine_of hb
    have := tt_bound (C := C) (t := t) (a := a) hf.v1 hf.v2 hf.s1 hf.q1 hf.q2 n.toNat (by have := hf.n1; omega)
    exact ⟨by simp only; omega, by simp only; omega⟩
theorem mean_ (V S C A L : Int) (hC : C ≤ 6000 ∨ 6000 < C) : ∃ r : Int × Int × Int, Ev (fun n => delay_Mean n (V, S, A, L, C)) r ∧ Ev (fun n => ref26_Mean n (V, S, A, L, C)) r := by
  cases hr : rightB V S C with
  | false =>
    refine ⟨(0, 0, 1), ?_, ?_⟩
    · unfold delay_Mean
      refine Ev.bindS (fun n => qright_ n V S C (A, L)) ?_
      simp only [hr, Bool.not_false, cond_true]
      exact Ev.ret _
    · unfold ref26_Mean
      refine Ev.bindS (fun n => rright_ n V S C (A, L)) ?_
      simp only [hr, Bool.not_false, cond_true]
      exact Ev.ret _
  | true =>
    obtain ⟨⟨c1, c2⟩, v1, v2, s1, s2⟩ := rightB_iff.1 hr
    obtain ⟨⟨q, b⟩, hq1, hq2⟩ := steady_ V S C A L hr
    have core : b = true → V ≠ 0 → ∃ r : Int × Int × Int, Ev (fun n => (delay_Total n (V, S, A, L, C, q, 0, C)).bind fun y5 => bif !(y5.2 == 0) then some (0, 0, y5.2) else (frac_Of n (y5.1, wrap64 (V * C))).bind fun y6 => some y6) r ∧
        Ev (fun n => (ref26_Total n (V, S, A, L, C, q, 0, C)).bind fun y5 => bif !(y5.2 == 0) then some (0, 0, y5.2) else (ref02_Of n (y5.1, wrap64 (V * C))).bind fun y6 => some y6) r := by
      intro _ _
      have T1 := total_ V S C q 0 C (A, L) (.inl c2)
      have T2 := rtotal26_ V S C q 0 C (A, L) (.inl c2)
      have hi := tot26_i64 V S C q 0 C (A, L) c2
      have hw : I64 (wrap64 (V * C)) := by
        have a1 := Int.mul_nonneg v1 (show 0 ≤ C by omega)
        have a2 : V * C ≤ 1000000000 * C := Int.mul_le_mul_of_nonneg_right v2 (by omega)
        rw [wrap64_id (by omega) (by omega)]
        exact ⟨by omega, by omega⟩
      generalize tot26 V S C (A, L) q 0 C = y at T1 T2 hi
      by_cases h0 : y.2 = 0
      · refine ⟨ofF y.1 (wrap64 (V * C)), Ev.bind T1 ?_, Ev.bind T2 ?_⟩
        · simp only [h0, show (!((0 : Int) == 0)) = false from rfl, cond_false]
          exact Ev.bind (fof_ _ _ hi hw) (Ev.ret _)
        · simp only [h0, show (!((0 : Int) == 0)) = false from rfl, cond_false]
          exact Ev.bind (rof_ _ _ hi hw) (Ev.ret _)
      · have e : (!(y.2 == 0)) = true := by simp; exact h0
        refine ⟨(0, 0, y.2), Ev.bind T1 ?_, Ev.bind T2 ?_⟩
        · simp only [e, cond_true]; exact Ev.ret _
        · simp only [e, cond_true]; exact Ev.ret _
    have heads : ∀ r : Int × Int × Int, (b = false ∨ V = 0 → r = (0, 0, 150)) → (b = true → V ≠ 0 →
        Ev (fun n => (delay_Total n (V, S, A, L, C, q, 0, C)).bind fun y5 => bif !(y5.2 == 0) then some (0, 0, y5.2) else (frac_Of n (y5.1, wrap64 (V * C))).bind fun y6 => some y6) r ∧
        Ev (fun n => (ref26_Total n (V, S, A, L, C, q, 0, C)).bind fun y5 => bif !(y5.2 == 0) then some (0, 0, y5.2) else (ref02_Of n (y5.1, wrap64 (V * C))).bind fun y6 => some y6) r) →
        Ev (fun n => delay_Mean n (V, S, A, L, C)) r ∧ Ev (fun n => ref26_Mean n (V, S, A, L, C)) r := by
      intro r h1 h2
      have hv : (V == 0) = decide (V = 0) := rfl
      refine ⟨?_, ?_⟩
      · unfold delay_Mean letJ
        refine Ev.bindS (fun n => qright_ n V S C (A, L)) ?_
        simp only [hr, Bool.not_true, cond_false]
        refine Ev.bind hq1 ?_
        cases b with
        | false => simp only [Bool.not_false, cond_true]; exact (Ev.ret _).of_eq (h1 (.inl rfl)).symm
        | true =>
          simp only [Bool.not_true, cond_false, hv]
          by_cases h0 : V = 0
          · simp only [decide_eq_true h0, cond_true]; exact (Ev.ret _).of_eq (h1 (.inr h0)).symm
          · simp only [decide_eq_false h0, cond_false]; exact (h2 rfl h0).1
      · unfold ref26_Mean letJ
        refine Ev.bindS (fun n => rright_ n V S C (A, L)) ?_
        simp only [hr, Bool.not_true, cond_false]
        refine Ev.bind hq2 ?_
        cases b with
        | false => simp only [Bool.not_false, cond_true]; exact (Ev.ret _).of_eq (h1 (.inl rfl)).symm
        | true =>
          simp only [Bool.not_true, cond_false, hv]
          by_cases h0 : V = 0
          · simp only [decide_eq_true h0, cond_true]; exact (Ev.ret _).of_eq (h1 (.inr h0)).symm
          · simp only [decide_eq_false h0, cond_false]; exact (h2 rfl h0).2
    by_cases hh : b = true ∧ V ≠ 0
    · obtain ⟨r, h1, h2⟩ := core hh.1 hh.2
      exact ⟨r, heads r (fun h => by rcases h with h | h; · rw [hh.1] at h; cases h
                                     · exact absurd h hh.2) fun _ _ => ⟨h1, h2⟩⟩
    · exact ⟨(0, 0, 150), heads _ (fun _ => rfl) fun h1 h2 => absurd ⟨h1, h2⟩ hh⟩
theorem delayMean_pure (x0 : Int × Int × Int × Int × Int) : Ev (fun n => law26_DelayMean n x0) true := by
  obtain ⟨V, S, A, L, C⟩ := x0
  unfold law26_DelayMean letJ
  have main : Ev (fun n => (delay_Mean n (V, S, A, L, C)).bind fun y3 => (ref26_Mean n (V, S, A, L, C)).bind fun y4 =>
      bif (y3.1 == y4.1) && ((y3.2.1 == y4.2.1) && true) then (bif y3.2.2 == y4.2.2 then (law26_awake n ()).bind fun y5 => some y5 else some false) else some false) true := by
    obtain ⟨r, h1, h2⟩ := mean_ V S C A L (by omega)
    refine Ev.bind h1 (Ev.bind h2 ?_)
    simp only [beq_self_eq_true, Bool.and_self, cond_true]
    exact awk
  by_cases h1 : 120 < C
  · by_cases h2 : C ≤ 6000
    · simp only [h1, h2, decide_true, cond_true]; exact Ev.ret _
    · simp only [h1, h2, decide_true, decide_false, cond_true, cond_false]; exact main
  · simp only [h1, decide_false, cond_false]; exact main
end Go.Proofs.YtiildimlelphhaaGreatDoor.Fn
