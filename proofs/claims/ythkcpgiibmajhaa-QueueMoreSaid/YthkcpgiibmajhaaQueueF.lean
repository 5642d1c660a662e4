/- The queue of chapter 25 in plain Lean: the law QueueMore. -/
import Derived.Test.YthkcpgiibmajhaaForm
namespace Go.Proofs.Ythkcpgiibmajhaa.Fn
open Go Go.RowKit Go.Den

section
variable {C A L : Int}
theorem tk_get {l : List (Int × Int)} {j : Nat} (hj : (j : Int) < C) : bt (tk C l) j = anyIn C l j := by
  have : j < C.toNat := by omega
  simp [bt, tk, List.getD_eq_getElem?_getD, this]
theorem count_le_all {b : List Bool} (h : b.count true = b.length) : ∀ j, j < b.length → bt b j = true := by
  intro j hj
  have := List.count_eq_length.1 h
  have h2 := this b[j] (List.getElem_mem hj)
  simp [bt, hj, h2.symm]
/-- One arc's form. -/
theorem frm_one (h1 : 1 ≤ C) : frm (tk C [(A, L)]) = if L < 1 then [] else [nrm C A L] := by
  obtain ⟨Cn, rfl⟩ := Int.eq_ofNat_of_zero_le (show 0 ≤ C by omega)
  have hlen : (tk (Cn : Int) [(A, L)]).length = Cn := by simp [tk]
  have m1 := Int.emod_nonneg A (b := Cn) (by omega)
  have m2 := Int.emod_lt_of_pos A (b := Cn) (by omega)
  have hget : ∀ j : Nat, j < Cn → bt (tk (Cn : Int) [(A, L)]) j = gr Cn A L j := by
    intro j hj
    rw [tk_get (by omega)]
    simp [anyIn]
  unfold frm nrm
  rw [hlen]
  by_cases hL : L < 1
  · rw [if_pos hL, if_neg]
    · apply List.filterMap_eq_nil_iff.2
      intro i hi
      have hi' := List.mem_range.1 hi
      have : begins (tk (Cn : Int) [(A, L)]) i = false := by
        unfold begins; rw [hget i hi']; simp [gr, hL]
      simp [this]
    · rintro ⟨h, _⟩
      have := count_le_all (by rw [hlen]; exact h) 0 (by omega)
      rw [hget 0 (by omega)] at this
      simp [gr, hL] at this
  · rw [if_neg hL, if_neg hL]
    by_cases hC : (Cn : Int) ≤ L
    · rw [if_pos hC, if_pos]
      refine ⟨?_, by omega⟩
      have : (tk (Cn : Int) [(A, L)]).count true = (tk (Cn : Int) [(A, L)]).length := by
        apply List.count_eq_length.2
        intro x hx
        obtain ⟨j, hj⟩ := List.mem_iff_getElem?.1 hx
        have hjl : j < Cn := by rw [← hlen]; exact (List.getElem?_eq_some_iff.1 hj).1
        have := hget j hjl
        simp only [bt, List.getD_eq_getElem?_getD, hj, Option.getD_some] at this
        rw [this]; unfold gr; rw [if_neg hL, if_pos hC]
      rw [this, hlen]
    · rw [if_neg hC]
      -- one begin, at the arc's own
      obtain ⟨a, ha⟩ := Int.eq_ofNat_of_zero_le m1
      obtain ⟨ln, rfl⟩ := Int.eq_ofNat_of_zero_le (show 0 ≤ L by omega)
      have hgr : ∀ j : Nat, j < Cn → gr Cn A ln j = if a ≤ j then decide (j - a < ln) else decide (j + Cn - a < ln) := by
        intro j hj
        have e := gr_in (C := Cn) (a := A % Cn) (l := ln) (t := (j : Int)) m1 m2 (by omega) (by omega) (by omega) (by omega)
        have e2 : gr Cn (A % Cn) ln j = gr Cn A ln j := by unfold gr; simp
        rw [e2] at e
        rw [e, ha]
        by_cases h : a ≤ j
        · rw [if_pos (by omega), if_pos h]; apply decide_eq_decide.2; omega
        · rw [if_neg (by omega), if_neg h]; apply decide_eq_decide.2; omega
      rw [if_neg]
      · have hbeg : ∀ i, i < Cn → (begins (tk (Cn : Int) [(A, (ln : Int))]) i = true ↔ i = a) := by
          intro i hi
          unfold begins
          rw [hlen, hget i hi, hgr i hi]
          by_cases h0 : i = 0
          · subst h0
            have e : (0 + Cn - 1) % Cn = Cn - 1 := by rw [Nat.zero_add]; exact Nat.mod_eq_of_lt (by omega)
            rw [e, hget _ (by omega), hgr _ (by omega)]
            by_cases h1 : a ≤ 0 <;> by_cases h2 : a ≤ Cn - 1 <;> simp [h1, h2] <;> omega
          · have e : (i + Cn - 1) % Cn = i - 1 := by
              rw [show i + Cn - 1 = i - 1 + Cn by omega, Nat.add_mod_right]; exact Nat.mod_eq_of_lt (by omega)
            rw [e, hget _ (by omega), hgr _ (by omega)]
            by_cases h1 : a ≤ i <;> by_cases h2 : a ≤ i - 1 <;> simp [h1, h2] <;> omega
        have hrl : rl (tk (Cn : Int) [(A, (ln : Int))]) a Cn = ln := by
          apply rl_of ln a Cn (by omega)
          · intro m hm
            rw [hlen, hget _ (Nat.mod_lt _ (by omega)), hgr _ (Nat.mod_lt _ (by omega))]
            by_cases h : a + m < Cn
            · rw [Nat.mod_eq_of_lt h, if_pos (by omega)]; simp; omega
            · have e : (a + m) % Cn = a + m - Cn := by
                rw [Nat.mod_eq_sub_mod (by omega)]; exact Nat.mod_eq_of_lt (by omega)
              rw [e, if_neg (by omega)]; simp; omega
          · rw [hlen, hget _ (Nat.mod_lt _ (by omega)), hgr _ (Nat.mod_lt _ (by omega))]
            by_cases h : a + ln < Cn
            · rw [Nat.mod_eq_of_lt h, if_pos (by omega)]; simp
            · have e : (a + ln) % Cn = a + ln - Cn := by
                rw [Nat.mod_eq_sub_mod (by omega)]; exact Nat.mod_eq_of_lt (by omega)
              rw [e, if_neg (by omega)]; simp; omega
        have haC : a < Cn := by omega
        have hsplit : List.range Cn = List.range a ++ a :: (List.range (Cn - a - 1)).map fun i => a + 1 + i := by
          have e : Cn = a + (1 + (Cn - a - 1)) := by omega
          conv => lhs; rw [e]
          rw [List.range_add, List.range_add]
          simp [List.map_map, Function.comp_def, Nat.add_assoc]
        have none_of : ∀ i, i < Cn → i ≠ a → begins (tk (Cn : Int) [(A, (ln : Int))]) i = false := by
          intro i hi hne
          cases h : begins (tk (Cn : Int) [(A, (ln : Int))]) i with
          | false => rfl
          | true => exact absurd ((hbeg i hi).1 h) hne
        rw [hsplit, List.filterMap_append, List.filterMap_cons, (hbeg a haC).2 rfl, hrl]
        have p1 : (List.range a).filterMap (fun (i : Nat) => if begins (tk (Cn : Int) [(A, (ln : Int))]) i then some ((i : Int), (rl (tk (Cn : Int) [(A, (ln : Int))]) i Cn : Int)) else none) = [] := by
          apply List.filterMap_eq_nil_iff.2
          intro i hi
          have := List.mem_range.1 hi
          simp [none_of i (by omega) (by omega)]
        have p2 : ((List.range (Cn - a - 1)).map fun i => a + 1 + i).filterMap (fun (i : Nat) => if begins (tk (Cn : Int) [(A, (ln : Int))]) i then some ((i : Int), (rl (tk (Cn : Int) [(A, (ln : Int))]) i Cn : Int)) else none) = [] := by
          apply List.filterMap_eq_nil_iff.2
          intro i hi
          obtain ⟨j, hj, rfl⟩ := List.mem_map.1 hi
          have := List.mem_range.1 hj
          simp [none_of (a + 1 + j) (by omega) (by omega)]
        rw [p1, p2]
        simp [ha]
      · rintro ⟨h, _⟩
        have h2 := count_le_all (by rw [hlen]; exact h)
        rw [hlen] at h2
        have := h2 ((a + ln) % Cn) (Nat.mod_lt _ (by omega))
        rw [hget _ (Nat.mod_lt _ (by omega)), hgr _ (Nat.mod_lt _ (by omega))] at this
        by_cases h : a + ln < Cn
        · rw [Nat.mod_eq_of_lt h, if_pos (by omega)] at this; simp at this
        · have e : (a + ln) % Cn = a + ln - Cn := by
            rw [Nat.mod_eq_sub_mod (by omega)]; exact Nat.mod_eq_of_lt (by omega)
          rw [e, if_neg (by omega)] at this; simp at this; omega
theorem norm12 (h1 : 1 ≤ C) (h2 : C ≤ 6000) : Ev (fun n => f12 n (C, (A, L))) (nrm C A L) := by
  refine Ev.bind (ticks22 h1 h2 (l := [(A, L)]) (by simp)) (Ev.bind (form21 (by rw [tk_len]; omega)) ?_)
  rw [frm_one h1]
  unfold nrm
  by_cases hL : L < 1
  · simp only [if_pos hL]; exact Ev.ret _
  · simp only [if_neg hL]; exact Ev.ret _
end
section
variable {V S A L C : Int} {G H : Int → Bool}
theorem rn_more {d : Int} (hd : 0 ≤ d) : ∀ (k : Nat) (t q : Int), rn V S G k t q ≤ rn V S G k t (q + d) ∧ rn V S G k t (q + d) ≤ rn V S G k t q + d := by
  have step : ∀ (k : Nat) (t q q' : Int), q ≤ q' → q' ≤ q + d → rn V S G k t q ≤ rn V S G k t q' ∧ rn V S G k t q' ≤ rn V S G k t q + d := by
    intro k
    induction k with
    | zero => intro t q q' h1 h2; exact ⟨h1, h2⟩
    | succ k ih =>
      intro t q q' h1 h2
      simp only [rn]
      apply ih
      · unfold stp; split <;> omega
      · unfold stp; split <;> omega
  exact fun k t q => step k t q (q + d) (by omega) (by omega)
theorem rn_volume {W : Int} (hVW : V ≤ W) : ∀ (k : Nat) (t q q' : Int), q ≤ q' → rn V S G k t q ≤ rn W S G k t q' := by
  intro k
  induction k with
  | zero => intro t q q' h; exact h
  | succ k ih =>
    intro t q q' h
    simp only [rn]
    apply ih
    unfold stp; split <;> omega
theorem rn_less (hV : 0 ≤ V) (hS : 0 ≤ S) (hG : ∀ j, H j = true → G j = true) : ∀ (k : Nat) (t q q' : Int), 0 ≤ q → q ≤ q' → rn V S G k t q ≤ rn V S H k t q' := by
  intro k
  induction k with
  | zero => intro t q q' _ h; exact h
  | succ k ih =>
    intro t q q' h0 h
    simp only [rn]
    apply ih
    · exact stp_nonneg hV h0 _
    · cases hh : H t with
      | true => rw [hG t hh]; unfold stp; simp; omega
      | false => cases G t <;> (unfold stp; simp; omega)
theorem queueMore (q t k more : Int) : Ev (fun n => f5 n ((V, S, A, L, C), q, t, k, more)) true := by
  have hb : inB 0 4 = true ∧ inB 1 4 = true ∧ inB 2 4 = true ∧ inB 3 4 = true := by decide
  have wake : Ev (fun n => (f11 n ()).bind fun y3 => some y3) true := Ev.bind awake11 (Ev.ret _)
  by_cases g1 : more < 0
  · exact wake.congr fun n => by simp [f5, letJ, hb.1, hb.2.1, hb.2.2.1, hb.2.2.2, g1]
  by_cases g2 : 1048576 < more
  · exact wake.congr fun n => by simp [f5, letJ, hb.1, hb.2.1, hb.2.2.1, hb.2.2.2, g1, g2]
  by_cases g3 : q < 0
  · exact wake.congr fun n => by simp [f5, letJ, hb.1, hb.2.1, hb.2.2.1, hb.2.2.2, g1, g2, g3]
  by_cases g4 : 576460752303423488 < q
  · exact wake.congr fun n => by simp [f5, letJ, hb.1, hb.2.1, hb.2.2.1, hb.2.2.2, g1, g2, g3, g4]
  by_cases g5 : V < 0
  · exact wake.congr fun n => by simp [f5, letJ, hb.1, hb.2.1, hb.2.2.1, hb.2.2.2, g1, g2, g3, g4, g5]
  have w0 : wrap64 (1000000000 - more) = 1000000000 - more := wrap64_id (by omega) (by omega)
  by_cases g6 : 1000000000 - more < V
  · exact wake.congr fun n => by simp [f5, letJ, hb.1, hb.2.1, hb.2.2.1, hb.2.2.2, g1, g2, g3, g4, g5, g6, w0]
  unfold f5
  simp only [letJ, hb.1, hb.2.1, hb.2.2.1, hb.2.2.2, cond_true, g1, g2, g3, g4, g5, w0, g6, decide_false, cond_false]
  by_cases h : RightF V S C ∧ Asks q t k
  · obtain ⟨hR, hA⟩ := h
    obtain ⟨⟨c1, c2⟩, ⟨v1, v2⟩, s1, s2⟩ := id hR
    obtain ⟨⟨q1, q2⟩, ⟨t1, t2⟩, k1, k2⟩ := id hA
    obtain ⟨kn, rfl⟩ := Int.eq_ofNat_of_zero_le k1
    have w1 : wrap64 (q + more) = q + more := wrap64_id (by omega) (by omega)
    have w2 : wrap64 (V + more) = V + more := wrap64_id (by omega) (by omega)
    have hA2 : Asks (q + more) t kn := ⟨⟨by omega, by omega⟩, ⟨t1, t2⟩, k1, k2⟩
    have hR2 : RightF (V + more) S C := ⟨⟨c1, c2⟩, ⟨by omega, by omega⟩, s1, s2⟩
    obtain ⟨n1, n2, n3, n4⟩ := nrm_in C A L c1
    have w3 : wrap64 ((nrm C A L).2 - 1) = (nrm C A L).2 - 1 := wrap64_id (by omega) (by omega)
    refine Ev.bind (after7 hR hA) ?_
    simp only [beq_self_eq_true, Bool.not_true, cond_false, w1, w2]
    refine Ev.bind (after7 hR hA2) (Ev.bind (after7 hR2 hA) (Ev.bind (norm12 c1 c2) ?_))
    simp only [w3, mx_eq]
    refine Ev.bind (after7 hR hA) ?_
    have r1 := rn_more (V := V) (S := S) (G := gr C A L) (d := more) (by omega) kn t q
    have r2 := rn_volume (V := V) (S := S) (G := gr C A L) (W := V + more) (by omega) kn t q q (Int.le_refl _)
    have r3 := rn_less (G := gr C A L) (H := gr C (nrm C A L).1 (max 0 ((nrm C A L).2 - 1))) v1 s1 (fun j hj => by
      rw [← gr_nrm C A L j c1]
      revert hj
      generalize nrm C A L = p at *
      obtain ⟨a, l⟩ := p
      simp only at *
      unfold gr
      by_cases h1 : l < 1
      · have : max 0 (l - 1) < 1 := by omega
        simp [h1, this]
      · rw [if_neg h1]
        by_cases h2 : C ≤ l
        · simp [h2]
        · rw [if_neg h2]
          by_cases h3 : max 0 (l - 1) < 1
          · rw [if_pos h3]; intro h; cases h
          · rw [if_neg h3, if_neg (by omega)]
            intro h
            have := of_decide_eq_true h
            exact decide_eq_true (by omega)) kn t q q q1 (Int.le_refl _)
    have b0 := rn_nonneg (V := V) (S := S) (G := gr C A L) v1 kn t q q1
    have w4 : wrap64 (rn V S (gr C A L) kn t (q + more) - rn V S (gr C A L) kn t q) = rn V S (gr C A L) kn t (q + more) - rn V S (gr C A L) kn t q := wrap64_id (by omega) (by omega)
    have d1 := decide_eq_true r1.1
    have d2 : decide (rn V S (gr C A L) kn t (q + more) - rn V S (gr C A L) kn t q ≤ more) = true := decide_eq_true (by omega)
    have d3 := decide_eq_true r2
    have d4 := decide_eq_true r3
    simp only [w4, d1, d2, d3, d4, cond_true]
    exact wake
  · refine Ev.bind (a := (0, 1)) (Ev.const fun n => after7_no n h) ?_
    simpa using wake
end
theorem queueMorePure (x0 : PD.Ty Θ.T (.agg [.int .i64, .int .i64, .int .i64, .int .i64, .int .i64])) (x1 : PD.Ty Θ.T (.agg [.int .i64, .int .i64, .int .i64, .int .i64])) (_ : WfA Θ _ x0) (_ : WfA Θ _ x1) : Ev (fun n => f5 n (x0, x1)) true :=
  queueMore x1.1 x1.2.1 x1.2.2.1 x1.2.2.2
end Go.Proofs.Ythkcpgiibmajhaa.Fn
