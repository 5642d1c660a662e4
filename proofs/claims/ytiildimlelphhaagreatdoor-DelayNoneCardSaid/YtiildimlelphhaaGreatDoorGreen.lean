/- Who has green always, and enough, does not wait: the program's mean. -/
import Derived.Test.YtiildimlelphhaaGreatDoorFormC
import Derived.Test.YtiildimlelphhaaGreatDoorAwake26
namespace Go.Proofs.YtiildimlelphhaaGreatDoor.Fn
set_option linter.unusedVariables false
open Go Go.RowKit Go.Den Go.Circ

theorem normFull (n : Nat) (C : Int) (h1 : 1 ≤ C) (h2 : C ≤ 6000) : circle_Norm n (C, 0, C) = some (0, C) := by
  rw [norm_ n C (0, C)]
  unfold normOf
  simp only
  rw [if_neg (by omega), if_pos (by omega)]
theorem thenA (n : Nat) (a : Int) (h1 : -1000000000 ≤ a) (h2 : a ≤ 0) : queue_effect_then n (a, 0, 0, 0, a, 0, 0, 0) = some (2 * a, 0, 0, 0) := by
  unfold queue_effect_then
  simp only [mx_eq]
  rw [wrap64_id (n := a + a) (by omega) (by omega), wrap64_id (n := 0 + a) (by omega) (by omega), wrap64_id (n := a + 0) (by omega) (by omega), wrap64_id (n := 0 + 0) (by omega) (by omega),
    show a + a = 2 * a by omega, show max (0 + a) 0 = (0 : Int) by omega, show max 0 (a + 0) = (0 : Int) by omega]
  rfl
theorem thenB (n : Nat) (r r2 r4 a : Int) (h1 : -1000000000 ≤ a) (h2 : a ≤ 0) (h3 : -1000000000 ≤ r) (h4 : r ≤ 0) (h5 : -2305843009213693952 ≤ r2) (h6 : r2 ≤ 0) (h7 : r4 ≤ 0) : queue_effect_then n (r, r2, 0, r4, a, 0, 0, 0) = some (r + a, 0, 0, 0) := by
  unfold queue_effect_then
  simp only [mx_eq]
  rw [wrap64_id (n := r + a) (by omega) (by omega), wrap64_id (n := r2 + a) (by omega) (by omega), wrap64_id (n := r + 0) (by omega) (by omega), wrap64_id (n := r2 + 0) (by omega) (by omega),
    show max (r2 + a) 0 = (0 : Int) by omega, show max 0 (r + 0) = (0 : Int) by omega, show max (max r4 (r2 + 0)) 0 = (0 : Int) by omega]
/-- What stands still where the effect of some ticks is reckoned. -/
def Still (r : Int × Int × Int × Int) : Prop := -6000000 ≤ r.1 ∧ r.1 ≤ 0 ∧ -2305843009213693952 ≤ r.2.1 ∧ r.2.1 ≤ 0 ∧ r.2.2.1 = 0 ∧ r.2.2.2 ≤ 0
theorem etimes_ (d : Int) (k : Nat) (hd : d ≤ 0) (hk : -6000000 ≤ (k : Int) * d) (hk2 : k ≤ 6000) : ∃ e, Ev (fun n => queue_effect_times n (d, 0, 0, 0, (k : Int))) e ∧ Still e := by
  have main := Ev.iterP (L := fun n (x2 : Int × Int × Int × Int × Int × Int × Int × Int × Int × Int × Int × Int × Int) =>
    bif decide (0 < x2.1) then
      letJ (fun (x4 : Int × Int × Int × Int × Int × Int × Int × Int × Int × Int × Int × Int × Int) =>
        (queue_effect_then n (x4.2.1, x4.2.2.1, x4.2.2.2.1, x4.2.2.2.2.1, x4.2.1, x4.2.2.1, x4.2.2.2.1, x4.2.2.2.2.1)).bind fun y6 =>
        bif decide ((0 : Int) ≤ 1) then
          some (.inl (shr .i64 x4.1 1, y6.1, y6.2.1, y6.2.2.1, y6.2.2.2, x4.2.2.2.2.2))
        else
        none) fun J5 =>
      bif (bits2 .and .i64 x2.1 1) == 1 then
        (queue_effect_then n (x2.2.2.2.2.2.2.2.2.2.1, x2.2.2.2.2.2.2.2.2.2.2.1, x2.2.2.2.2.2.2.2.2.2.2.2.1, x2.2.2.2.2.2.2.2.2.2.2.2.2, x2.2.1, x2.2.2.1, x2.2.2.2.1, x2.2.2.2.2.1)).bind fun y3 =>
        J5 (x2.1, x2.2.1, x2.2.2.1, x2.2.2.2.1, x2.2.2.2.2.1, x2.2.2.2.2.2.1, x2.2.2.2.2.2.2.1, x2.2.2.2.2.2.2.2.1, x2.2.2.2.2.2.2.2.2.1, y3)
      else
      J5 x2
    else
    some (.inr x2.2.2.2.2.2))
    (fun x => ∃ (m : Nat) (a : Int) (r : Int × Int × Int × Int), x = ((m : Int), a, 0, 0, 0, 0, 0, 0, 0, r) ∧ a ≤ 0 ∧ Still r ∧ -6000000 ≤ r.1 + (m : Int) * a ∧ m ≤ 6000)
    (fun x => x.1.toNat) (fun y => Still y.2.2.2.2) ?_ ((k : Int), d, 0, 0, 0, 0, 0, 0, 0, (0, -2305843009213693952, 0, -2305843009213693952))
    ⟨k, d, _, rfl, hd, ⟨by decide, by decide, by decide, by decide, rfl, by decide⟩, by simpa using hk, hk2⟩
  · obtain ⟨y, h1, h2⟩ := main
    exact ⟨y.2.2.2.2, Ev.bind (Ev.const fun n => rfl) (Ev.bind h1 (Ev.ret _)), h2⟩
  · rintro x ⟨m, a, ⟨r, r2, r3, r4⟩, rfl, ha, ⟨s1, s2, s3, s4, s5, s6⟩, hb, hm⟩
    simp only at s1 s2 s3 s4 s5 s6 hb
    subst s5
    by_cases h0 : 0 < m
    · left
      obtain ⟨z, hz⟩ : ∃ z, z = (m : Int) * a := ⟨_, rfl⟩
      have hza : z ≤ a := by
        have h := Int.mul_le_mul_of_nonpos_right (show (1 : Int) ≤ (m : Int) by omega) ha
        rw [Int.one_mul, ← hz] at h; exact h
      rw [← hz] at hb
      have ha2 : -6000000 ≤ a := by omega
      have e0 : decide ((0 : Int) < (m : Int)) = true := decide_eq_true (by omega)
      have eh : (m : Int) / 2 = ((m / 2 : Nat) : Int) := by omega
      have em : (m : Int) % 2 = ((m % 2 : Nat) : Int) := by omega
      simp only [e0, cT, letJ, show decide ((0 : Int) ≤ 1) = true from rfl, and_one (m := (m : Int)) (by omega) (by omega), shr_one, eh, em]
      by_cases hodd : m % 2 = 1
      · have hz2 : z = ((m / 2 : Nat) : Int) * (2 * a) + a := by
          rw [hz]
          conv => lhs; rw [show m = (m / 2) * 2 + 1 by omega]
          rw [Int.natCast_add, Int.natCast_mul, Int.add_mul, Int.mul_assoc]
          show ((m / 2 : Nat) : Int) * (2 * a) + 1 * a = _
          rw [Int.one_mul]
        have hnp : ((m / 2 : Nat) : Int) * (2 * a) ≤ 0 := Int.mul_nonpos_of_nonneg_of_nonpos (by omega) (by omega)
        refine ⟨(((m / 2 : Nat) : Int), 2 * a, 0, 0, 0, 0, 0, 0, 0, (r + a, 0, 0, 0)), Ev.const fun n => ?_, ⟨m / 2, 2 * a, _, rfl, by omega, ?_, ?_, by omega⟩, ?_⟩
        · have : (((m % 2 : Nat) : Int) == 1) = true := by rw [hodd]; rfl
          simp only [this, cT, thenB n r r2 r4 a (by omega) ha (by omega) s2 s3 s4 s6, thenA n a (by omega) ha, Option.bind_some]
        · generalize ((m / 2 : Nat) : Int) * (2 * a) = w at hz2 hnp
          exact ⟨by simp only; omega, by simp only; omega, by simp only; omega, by simp only; omega, rfl, by simp only; omega⟩
        · simp only
          generalize ((m / 2 : Nat) : Int) * (2 * a) = w at hz2 hnp ⊢
          omega
        · simp only [Int.toNat_natCast]; omega
      · have hz2 : z = ((m / 2 : Nat) : Int) * (2 * a) := by
          rw [hz]
          conv => lhs; rw [show m = (m / 2) * 2 by omega]
          rw [Int.natCast_mul, Int.mul_assoc]
          rfl
        refine ⟨(((m / 2 : Nat) : Int), 2 * a, 0, 0, 0, 0, 0, 0, 0, (r, r2, 0, r4)), Ev.const fun n => ?_, ⟨m / 2, 2 * a, _, rfl, by omega, ⟨s1, s2, s3, s4, rfl, s6⟩, ?_, by omega⟩, ?_⟩
        · have : (((m % 2 : Nat) : Int) == 1) = false := by rw [show m % 2 = 0 by omega]; rfl
          simp only [this, cF, thenA n a (by omega) ha, Option.bind_some]
        · simp only
          rw [← hz2]; exact hb
        · simp only [Int.toNat_natCast]; omega
    · right
      have hm0 : m = 0 := by omega
      subst hm0
      exact ⟨_, Ev.const fun n => rfl, s1, s2, s3, s4, rfl, s6⟩
theorem steadyFull (S C : Int) (c1 : 1 ≤ C) (c2 : C ≤ 6000) (s1 : 100 ≤ S) (s2 : S ≤ 1100) : Ev (fun n => queue_Steady n (100, S, 0, C, C)) (0, true) := by
  obtain ⟨k, rfl⟩ := Int.eq_ofNat_of_zero_le (show 0 ≤ C by omega)
  have hR : rightB 100 S (k : Int) = true := rightB_iff.2 ⟨⟨c1, c2⟩, by omega, by omega, by omega, by omega⟩
  have hsv : ∀ n, queue_Serves n (100, S, 0, (k : Int), (k : Int)) = some true := fun n => by
    unfold queue_Serves
    have b1 : (100 : Int) * (k : Int) ≤ S * (k : Int) := Int.mul_le_mul_of_nonneg_right s1 (by omega)
    have b2 : S * (k : Int) ≤ 1100 * (k : Int) := Int.mul_le_mul_of_nonneg_right s2 (by omega)
    simp only [show ∀ n, queue_Right n (100, S, 0, (k : Int), (k : Int)) = some (rightB 100 S (k : Int)) from fun n => qright_ n 100 S k (0, (k : Int)), Option.bind_some, hR, cT, normFull _ _ c1 c2]
    generalize S * (k : Int) = w at b1 b2
    rw [wrap64_id (n := 100 * (k : Int)) (by omega) (by omega), wrap64_id (n := w) (by omega) (by omega), decide_eq_true b1]
  have hd : -6000000 ≤ (k : Int) * (100 - S) := by
    have := Int.mul_le_mul_of_nonneg_left (show -1000 ≤ 100 - S by omega) (show (0 : Int) ≤ (k : Int) by omega)
    generalize (k : Int) * (100 - S) = w at this ⊢
    omega
  obtain ⟨e, he, t1, t2, t3, t4, t5, t6⟩ := etimes_ (100 - S) k (by omega) hd (by omega)
  have htick : ∀ n, queue_tick n (100, S) = some (100 - S, 0, 0, 0) := fun n => by
    unfold queue_tick
    have w : wrap64 (100 - S) = 100 - S := wrap64_id (by omega) (by omega)
    simp only [w, mx_eq, decide_eq_true (show (0 : Int) < S by omega), cT, show max 0 (100 - S) = (0 : Int) by omega]
  have hrow : Ev (fun n => queue_row n (100, S, 0, (k : Int), (k : Int), true, (k : Int))) e := by
    unfold queue_row
    simp only [cT]
    exact Ev.bindS htick (Ev.bind he (Ev.ret _))
  have hun : ∀ n, queue_until n (100, S, 0, (k : Int), (k : Int), 0) = some (true, (k : Int)) := fun n => by
    unfold queue_until
    have e1 : ((k : Int) == 0) = false := by rw [beq_eq_false_iff_ne]; omega
    have w : wrap64 ((k : Int) - 0) = (k : Int) := by rw [wrap64_id (by omega) (by omega)]; omega
    simp only [normFull _ _ c1 c2, Option.bind_some, letJ, e1, cF, beq_self_eq_true, cT, w, decide_eq_true (show (0 : Int) < (k : Int) by omega)]
  obtain ⟨f, hf⟩ : ∃ f : Int × Int × Int × Int, f = (wrap64 (0 + e.1), mx (wrap64 (-2305843009213693952 + e.1)) e.2.1, mx 0 (wrap64 (0 + e.2.2.1)), mx (mx (-2305843009213693952) (wrap64 (-2305843009213693952 + e.2.2.1))) e.2.2.2) := ⟨_, rfl⟩
  have hthen : ∀ n, queue_effect_then n (0, -2305843009213693952, 0, -2305843009213693952, e) = some f := fun n => by rw [hf]; rfl
  have f0 : max 0 f.2.1 = 0 := by
    rw [hf]
    simp only
    rw [mx_eq, wrap64_id (by omega) (by omega)]
    omega
  have hfrom : Ev (fun n => queue_from n (100, S, 0, (k : Int), (k : Int), 0, (k : Int))) f := by
    unfold queue_from
    refine Ev.bindS (a := (0, -2305843009213693952, 0, -2305843009213693952)) (fun n => rfl) ?_
    refine Ev.bind (a := (0, 0, 0, 0, f)) (Ev.loop (fun i => ((if i = 0 then (0 : Int) else (k : Int)), (k : Int), (100 : Int), S, (0 : Int), (k : Int), (k : Int), (0 : Int), (0 : Int), (0 : Int), (0 : Int), (if i = 0 then ((0 : Int), (-2305843009213693952 : Int), (0 : Int), (-2305843009213693952 : Int)) else f))) 1 _ rfl (fun i hi => ?_) ?_) (Ev.ret _)
    · obtain rfl : i = 0 := Nat.lt_one_iff.1 hi
      have w0 : wrap64 ((k : Int) - 0) = (k : Int) := by rw [wrap64_id (by omega) (by omega)]; omega
      have w1 : wrap64 (0 + (k : Int)) = (k : Int) := by rw [wrap64_id (by omega) (by omega)]; omega
      simp only [if_true, decide_eq_true (show (0 : Int) < (k : Int) by omega), cT, w0, mn_eq]
      refine Ev.bindS hun ?_
      simp only [Int.min_self, w1]
      refine Ev.bind hrow ?_
      refine Ev.bindS hthen ?_
      exact Ev.ret _
    · simp only [show (1 : Nat) = 0 ↔ False from ⟨by decide, False.elim⟩, if_false, decide_eq_false (show ¬ (k : Int) < (k : Int) by omega), cF]
      exact Ev.ret _
  have hall : Ev (fun n => queue_all n (100, S, 0, (k : Int), (k : Int), 0, (k : Int))) f := by
    unfold queue_all
    have e0 : (!((k : Int) == 0)) = true := by rw [Bool.not_eq_true', beq_eq_false_iff_ne]; omega
    have t0 : Int.tmod 0 (k : Int) = 0 := Int.zero_tmod _
    have w0 : wrap64 ((k : Int) - 0) = (k : Int) := by rw [wrap64_id (by omega) (by omega)]; omega
    have w1 : wrap64 (0 + (k : Int)) = (k : Int) := by rw [wrap64_id (by omega) (by omega)]; omega
    simp only [e0, cT, t0, w0, w1, decide_eq_true (show (k : Int) ≤ (k : Int) by omega)]
    exact Ev.bind hfrom (Ev.ret _)
  unfold queue_Steady
  refine Ev.bindS hsv ?_
  simp only [Bool.not_true, cF]
  refine Ev.bind hall ?_
  rw [mx_eq, f0]
  exact Ev.ret _
theorem still_ (S C t : Int) (c1 : 1 ≤ C) (s1 : 100 ≤ S) (i : Nat) : qa 100 S C (0, C) t 0 i = 0 := by
  induction i with
  | zero => rfl
  | succ i ih =>
    have hg : ∀ x, gr C (0, C) x = true := fun x => by unfold gr HasT; exact decide_eq_true (by simp only; omega)
    simp only [qa, ih, tk, hg, if_true]
    omega
theorem none_ (S C t : Int) (c1 : 1 ≤ C) (s1 : 100 ≤ S) (i : Nat) : tt 100 S C (0, C) t 0 i = 0 := by
  induction i with
  | zero => rfl
  | succ i ih =>
    simp only [tt, ih, still_ S C t c1 s1]
    omega
/-- The mean is nought. -/
theorem meanFull (S C : Int) (c1 : 1 ≤ C) (c2 : C ≤ 6000) (s1 : 100 ≤ S) (s2 : S ≤ 1100) : ∃ d : Int, Ev (fun n => delay_Mean n (100, S, 0, C, C)) (0, d, 0) := by
  have hR : rightB 100 S C = true := rightB_iff.2 ⟨⟨c1, c2⟩, by omega, by omega, by omega, by omega⟩
  have hT := total_ 100 S C 0 0 C (0, C) (.inl c2)
  have hb : badT 100 S C 0 0 C = false := by
    unfold badT
    rw [hR, decide_eq_false (show ¬ C < 0 by omega), decide_eq_false (show ¬ 1048576 < C by omega)]
    rfl
  have ht : tot26 100 S C (0, C) 0 0 C = (0, 0) := by
    unfold tot26
    rw [hb, if_neg Bool.false_ne_true, none_ S C 0 c1 s1]
  rw [ht] at hT
  have w : wrap64 (100 * C) = ((100 * C.toNat : Nat) : Int) := by rw [wrap64_id (by omega) (by omega)]; omega
  obtain ⟨p, q, k, r, _, _, _, _, _, _, _, x, _⟩ := redF_ok (N := 0) (D := 100 * C.toNat) (by clear w; omega) (by decide) (by clear w; omega)
  have hO := fofN 0 (100 * C.toNat) (by decide) (by clear w; omega) (by clear w; omega)
  obtain rfl : p = 0 := by clear w; omega
  rw [r] at hO
  refine ⟨(q : Int), ?_⟩
  unfold delay_Mean letJ
  refine Ev.bindS (fun n => qright_ n 100 S C (0, C)) ?_
  simp only [hR, Bool.not_true, cF]
  refine Ev.bind (steadyFull S C c1 c2 s1 s2) ?_
  simp only [Bool.not_true, cF, show ((100 : Int) == 0) = false from rfl, w]
  refine Ev.bind hT ?_
  simp only [show (!((0 : Int) == 0)) = false from rfl, cF]
  exact Ev.bind hO (Ev.ret _)
end Go.Proofs.YtiildimlelphhaaGreatDoor.Fn
