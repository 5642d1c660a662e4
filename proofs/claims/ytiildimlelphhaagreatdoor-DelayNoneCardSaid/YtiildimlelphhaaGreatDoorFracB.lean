/- Numbers of 128 bits: how often they can be halved, how long they are, greatest common divisors, quotients; fractions in lowest terms. -/
import Derived.Test.YtiildimlelphhaaGreatDoorFrac
namespace Go.Proofs.YtiildimlelphhaaGreatDoor.Fn
set_option linter.unusedVariables false
open Go Go.RowKit Go.Den Go.Circ

theorem tz_ (n : Nat) (x : Nat) (hx : x < 18446744073709551616) (h0 : 0 < x) : ∃ k m : Nat, math_bits_TrailingZeros64 n (x : Int) = some (k : Int) ∧ k < 64 ∧ x = 2 ^ k * (2 * m + 1) := by
  obtain ⟨m, hm, hk⟩ := Lib.ctzFrom_spec 64 x h0 (by omega)
  refine ⟨Lib.ctzFrom 64 x, m, ?_, hk, hm⟩
  rw [math_bits_TrailingZeros64_eq]
  unfold ctzF
  rw [if_pos ⟨by omega, by omega⟩, Int.toNat_natCast]
  unfold Lib.ctz
  rw [if_neg (by omega)]
theorem wtwos_ (n : Nat) (x : Nat) (hx : x < 340282366920938463463374607431768211456) (h0 : 0 < x) : ∃ k m : Nat, frac_wide_twos n (wd x) = some (k : Int) ∧ k < 128 ∧ x = 2 ^ k * (2 * m + 1) := by
  unfold frac_wide_twos wd
  simp only
  by_cases hl : x % 18446744073709551616 = 0
  · obtain ⟨k, m, h1, h2, h3⟩ := tz_ n (x / 18446744073709551616) (by omega) (by omega)
    refine ⟨64 + k, m, ?_, by omega, ?_⟩
    · rw [hl]
      simp only [show (((0 : Nat) : Int) == 0) = true from rfl, cond_true, h1, Option.bind_some]
      rw [wrap64_id (by omega) (by omega)]
      rfl
    · have : x = 2 ^ 64 * (x / 18446744073709551616) := by omega
      rw [this, h3, ← Nat.mul_assoc, ← Nat.pow_add]
  · obtain ⟨k, m, h1, h2, h3⟩ := tz_ n (x % 18446744073709551616) (by omega) (by omega)
    have e : (((x % 18446744073709551616 : Nat) : Int) == 0) = false := by rw [beq_eq_false_iff_ne]; omega
    refine ⟨k, m + 2 ^ (63 - k) * (x / 18446744073709551616), ?_, by omega, ?_⟩
    · simp only [e, cond_false, h1, Option.bind_some]
    · have hp : (2 : Nat) ^ 64 = 2 ^ k * (2 * 2 ^ (63 - k)) := by
        rw [← Nat.mul_assoc, Nat.mul_comm (2 ^ k) 2, ← Nat.pow_succ', ← Nat.pow_add, show k + 1 + (63 - k) = 64 by omega]
      obtain ⟨H, hH⟩ : ∃ H, x / 18446744073709551616 = H := ⟨_, rfl⟩
      have hx2 : x = 2 ^ 64 * H + x % 18446744073709551616 := by omega
      rw [h3, hp] at hx2
      rw [hH]
      generalize 2 ^ (63 - k) = P at hx2 ⊢
      rw [show 2 * (m + P * H) + 1 = 2 * P * H + (2 * m + 1) by rw [Nat.mul_assoc]; omega, Nat.mul_add, ← Nat.mul_assoc]
      exact hx2
theorem odd_cop {a : Nat} (h : a % 2 = 1) (k : Nat) : Nat.Coprime (2 ^ k) a := by
  apply Nat.Coprime.pow_left
  rw [Nat.Coprime, Nat.gcd_rec, h, Nat.gcd_one_left]
theorem gcd_odd {a : Nat} (h : a % 2 = 1) (k m : Nat) : Nat.gcd a (2 ^ k * m) = Nat.gcd a m := Nat.Coprime.gcd_mul_left_cancel_right m (odd_cop h k)
theorem gcd_twos {a b : Nat} (ha : a % 2 = 1) (hb : b % 2 = 1) (i j : Nat) : Nat.gcd (2 ^ i * a) (2 ^ j * b) = 2 ^ min i j * Nat.gcd a b := by
  by_cases h : i ≤ j
  · rw [Nat.min_eq_left h]
    have : 2 ^ j * b = 2 ^ i * (2 ^ (j - i) * b) := by rw [← Nat.mul_assoc, ← Nat.pow_add, show i + (j - i) = j by omega]
    rw [this, Nat.gcd_mul_left, gcd_odd ha]
  · rw [Nat.min_eq_right (by omega)]
    have : 2 ^ i * a = 2 ^ j * (2 ^ (i - j) * a) := by rw [← Nat.mul_assoc, ← Nat.pow_add, show j + (i - j) = i by omega]
    rw [this, Nat.gcd_mul_left, Nat.gcd_comm, gcd_odd hb, Nat.gcd_comm]
theorem wd_zero : wd 0 = (0, 0) := rfl
/-- The loop of frac.gcd. -/
theorem gcdLoop_ (tw : Int) (a b : Nat) (ha : a % 2 = 1) (hA : a < 340282366920938463463374607431768211456) (hB : b < 340282366920938463463374607431768211456) : Ev (fun n => iterL n (fun (x7 : Int × Int × Int × Int × Int × Int × Int) =>
    (frac_wide_zero n (x7.2.2.2.1, x7.2.2.2.2.1)).bind fun y8 =>
    bif !y8 then
      (frac_wide_twos n (x7.2.2.2.1, x7.2.2.2.2.1)).bind fun y9 =>
      (frac_wide_down n (x7.2.2.2.1, x7.2.2.2.2.1, y9)).bind fun y10 =>
      letJ (fun x12 =>
        (frac_wide_minus n (x12.2.2.2.1, x12.2.2.2.2.1, x12.2.1, x12.2.2.1)).bind fun y14 =>
        some (.inl (x12.1, x12.2.1, x12.2.2.1, y14.1, y14.2, x12.2.2.2.2.2))) fun J13 =>
      (frac_wide_cmp n (x7.2.1, x7.2.2.1, y10)).bind fun y11 =>
      bif decide (0 < y11) then
        J13 (x7.1, y10.1, y10.2, x7.2.1, x7.2.2.1, x7.2.2.2.2.2)
      else
      J13 (x7.1, x7.2.1, x7.2.2.1, y10.1, y10.2, x7.2.2.2.2.2)
    else
    some (.inr (x7.1, x7.2.1, x7.2.2.1, x7.2.2.2.2.2))) (tw, (wd a).1, (wd a).2, (wd b).1, (wd b).2, 0, 0)) (tw, (wd (Nat.gcd a b)).1, (wd (Nat.gcd a b)).2, 0, 0) := by
  refine Ev.iter (fun x => ∃ c d : Nat, c % 2 = 1 ∧ c < 340282366920938463463374607431768211456 ∧ d < 340282366920938463463374607431768211456 ∧ Nat.gcd c d = Nat.gcd a b ∧ x = (tw, (wd c).1, (wd c).2, (wd d).1, (wd d).2, 0, 0))
    (fun x => (x.2.1.toNat * 18446744073709551616 + x.2.2.1.toNat) + (x.2.2.2.1.toNat * 18446744073709551616 + x.2.2.2.2.1.toNat)) (fun _ => (tw, (wd (Nat.gcd a b)).1, (wd (Nat.gcd a b)).2, 0, 0)) ?_ _ ⟨a, b, ha, hA, hB, rfl, rfl⟩
  rintro x ⟨c, d, hc, hcA, hdB, hg, rfl⟩
  have hz : ∀ n, frac_wide_zero n ((wd d).1, (wd d).2) = some (decide (d = 0)) := fun n => wzero_ n d hdB
  have back : ∀ z : Nat, (wd z).1.toNat * 18446744073709551616 + (wd z).2.toNat = z := fun z => by unfold wd; simp only [Int.toNat_natCast]; omega
  by_cases hd : d = 0
  · right
    subst hd
    refine ⟨(tw, (wd c).1, (wd c).2, 0, 0), Ev.const fun n => ?_, ?_⟩
    · simp only [hz, Option.bind_some, decide_true, Bool.not_true, cond_false]
    · rw [← hg, Nat.gcd_zero_right]
  · left
    obtain ⟨k, m, _, hk, hd2⟩ := wtwos_ 0 d hdB (by omega)
    have ht : ∀ n, frac_wide_twos n ((wd d).1, (wd d).2) = some (k : Int) := fun n => by
      obtain ⟨k', m', h1, h2, h3⟩ := wtwos_ n d hdB (by omega)
      have : k' = k := by
        have h4 : 2 ^ k' * (2 * m' + 1) = 2 ^ k * (2 * m + 1) := by rw [← h3, ← hd2]
        rcases Nat.lt_trichotomy k' k with h | h | h
        · exfalso
          have e : 2 ^ k = 2 ^ k' * (2 * 2 ^ (k - k' - 1)) := by
            rw [← Nat.mul_assoc, Nat.mul_comm (2 ^ k') 2, ← Nat.pow_succ', ← Nat.pow_add, show k' + 1 + (k - k' - 1) = k by omega]
          rw [e, Nat.mul_assoc] at h4
          have := Nat.eq_of_mul_eq_mul_left (Nat.pow_pos (by decide)) h4
          rw [Nat.mul_assoc] at this
          omega
        · exact h
        · exfalso
          have e : 2 ^ k' = 2 ^ k * (2 * 2 ^ (k' - k - 1)) := by
            rw [← Nat.mul_assoc, Nat.mul_comm (2 ^ k) 2, ← Nat.pow_succ', ← Nat.pow_add, show k + 1 + (k' - k - 1) = k' by omega]
          rw [e, Nat.mul_assoc] at h4
          have := Nat.eq_of_mul_eq_mul_left (Nat.pow_pos (by decide)) h4
          rw [Nat.mul_assoc] at this
          omega
      rw [← this]; exact h1
    obtain ⟨o, ho⟩ : ∃ o, 2 * m + 1 = o := ⟨_, rfl⟩
    have ho1 : o % 2 = 1 := by omega
    have hdo : d / 2 ^ k = o := by rw [hd2, ho, Nat.mul_div_cancel_left _ (Nat.pow_pos (by decide))]
    have hod : o ≤ d := by rw [← hdo]; exact Nat.div_le_self _ _
    have hdown : ∀ n, frac_wide_down n ((wd d).1, (wd d).2, (k : Int)) = some (wd o) := fun n => by rw [wdown_ n d k hdB hk, hdo]
    have hgo : Nat.gcd c o = Nat.gcd a b := by rw [← hg, hd2, ho, gcd_odd hc]
    have hcmp : ∀ n, frac_wide_cmp n ((wd c).1, (wd c).2, (wd o)) = some (if c = o then 0 else if c < o then -1 else 1) := fun n => wcmp_ n c o
    by_cases hgt : o < c
    · refine ⟨(tw, (wd o).1, (wd o).2, (wd (c - o)).1, (wd (c - o)).2, 0, 0), Ev.const fun n => ?_, ⟨o, c - o, ho1, by omega, by omega, ?_, rfl⟩, ?_, rfl⟩
      · have e : decide ((0 : Int) < if c = o then 0 else if c < o then -1 else 1) = true := by rw [if_neg (by omega), if_neg (by omega)]; rfl
        simp only [hz, Option.bind_some, decide_eq_false hd, Bool.not_false, cond_true, ht, hdown, hcmp, e, letJ]
        rw [wminus_ n c o hcA (by omega)]
        rfl
      · rw [Nat.gcd_sub_self_right (by omega), Nat.gcd_comm, hgo]
      · simp only [back]; omega
    · refine ⟨(tw, (wd c).1, (wd c).2, (wd (o - c)).1, (wd (o - c)).2, 0, 0), Ev.const fun n => ?_, ⟨c, o - c, hc, hcA, by omega, ?_, rfl⟩, ?_, rfl⟩
      · have e : decide ((0 : Int) < if c = o then 0 else if c < o then -1 else 1) = false := by
          by_cases h : c = o
          · rw [if_pos h]; rfl
          · rw [if_neg h, if_pos (by omega)]; rfl
        simp only [hz, Option.bind_some, decide_eq_false hd, Bool.not_false, cond_true, cond_false, ht, hdown, hcmp, e, letJ]
        rw [wminus_ n o c (by omega) (by omega)]
        rfl
      · rw [Nat.gcd_sub_self_right (by omega), hgo]
      · simp only [back]; omega
theorem gcd_ (a b : Nat) (hA : a < 340282366920938463463374607431768211456) (hB : b < 340282366920938463463374607431768211456) : Ev (fun n => frac_gcd n ((wd a).1, (wd a).2, (wd b).1, (wd b).2)) (wd (Nat.gcd a b)) := by
  unfold frac_gcd
  refine Ev.bindS (fun n => wzero_ n a hA) ?_
  by_cases h0 : a = 0
  · subst h0
    simp only [decide_true, cond_true, Nat.gcd_zero_left]
    exact Ev.ret _
  simp only [decide_eq_false h0, cond_false]
  refine Ev.bindS (fun n => wzero_ n b hB) ?_
  by_cases h1 : b = 0
  · subst h1
    simp only [decide_true, cond_true, Nat.gcd_zero_right]
    exact Ev.ret _
  simp only [decide_eq_false h1, cond_false]
  -- how often each can be halved
  have tz : ∀ z : Nat, z < 340282366920938463463374607431768211456 → 0 < z → ∃ k m : Nat, (∀ n, frac_wide_twos n (wd z) = some (k : Int)) ∧ k < 128 ∧ z = 2 ^ k * (2 * m + 1) := by
    intro z hz hz0
    obtain ⟨k, m, h1, h2, h3⟩ := wtwos_ 0 z hz hz0
    refine ⟨k, m, fun n => ?_, h2, h3⟩
    rw [← h1]
    unfold frac_wide_twos
    simp only [math_bits_TrailingZeros64_eq]
  obtain ⟨i, p, hi, hi2, hap⟩ := tz a hA (by omega)
  obtain ⟨j, q, hj, hj2, hbq⟩ := tz b hB (by omega)
  obtain ⟨a1, ha1⟩ : ∃ a1, 2 * p + 1 = a1 := ⟨_, rfl⟩
  obtain ⟨b1, hb1⟩ : ∃ b1, 2 * q + 1 = b1 := ⟨_, rfl⟩
  have hao : a1 % 2 = 1 := by omega
  have hbo : b1 % 2 = 1 := by omega
  have hda : a / 2 ^ i = a1 := by rw [hap, ha1, Nat.mul_div_cancel_left _ (Nat.pow_pos (by decide))]
  have ha1A : a1 < 340282366920938463463374607431768211456 := by rw [← hda]; exact Nat.lt_of_le_of_lt (Nat.div_le_self _ _) hA
  refine Ev.bindS hi ?_
  refine Ev.bindS hj ?_
  refine Ev.bindS hi ?_
  refine Ev.bindS (fun n => (wdown_ n a i hA hi2).trans (by rw [hda])) ?_
  have hmin : mn (i : Int) (j : Int) = ((min i j : Nat) : Int) := by rw [mn_eq]; omega
  simp only [hmin]
  refine Ev.bind (gcdLoop_ _ a1 b hao ha1A hB) ?_
  have hg : 2 ^ min i j * Nat.gcd a1 b = Nat.gcd a b := by
    have e1 : Nat.gcd a1 b = Nat.gcd a1 b1 := by rw [hbq, hb1, gcd_odd hao]
    rw [e1, ← gcd_twos hao hbo i j, ← ha1, ← hb1, ← hap, ← hbq]
  have hle : Nat.gcd a b ≤ a := Nat.le_of_dvd (by omega) (Nat.gcd_dvd_left a b)
  refine Ev.bindS (fun n => wup_ n (Nat.gcd a1 b) (min i j) (by omega) (by rw [Nat.mul_comm, hg]; omega)) ?_
  rw [Nat.mul_comm, hg]
  exact Ev.ret _
end Go.Proofs.YtiildimlelphhaaGreatDoor.Fn
