/- Numbers of 128 bits, as chapter 2's program has them: what each of its functions computes. -/
import Derived.Test.YtiildimlelphhaaGreatDoorWhole
import Derived.Test.YtiildimlelphhaaGreatDoorLibF
namespace Go.Proofs.YtiildimlelphhaaGreatDoor.Fn
set_option linter.unusedVariables false
open Go Go.RowKit Go.Den Go.Circ

def wd (x : Nat) : Int × Int := (((x / 18446744073709551616 : Nat) : Int), ((x % 18446744073709551616 : Nat) : Int))
theorem or_nat (a b : Nat) (ha : a < 18446744073709551616) (hb : b < 18446744073709551616) : bits2 .or .u64 (a : Int) (b : Int) = ((a ||| b : Nat) : Int) := by
  have e : (BitVec.ofInt 64 (a : Int) ||| BitVec.ofInt 64 (b : Int)).toNat = a ||| b := by
    rw [BitVec.toNat_or]
    have e1 : (BitVec.ofInt 64 (a : Int)).toNat = a := by rw [BitVec.toNat_ofInt]; omega
    have e2 : (BitVec.ofInt 64 (b : Int)).toNat = b := by rw [BitVec.toNat_ofInt]; omega
    rw [e1, e2]
  have hlt : a ||| b < 2 ^ 64 := Nat.or_lt_two_pow (by omega) (by omega)
  show IntKind.u64.wrap ((BitVec.ofInt 64 (a : Int) ||| BitVec.ofInt 64 (b : Int)).toNat : Int) = _
  rw [e, wu64]
  omega
theorem or_add {a b k : Nat} (hb : b < 2 ^ k) : 2 ^ k * a ||| b = 2 ^ k * a + b := (Nat.two_pow_add_eq_or_of_lt hb a).symm
theorem pow_int (k : Nat) : ((2 : Int) ^ k) = ((2 ^ k : Nat) : Int) := by rw [Int.natCast_pow]; rfl
theorem shl_nat (a k : Nat) (hk : k ≤ 64) : shl .u64 (a : Int) (k : Int) = ((a * 2 ^ k % 18446744073709551616 : Nat) : Int) := by
  unfold shl
  have e : min (k : Int).toNat IntKind.u64.bits = k := by simp only [Int.toNat_natCast, IntKind.bits]; omega
  rw [e, pow_int]
  show IntKind.wrap .u64 _ = _
  rw [wu64, ← Int.natCast_mul]
  rfl
theorem shr_nat (a k : Nat) (hk : k ≤ 64) : shr .u64 (a : Int) (k : Int) = ((a / 2 ^ k : Nat) : Int) := by
  unfold shr
  have e : min (k : Int).toNat IntKind.u64.bits = k := by simp only [Int.toNat_natCast, IntKind.bits]; omega
  have h0 : (0 : Int) ≤ ((2 ^ k : Nat) : Int) := Int.natCast_nonneg _
  rw [e, pow_int, Int.fdiv_eq_ediv_of_nonneg _ h0]
  rfl
theorem wzero_ (n : Nat) (x : Nat) (hx : x < 340282366920938463463374607431768211456) : frac_wide_zero n (wd x) = some (decide (x = 0)) := by
  unfold frac_wide_zero wd
  simp only
  rw [or_nat _ _ (by omega) (by omega)]
  congr 1
  by_cases h : x = 0
  · subst h; rfl
  · rw [decide_eq_false h, beq_eq_false_iff_ne]
    have h1 := Nat.left_le_or (n := x / 18446744073709551616) (m := x % 18446744073709551616)
    have h2 := Nat.right_le_or (n := x / 18446744073709551616) (m := x % 18446744073709551616)
    omega
theorem wcmp_ (n : Nat) (x y : Nat) : frac_wide_cmp n ((wd x).1, (wd x).2, (wd y).1, (wd y).2) = some (if x = y then 0 else if x < y then -1 else 1) := by
  unfold frac_wide_cmp wd letJ
  simp only
  by_cases h1 : x / 18446744073709551616 = y / 18446744073709551616
  · have e1 : (((x / 18446744073709551616 : Nat) : Int) == ((y / 18446744073709551616 : Nat) : Int)) = true := by rw [h1]; simp
    have e2 : decide (((x / 18446744073709551616 : Nat) : Int) < ((y / 18446744073709551616 : Nat) : Int)) = false := by rw [h1]; simp
    by_cases h2 : x % 18446744073709551616 = y % 18446744073709551616
    · have e3 : (((x % 18446744073709551616 : Nat) : Int) == ((y % 18446744073709551616 : Nat) : Int)) = true := by rw [h2]; simp
      rw [if_pos (by omega)]
      simp only [e1, e3, Bool.and_true, Bool.true_and, cond_true]
    · have e3 : (((x % 18446744073709551616 : Nat) : Int) == ((y % 18446744073709551616 : Nat) : Int)) = false := by rw [beq_eq_false_iff_ne]; omega
      rw [if_neg (by omega)]
      simp only [e1, e2, e3, Bool.and_true, Bool.true_and, cond_true, cond_false]
      by_cases h3 : x < y
      · rw [if_pos h3, decide_eq_true (by omega)]; rfl
      · rw [if_neg h3, decide_eq_false (by omega)]; rfl
  · have e1 : (((x / 18446744073709551616 : Nat) : Int) == ((y / 18446744073709551616 : Nat) : Int)) = false := by rw [beq_eq_false_iff_ne]; omega
    rw [if_neg (by omega)]
    simp only [e1, Bool.false_and, cond_false]
    by_cases h3 : x < y
    · rw [if_pos h3, decide_eq_true (by omega)]; rfl
    · rw [if_neg h3, decide_eq_false (by omega)]; rfl
theorem wminus_ (n : Nat) (x y : Nat) (hx : x < 340282366920938463463374607431768211456) (h : y ≤ x) : frac_wide_minus n ((wd x).1, (wd x).2, (wd y).1, (wd y).2) = some (wd (x - y)) := by
  rw [frac_wide_minus_eq]
  unfold minusF wd
  have u : ∀ z : Nat, z < 18446744073709551616 → u64ok (z : Int) = true := fun z hz => by simp [u64ok]; omega
  simp only [u _ (show x / 18446744073709551616 < 18446744073709551616 by omega), u _ (show y / 18446744073709551616 < 18446744073709551616 by omega), u _ (show x % 18446744073709551616 < 18446744073709551616 by omega), u _ (show y % 18446744073709551616 < 18446744073709551616 by omega), Bool.and_self, if_true]
  unfold subHi subLo
  congr 2
  · split <;> omega
  · omega
theorem wdown_ (n : Nat) (x k : Nat) (hx : x < 340282366920938463463374607431768211456) (hk : k < 128) : frac_wide_down n ((wd x).1, (wd x).2, (k : Int)) = some (wd (x / 2 ^ k)) := by
  unfold frac_wide_down wd
  simp only
  by_cases h : 64 ≤ k
  · have e0 : decide ((64 : Int) ≤ k) = true := by simp; omega
    have e1 : wrap64 ((k : Int) - 64) = ((k - 64 : Nat) : Int) := by rw [wrap64_id (by omega) (by omega)]; omega
    have e2 : decide ((0 : Int) ≤ ((k - 64 : Nat) : Int)) = true := by simp
    simp only [e0, e1, e2, cond_true]
    rw [shr_nat _ _ (by omega), Nat.div_div_eq_div_mul, show (18446744073709551616 : Nat) = 2 ^ 64 from rfl, ← Nat.pow_add, show 64 + (k - 64) = k by omega]
    have hlt : x / 2 ^ k < 2 ^ 64 := by
      rw [Nat.div_lt_iff_lt_mul (Nat.pow_pos (by decide)), ← Nat.pow_add]
      have : 2 ^ 128 ≤ 2 ^ (64 + k) := Nat.pow_le_pow_right (by decide) (by omega)
      omega
    rw [Nat.div_eq_of_lt hlt, Nat.mod_eq_of_lt hlt]
    rfl
  · have e0 : decide ((64 : Int) ≤ k) = false := by simp; omega
    have e1 : wrap64 (64 - (k : Int)) = ((64 - k : Nat) : Int) := by rw [wrap64_id (by omega) (by omega)]; omega
    have e2 : decide ((0 : Int) ≤ (k : Int)) = true := by simp
    have e3 : decide ((0 : Int) ≤ ((64 - k : Nat) : Int)) = true := by simp
    simp only [e0, e1, e2, e3, cond_true, cond_false]
    rw [shr_nat _ _ (by omega), shr_nat _ _ (by omega), shl_nat _ _ (by omega)]
    obtain ⟨h1, hh1⟩ : ∃ h1, x / 18446744073709551616 = h1 := ⟨_, rfl⟩
    obtain ⟨l1, hl1⟩ : ∃ l1, x % 18446744073709551616 = l1 := ⟨_, rfl⟩
    rw [hh1, hl1]
    have hp : (18446744073709551616 : Nat) = 2 ^ (64 - k) * 2 ^ k := by rw [← Nat.pow_add, show 64 - k + k = 64 by omega]
    have hpos : 0 < 2 ^ k := Nat.pow_pos (by decide)
    have hll : l1 / 2 ^ k < 2 ^ (64 - k) := by rw [Nat.div_lt_iff_lt_mul hpos, ← hp]; omega
    have hxe : x / 2 ^ k = 2 ^ (64 - k) * h1 + l1 / 2 ^ k := by
      have : x = 2 ^ k * (2 ^ (64 - k) * h1) + l1 := by
        rw [← Nat.mul_assoc, Nat.mul_comm (2 ^ k), ← hp]; omega
      rw [this, Nat.mul_add_div hpos]
    have hmod : h1 * 2 ^ (64 - k) % 18446744073709551616 = 2 ^ (64 - k) * (h1 % 2 ^ k) := by
      rw [hp, Nat.mul_comm h1, Nat.mul_mod_mul_left]
    have hle : 2 ^ (64 - k) ≤ 2 ^ 64 := Nat.pow_le_pow_right (by decide) (by omega)
    have hl64 : l1 / 2 ^ k < 18446744073709551616 := Nat.lt_of_lt_of_le hll hle
    rw [hmod, or_nat _ _ hl64 (by rw [← hmod]; exact Nat.mod_lt _ (by decide)), Nat.or_comm, or_add hll, hxe]
    have hd : (2 ^ (64 - k) * h1 + l1 / 2 ^ k) / 18446744073709551616 = h1 / 2 ^ k := by
      rw [hp, ← Nat.div_div_eq_div_mul, Nat.mul_add_div (Nat.pow_pos (by decide)), Nat.div_eq_of_lt hll, Nat.add_zero]
    have hm : (2 ^ (64 - k) * h1 + l1 / 2 ^ k) % 18446744073709551616 = 2 ^ (64 - k) * (h1 % 2 ^ k) + l1 / 2 ^ k := by
      have hb : 2 ^ (64 - k) * (h1 % 2 ^ k) + l1 / 2 ^ k < 18446744073709551616 := by
        have : h1 % 2 ^ k + 1 ≤ 2 ^ k := Nat.mod_lt _ hpos
        have h3 := Nat.mul_le_mul_left (2 ^ (64 - k)) this
        rw [← hp, Nat.mul_add, Nat.mul_one] at h3
        omega
      have : 2 ^ (64 - k) * h1 + l1 / 2 ^ k = 18446744073709551616 * (h1 / 2 ^ k) + (2 ^ (64 - k) * (h1 % 2 ^ k) + l1 / 2 ^ k) := by
        have h4 := Nat.div_add_mod h1 (2 ^ k)
        have h5 : 2 ^ (64 - k) * h1 = 2 ^ (64 - k) * (2 ^ k * (h1 / 2 ^ k)) + 2 ^ (64 - k) * (h1 % 2 ^ k) := by rw [← Nat.mul_add, h4]
        rw [h5, ← Nat.mul_assoc, ← hp]
        omega
      rw [this, Nat.mul_add_mod, Nat.mod_eq_of_lt hb]
    rw [hd, hm]
theorem wup_ (n : Nat) (x k : Nat) (hk : k < 128) (hx : x * 2 ^ k < 340282366920938463463374607431768211456) : frac_wide_up n ((wd x).1, (wd x).2, (k : Int)) = some (wd (x * 2 ^ k)) := by
  unfold frac_wide_up wd
  simp only
  have hposk : 0 < 2 ^ k := Nat.pow_pos (by decide)
  have hx0 : x < 340282366920938463463374607431768211456 := Nat.lt_of_le_of_lt (Nat.le_mul_of_pos_right x hposk) hx
  by_cases h : 64 ≤ k
  · have e0 : decide ((64 : Int) ≤ k) = true := by simp; omega
    have e1 : wrap64 ((k : Int) - 64) = ((k - 64 : Nat) : Int) := by rw [wrap64_id (by omega) (by omega)]; omega
    have e2 : decide ((0 : Int) ≤ ((k - 64 : Nat) : Int)) = true := by simp
    simp only [e0, e1, e2, cond_true]
    have hxs : x < 2 ^ 64 := by
      apply Nat.lt_of_not_le
      intro hle
      have h1 : 2 ^ 64 * 2 ^ 64 ≤ x * 2 ^ k := Nat.mul_le_mul hle (Nat.pow_le_pow_right (by decide) h)
      have : (2 : Nat) ^ 64 * 2 ^ 64 = 340282366920938463463374607431768211456 := by decide
      omega
    have hkk : 2 ^ k = 2 ^ (k - 64) * 2 ^ 64 := by rw [← Nat.pow_add, show k - 64 + 64 = k by omega]
    have e3 : x * 2 ^ k = (x * 2 ^ (k - 64)) * 2 ^ 64 := by rw [hkk, Nat.mul_assoc]
    rw [shl_nat _ _ (by omega), Nat.mod_eq_of_lt (show x < 18446744073709551616 by omega), e3]
    rw [e3] at hx
    have hlt : x * 2 ^ (k - 64) < 18446744073709551616 := by omega
    rw [Nat.mod_eq_of_lt hlt, show (18446744073709551616 : Nat) = 2 ^ 64 from rfl, Nat.mul_div_cancel _ (by decide), Nat.mul_mod_left]
    rfl
  · have e0 : decide ((64 : Int) ≤ k) = false := by simp; omega
    have e1 : wrap64 (64 - (k : Int)) = ((64 - k : Nat) : Int) := by rw [wrap64_id (by omega) (by omega)]; omega
    have e2 : decide ((0 : Int) ≤ (k : Int)) = true := by simp
    have e3 : decide ((0 : Int) ≤ ((64 - k : Nat) : Int)) = true := by simp
    simp only [e0, e1, e2, e3, cond_true, cond_false]
    rw [shl_nat _ _ (by omega), shr_nat _ _ (by omega), shl_nat _ _ (by omega)]
    obtain ⟨h1, hh1⟩ : ∃ h1, x / 18446744073709551616 = h1 := ⟨_, rfl⟩
    obtain ⟨l1, hl1⟩ : ∃ l1, x % 18446744073709551616 = l1 := ⟨_, rfl⟩
    rw [hh1, hl1]
    have hp : (18446744073709551616 : Nat) = 2 ^ k * 2 ^ (64 - k) := by rw [← Nat.pow_add, show k + (64 - k) = 64 by omega]
    have hxe : x = 18446744073709551616 * h1 + l1 := by omega
    have hll : l1 < 18446744073709551616 := by omega
    have hxk : x * 2 ^ k = 18446744073709551616 * (h1 * 2 ^ k) + l1 * 2 ^ k := by rw [hxe, Nat.add_mul, Nat.mul_assoc]
    have hq : l1 / 2 ^ (64 - k) < 2 ^ k := by rw [Nat.div_lt_iff_lt_mul (Nat.pow_pos (by decide)), ← hp]; exact hll
    have hd : l1 * 2 ^ k / 18446744073709551616 = l1 / 2 ^ (64 - k) := by
      rw [hp, Nat.mul_comm l1, Nat.mul_div_mul_left _ _ hposk]
    have hh : h1 * 2 ^ k < 18446744073709551616 := by rw [hxk] at hx; omega
    have e4 : h1 * 2 ^ k % 18446744073709551616 = 2 ^ k * h1 := by rw [Nat.mod_eq_of_lt hh, Nat.mul_comm]
    rw [e4, or_nat _ _ (by rw [Nat.mul_comm]; exact hh) (by have : (2 : Nat) ^ k ≤ 2 ^ 64 := Nat.pow_le_pow_right (by decide) (by omega); omega), or_add hq, hxk]
    have e5 : (18446744073709551616 * (h1 * 2 ^ k) + l1 * 2 ^ k) / 18446744073709551616 = 2 ^ k * h1 + l1 / 2 ^ (64 - k) := by
      rw [Nat.mul_add_div (by decide), hd, Nat.mul_comm h1]
    have e6 : (18446744073709551616 * (h1 * 2 ^ k) + l1 * 2 ^ k) % 18446744073709551616 = l1 * 2 ^ k % 18446744073709551616 := by rw [Nat.mul_add_mod]
    rw [e5, e6]
end Go.Proofs.YtiildimlelphhaaGreatDoor.Fn
