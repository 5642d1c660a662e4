/- Whole numbers that do not go round: products, sums, 128 bits. -/
import Derived.Test.YtiildimlelphhaaGreatDoorCircRef
import Derived.Lib.Mul64
namespace Go.Proofs.YtiildimlelphhaaGreatDoor.Fn
set_option linter.unusedVariables false
open Go Go.RowKit Go.Den Go.Circ

theorem wu64 (n : Int) : IntKind.wrap .u64 n = n % 18446744073709551616 := IntKind.wrap_u64 n
theorem and_mask (x : Nat) (hx : x < 18446744073709551616) : bits2 .and .u64 (x : Int) 4294967295 = ((x % 4294967296 : Nat) : Int) := by
  have e : (BitVec.ofInt 64 (x : Int) &&& BitVec.ofInt 64 4294967295).toNat = x % 4294967296 := by
    rw [BitVec.toNat_and]
    have e1 : (BitVec.ofInt 64 (x : Int)).toNat = x := by rw [BitVec.toNat_ofInt]; omega
    have e2 : (BitVec.ofInt 64 4294967295).toNat = 4294967295 := by decide
    rw [e1, e2]
    exact Nat.and_two_pow_sub_one_eq_mod x 32
  show IntKind.u64.wrap ((BitVec.ofInt 64 (x : Int) &&& BitVec.ofInt 64 4294967295).toNat : Int) = _
  rw [e, wu64]
  omega
theorem shr32 (x : Int) : shr .u64 x 32 = x / 4294967296 := by
  unfold shr
  rw [Int.fdiv_eq_ediv_of_nonneg _ (by decide)]
  rfl
theorem mul64_ (n : Nat) (x y : Nat) (hx : x < 18446744073709551616) (hy : y < 18446744073709551616) : math_bits_Mul64 n ((x : Int), (y : Int)) = some (((x * y / 18446744073709551616 : Nat) : Int), ((x * y % 18446744073709551616 : Nat) : Int)) := by
  obtain ⟨h1, h2, h3, h4⟩ := Go.Lib.mul64_hi x y hx hy
  have a1 : shr .u64 (x : Int) 32 = ((x / 4294967296 : Nat) : Int) := by rw [shr32]; omega
  have a2 : shr .u64 (y : Int) 32 = ((y / 4294967296 : Nat) : Int) := by rw [shr32]; omega
  have m1 := and_mask x hx
  have m2 := and_mask y hy
  unfold math_bits_Mul64
  simp only [show decide ((0 : Int) ≤ 32) = true from rfl, cond_true, a1, a2, m1, m2]
  have e0 : IntKind.wrap .u64 ((x : Int) * (y : Int)) = ((x * y % 18446744073709551616 : Nat) : Int) := by rw [wu64, ← Int.natCast_mul]; omega
  rw [e0, ← h4]
  generalize hX1 : x / 4294967296 = X1 at *
  generalize hX0 : x % 4294967296 = X0 at *
  generalize hY1 : y / 4294967296 = Y1 at *
  generalize hY0 : y % 4294967296 = Y0 at *
  have k1 : X1 * Y0 < 18446744073709551616 := by omega
  have k2 : X0 * Y1 < 18446744073709551616 := by omega
  have k3 : X1 * Y1 < 18446744073709551616 := by
    have : x * y / 18446744073709551616 < 18446744073709551616 := by
      have : x * y < 18446744073709551616 * 18446744073709551616 := Nat.mul_lt_mul'' hx hy
      omega
    omega
  have w : ∀ a b : Nat, a * b < 18446744073709551616 → IntKind.wrap .u64 ((a : Int) * (b : Int)) = ((a * b : Nat) : Int) := fun a b h => by rw [wu64, ← Int.natCast_mul]; omega
  rw [w X1 Y0 k1, w X0 Y0 h1, w X0 Y1 k2, w X1 Y1 k3]
  have hlast : X1 * Y1 + (X1 * Y0 + X0 * Y0 / 4294967296) / 4294967296 + ((X1 * Y0 + X0 * Y0 / 4294967296) % 4294967296 + X0 * Y1) / 4294967296 < 18446744073709551616 := by
    rw [h4]
    have : x * y < 18446744073709551616 * 18446744073709551616 := Nat.mul_lt_mul'' hx hy
    omega
  generalize X1 * Y0 = p at *
  generalize X0 * Y0 = q at *
  generalize X0 * Y1 = r at *
  generalize X1 * Y1 = s at *
  have e5 : IntKind.wrap .u64 ((p : Int) + shr .u64 (q : Int) 32) = ((p + q / 4294967296 : Nat) : Int) := by rw [shr32, wu64]; omega
  rw [e5, and_mask _ h2]
  have e6 : IntKind.wrap .u64 (((((p + q / 4294967296) % 4294967296 : Nat)) : Int) + (r : Int)) = (((p + q / 4294967296) % 4294967296 + r : Nat) : Int) := by rw [wu64]; omega
  rw [e6]
  have e7 : IntKind.wrap .u64 ((s : Int) + shr .u64 (((p + q / 4294967296 : Nat)) : Int) 32) = ((s + (p + q / 4294967296) / 4294967296 : Nat) : Int) := by rw [shr32, wu64]; omega
  rw [e7]
  have e8 : IntKind.wrap .u64 (((s + (p + q / 4294967296) / 4294967296 : Nat) : Int) + shr .u64 ((((p + q / 4294967296) % 4294967296 + r : Nat)) : Int) 32) = ((s + (p + q / 4294967296) / 4294967296 + ((p + q / 4294967296) % 4294967296 + r) / 4294967296 : Nat) : Int) := by
    rw [shr32, wu64]
    generalize (p + q / 4294967296) / 4294967296 = u at hlast ⊢
    generalize (p + q / 4294967296) % 4294967296 + r = v at hlast ⊢
    clear e5 e6 e7 h4 h3 h2 h1 m1 m2 a1 a2 e0
    omega
  rw [e8]
  rfl
theorem size_ (n : Nat) (a : Int) (h : I64 a) : whole_size n a = some (a.natAbs : Int) := by
  unfold whole_size
  have := h.1; have := h.2
  by_cases ha : a < 0
  · simp only [ha, decide_true, cond_true]
    rw [wu64, wu64]; congr 1; omega
  · simp only [ha, decide_false, cond_false]
    rw [wu64]; congr 1; omega
theorem product_ (n : Nat) (a b : Int) (ha : I64 a) (hb : I64 b) : whole_product n (a, b) = some (((a.natAbs * b.natAbs / 18446744073709551616 : Nat) : Int), ((a.natAbs * b.natAbs % 18446744073709551616 : Nat) : Int)) := by
  unfold whole_product
  have := ha.1; have := ha.2; have := hb.1; have := hb.2
  simp only [size_ n a ha, size_ n b hb, Option.bind_some, mul64_ n a.natAbs b.natAbs (by omega) (by omega)]
def signOf (a b : Int) : Int := if a = 0 ∨ b = 0 then 0 else if (a < 0) ≠ (b < 0) then -1 else 1
theorem sign_ (n : Nat) (a b : Int) : whole_sign n (a, b) = some (signOf a b) := by
  unfold whole_sign letJ signOf
  by_cases ha : a = 0
  · simp [ha]
  · by_cases hb : b = 0
    · simp [hb, ha]
    · have ea : (a == 0) = false := by simpa using ha
      have eb : (b == 0) = false := by simpa using hb
      by_cases h1 : a < 0 <;> by_cases h2 : b < 0 <;> simp [ha, hb, h1, h2, ea, eb]
theorem signed_ (n : Nat) (u : Nat) (s : Int) : whole_signed n ((u : Int), s) = some (if s < 0 ∧ u ≤ 9223372036854775808 then (-(u : Int), 0) else if u ≤ 9223372036854775807 then ((u : Int), 0) else (0, 2)) := by
  unfold whole_signed letJ
  by_cases hs : s < 0
  · simp only [hs, decide_true, cond_true]
    by_cases hu : u ≤ 9223372036854775808
    · rw [if_pos ⟨trivial, hu⟩]
      have : decide ((u : Int) ≤ 9223372036854775808) = true := by simp; omega
      rw [this, cond_true, wu64]
      have e : wrap64 ((0 - (u : Int)) % 18446744073709551616) = -(u : Int) := by
        by_cases h0 : u = 0
        · subst h0
          have : (0 - ((0 : Nat) : Int)) % 18446744073709551616 = 0 := by omega
          rw [this, wrap64_id (by omega) (by omega)]; rfl
        · rw [← IntWalk.i64_left]
          simp only [IntKind.wrap, IntKind.signed, IntKind.bits]
          have : (0 - (u : Int)) % 18446744073709551616 = 18446744073709551616 - u := by omega
          rw [this]
          by_cases h : (18446744073709551616 - (u : Int)) % 2 ^ 64 ≥ 2 ^ (64 - 1)
          · simp only [h, decide_true, Bool.and_self, if_true]; omega
          · simp only [h, decide_false, Bool.and_false, Bool.false_eq_true, if_false]; omega
      rw [e]
    · rw [if_neg fun h => hu h.2, if_neg (by omega)]
      have h1 : decide ((u : Int) ≤ 9223372036854775808) = false := by simp; omega
      have h2 : decide ((u : Int) ≤ 9223372036854775807) = false := by simp; omega
      rw [h1, cond_false, h2, cond_false]
  · simp only [hs, decide_false, cond_false, false_and, if_false]
    by_cases hu : u ≤ 9223372036854775807
    · rw [if_pos hu]
      have h2 : decide ((u : Int) ≤ 9223372036854775807) = true := by simp; omega
      rw [h2, cond_true, wrap64_id (by omega) (by omega)]
    · rw [if_neg hu]
      have h2 : decide ((u : Int) ≤ 9223372036854775807) = false := by simp; omega
      rw [h2, cond_false]
theorem signOf_mul (a b : Int) : (signOf a b < 0 → a * b = -((a.natAbs * b.natAbs : Nat) : Int)) ∧ (¬ signOf a b < 0 → a * b = ((a.natAbs * b.natAbs : Nat) : Int)) := by
  unfold signOf
  rw [← Int.natAbs_mul]
  by_cases h0 : a = 0 ∨ b = 0
  · rw [if_pos h0]
    have : a * b = 0 := by rcases h0 with h | h <;> simp [h]
    rw [this]; exact ⟨fun _ => rfl, fun _ => rfl⟩
  · rw [if_neg h0]
    simp only [not_or] at h0
    by_cases h1 : a < 0 <;> by_cases h2 : b < 0
    · have := Int.mul_pos_of_neg_of_neg h1 h2
      simp only [h1, h2, ne_eq, not_true_eq_false, if_false]
      exact ⟨fun h => by omega, fun _ => by omega⟩
    · have := Int.mul_neg_of_neg_of_pos h1 (show 0 < b by omega)
      simp only [h1, h2, ne_eq]
      exact ⟨fun _ => by omega, fun h => by simp at h⟩
    · have := Int.mul_neg_of_pos_of_neg (show 0 < a by omega) h2
      simp only [h1, h2, ne_eq]
      exact ⟨fun _ => by omega, fun h => by simp at h⟩
    · have := Int.mul_pos (show 0 < a by omega) (show 0 < b by omega)
      simp only [h1, h2, ne_eq, not_true_eq_false, if_false]
      exact ⟨fun h => by omega, fun _ => by omega⟩
theorem wmul_ (n : Nat) (a b : Int) (ha : I64 a) (hb : I64 b) (h1 : -9223372036854775807 ≤ a * b) (h2 : a * b ≤ 9223372036854775807) : whole_Mul n (a, b) = some (a * b, 0) := by
  unfold whole_Mul
  obtain ⟨s1, s2⟩ := signOf_mul a b
  have hn : a.natAbs * b.natAbs ≤ 9223372036854775807 := by rw [← Int.natAbs_mul]; omega
  have d : a.natAbs * b.natAbs / 18446744073709551616 = 0 := by omega
  have m : a.natAbs * b.natAbs % 18446744073709551616 = a.natAbs * b.natAbs := by omega
  simp only [product_ n a b ha hb, sign_, Option.bind_some, d, m, signed_]
  by_cases hs : signOf a b < 0
  · rw [if_pos ⟨hs, by omega⟩, ← s1 hs]; rfl
  · rw [if_neg (fun h => hs h.1), if_pos hn, ← s2 hs]; rfl
theorem wadd_ (n : Nat) (a b : Int) (h1 : -9223372036854775808 ≤ a + b) (h2 : a + b ≤ 9223372036854775807) : whole_Add n (a, b) = some (a + b, 0) := by
  unfold whole_Add
  simp only [wrap64_id h1 h2]
  by_cases hb : b < 0
  · have : a + b < a := by omega
    simp [hb, this]
  · have : ¬ a + b < a := by omega
    simp [hb, this]
theorem radd_ (n : Nat) (a b : Int) (ha : I64 a) (hb : I64 b) (h1 : -9223372036854775808 ≤ a + b) (h2 : a + b ≤ 9223372036854775807) : ref01_Add n (a, b) = some (a + b, 0) := by
  unfold ref01_Add letJ
  have := ha.1; have := ha.2; have := hb.1; have := hb.2
  by_cases h0 : 0 < b
  · have e1 : wrap64 (9223372036854775807 - b) = 9223372036854775807 - b := wrap64_id (by omega) (by omega)
    have e2 : decide (9223372036854775807 - b < a) = false := by simp; omega
    have e3 : decide (b < 0) = false := by simp; omega
    simp only [h0, decide_true, cond_true, e1, e2, e3, cond_false, wrap64_id h1 h2]
  · by_cases h3 : b < 0
    · have e1 : wrap64 (-9223372036854775808 - b) = -9223372036854775808 - b := wrap64_id (by omega) (by omega)
      have e2 : decide (a < -9223372036854775808 - b) = false := by simp; omega
      simp only [h0, h3, decide_true, decide_false, cond_true, cond_false, e1, e2, wrap64_id h1 h2]
    · simp only [h0, h3, decide_false, cond_false, wrap64_id h1 h2]
end Go.Proofs.YtiildimlelphhaaGreatDoor.Fn
