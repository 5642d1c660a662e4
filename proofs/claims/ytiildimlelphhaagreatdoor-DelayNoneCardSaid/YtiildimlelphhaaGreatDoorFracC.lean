/- How long numbers are, and quotients; fractions in lowest terms. -/
import Derived.Test.YtiildimlelphhaaGreatDoorFracB
import Derived.KernelRfl
namespace Go.Proofs.YtiildimlelphhaaGreatDoor.Fn
set_option linter.unusedVariables false
set_option maxRecDepth 100000
open Go Go.RowKit Go.Den Go.Circ

def lenTab : ByteArray := ByteArray.mk #[0, 1, 2, 2, 3, 3, 3, 3, 4, 4, 4, 4, 4, 4, 4, 4, 5, 5, 5, 5, 5, 5, 5, 5, 5, 5, 5, 5, 5, 5, 5, 5, 6, 6, 6, 6, 6, 6, 6, 6, 6, 6, 6, 6, 6, 6, 6, 6, 6, 6, 6, 6, 6, 6, 6, 6, 6, 6, 6, 6, 6, 6, 6, 6, 7, 7, 7, 7, 7, 7, 7, 7, 7, 7, 7, 7, 7, 7, 7, 7, 7, 7, 7, 7, 7, 7, 7, 7, 7, 7, 7, 7, 7, 7, 7, 7, 7, 7, 7, 7, 7, 7, 7, 7, 7, 7, 7, 7, 7, 7, 7, 7, 7, 7, 7, 7, 7, 7, 7, 7, 7, 7, 7, 7, 7, 7, 7, 7, 8, 8, 8, 8, 8, 8, 8, 8, 8, 8, 8, 8, 8, 8, 8, 8, 8, 8, 8, 8, 8, 8, 8, 8, 8, 8, 8, 8, 8, 8, 8, 8, 8, 8, 8, 8, 8, 8, 8, 8, 8, 8, 8, 8, 8, 8, 8, 8, 8, 8, 8, 8, 8, 8, 8, 8, 8, 8, 8, 8, 8, 8, 8, 8, 8, 8, 8, 8, 8, 8, 8, 8, 8, 8, 8, 8, 8, 8, 8, 8, 8, 8, 8, 8, 8, 8, 8, 8, 8, 8, 8, 8, 8, 8, 8, 8, 8, 8, 8, 8, 8, 8, 8, 8, 8, 8, 8, 8, 8, 8, 8, 8, 8, 8, 8, 8, 8, 8, 8, 8, 8, 8, 8, 8, 8, 8, 8, 8]
theorem len64_def (n : Nat) (x0 : Int) : math_bits_Len64 n x0 = (
  let e0 := ByteArray.size lenTab
  letJ (fun (x1 : Int × Int) =>
    letJ (fun (x3 : Int × Int) =>
      let e1 := IntKind.wrap .u8 (shr .u64 x3.1 8)
      let e2 := IntKind.wrap .u8 x3.1
      bif decide (256 ≤ x3.1) then
        bif decide (0 ≤ 8) then
          bif inB e1 e0 then
            some (wrap64 ((wrap64 (x3.2 + 8)) + (wrap64 (byteAt lenTab e1))))
          else
          none
        else
        none
      else
        bif inB e2 e0 then
          some (wrap64 (x3.2 + (wrap64 (byteAt lenTab e2))))
        else
        none) fun J4 =>
    bif decide (65536 ≤ x1.1) then
      bif decide (0 ≤ 16) then
        J4 (shr .u64 x1.1 16, wrap64 (x1.2 + 16))
      else
      none
    else
    J4 x1) fun J2 =>
  bif decide (4294967296 ≤ x0) then
    bif decide (0 ≤ 32) then
      J2 (shr .u64 x0 32, 32)
    else
    none
  else
  J2 (x0, 0)) := rfl
def lenOk (i : Nat) : Bool := let l := (byteAt lenTab (i : Int)).toNat
  decide (byteAt lenTab (i : Int) = (l : Int)) && (decide (l ≤ 8) && (decide (i < 2 ^ l) && (decide (i = 0) || (decide (1 ≤ l) && decide (2 ^ (l - 1) ≤ i)))))
theorem lenTab_all : (List.range 256).all lenOk = true := by kernel_rfl
theorem lenTab_size : lenTab.size = 256 := by kernel_rfl
/-- How long a number is. -/
def Long (x L : Nat) : Prop := x < 2 ^ L ∧ (0 < x → 1 ≤ L ∧ 2 ^ (L - 1) ≤ x)
theorem lenTab_at {i : Nat} (h : i < 256) : ∃ l : Nat, byteAt lenTab (i : Int) = (l : Int) ∧ l ≤ 8 ∧ Long i l := by
  have := List.all_eq_true.1 lenTab_all i (List.mem_range.2 h)
  unfold lenOk at this
  simp only [Bool.and_eq_true, Bool.or_eq_true, decide_eq_true_eq] at this
  obtain ⟨h1, h2, h3, h4⟩ := this
  exact ⟨_, h1, h2, h3, fun h0 => h4.resolve_left (by omega)⟩
theorem Long.shift {x L k : Nat} (h : Long (x / 2 ^ k) L) (h0 : 0 < x / 2 ^ k) : Long x (L + k) := by
  obtain ⟨h1, h2⟩ := h
  have hp : 0 < 2 ^ k := Nat.pow_pos (by decide)
  obtain ⟨h3, h4⟩ := h2 h0
  refine ⟨?_, fun _ => ⟨by omega, ?_⟩⟩
  · rw [Nat.pow_add]
    exact (Nat.div_lt_iff_lt_mul hp).1 h1
  · rw [show L + k - 1 = (L - 1) + k by omega, Nat.pow_add]
    exact (Nat.le_div_iff_mul_le hp).1 h4
theorem len64_ (n : Nat) (x : Nat) (hx : x < 18446744073709551616) : ∃ L : Nat, math_bits_Len64 n (x : Int) = some (L : Int) ∧ L ≤ 64 ∧ Long x L := by
  -- the last step: below 2^16
  have last : ∀ (y a : Nat), y < 65536 → a ≤ 48 → ∃ L : Nat, (let e1 := IntKind.wrap .u8 (shr .u64 (y : Int) 8); let e2 := IntKind.wrap .u8 (y : Int)
      (bif decide ((256 : Int) ≤ (y : Int)) then (bif decide ((0 : Int) ≤ 8) then (bif inB e1 lenTab.size then some (wrap64 ((wrap64 ((a : Int) + 8)) + (wrap64 (byteAt lenTab e1)))) else none) else none)
      else (bif inB e2 lenTab.size then some (wrap64 ((a : Int) + (wrap64 (byteAt lenTab e2)))) else none) : Option Int)) = some ((L + a : Nat) : Int) ∧ L ≤ 16 ∧ Long y L := by
    intro y a hy ha
    have w8 : ∀ z : Nat, z < 256 → IntKind.wrap .u8 (z : Int) = (z : Int) := fun z hz => by
      simp only [IntKind.wrap, IntKind.signed, IntKind.bits]; simp; omega
    by_cases h : 256 ≤ y
    · have e : shr .u64 (y : Int) 8 = ((y / 2 ^ 8 : Nat) : Int) := shr_nat y 8 (by decide)
      obtain ⟨l, h1, h2, h3⟩ := lenTab_at (i := y / 2 ^ 8) (by omega)
      refine ⟨l + 8, ?_, by omega, h3.shift (by omega)⟩
      simp only [decide_eq_true (show (256 : Int) ≤ (y : Int) by omega), cond_true, e, w8 _ (show y / 2 ^ 8 < 256 by omega), lenTab_size, inB_nat, decide_eq_true (show y / 2 ^ 8 < 256 by omega), h1, show decide ((0 : Int) ≤ 8) = true from rfl]
      rw [wrap64_id (n := (l : Int)) (by omega) (by omega), wrap64_id (n := (a : Int) + 8) (by omega) (by omega), wrap64_id (by omega) (by omega)]
      congr 1; omega
    · obtain ⟨l, h1, h2, h3⟩ := lenTab_at (i := y) (by omega)
      refine ⟨l, ?_, by omega, h3⟩
      simp only [decide_eq_false (show ¬ (256 : Int) ≤ (y : Int) by omega), cond_false, w8 y (by omega), lenTab_size, inB_nat, decide_eq_true (show y < 256 by omega), cond_true, h1]
      rw [wrap64_id (n := (l : Int)) (by omega) (by omega), wrap64_id (by omega) (by omega)]
      congr 1; omega
  have mid : ∀ (y a : Nat), y < 4294967296 → a ≤ 32 → ∃ L : Nat, ((bif decide ((65536 : Int) ≤ (y : Int)) then (bif decide ((0 : Int) ≤ 16) then
      (let e1 := IntKind.wrap .u8 (shr .u64 (shr .u64 (y : Int) 16) 8); let e2 := IntKind.wrap .u8 (shr .u64 (y : Int) 16)
      (bif decide ((256 : Int) ≤ shr .u64 (y : Int) 16) then (bif decide ((0 : Int) ≤ 8) then (bif inB e1 lenTab.size then some (wrap64 ((wrap64 (wrap64 ((a : Int) + 16) + 8)) + (wrap64 (byteAt lenTab e1)))) else none) else none)
      else (bif inB e2 lenTab.size then some (wrap64 (wrap64 ((a : Int) + 16) + (wrap64 (byteAt lenTab e2)))) else none))) else none) else
      (let e1 := IntKind.wrap .u8 (shr .u64 (y : Int) 8); let e2 := IntKind.wrap .u8 (y : Int)
      (bif decide ((256 : Int) ≤ (y : Int)) then (bif decide ((0 : Int) ≤ 8) then (bif inB e1 lenTab.size then some (wrap64 ((wrap64 ((a : Int) + 8)) + (wrap64 (byteAt lenTab e1)))) else none) else none)
      else (bif inB e2 lenTab.size then some (wrap64 ((a : Int) + (wrap64 (byteAt lenTab e2)))) else none)))) : Option Int) = some ((L + a : Nat) : Int) ∧ L ≤ 32 ∧ Long y L := by
    intro y a hy ha
    by_cases h : 65536 ≤ y
    · have e : shr .u64 (y : Int) 16 = ((y / 2 ^ 16 : Nat) : Int) := shr_nat y 16 (by decide)
      obtain ⟨L, h1, h2, h3⟩ := last (y / 2 ^ 16) (a + 16) (by omega) (by omega)
      refine ⟨L + 16, ?_, by omega, h3.shift (by omega)⟩
      have w : wrap64 ((a : Int) + 16) = ((a + 16 : Nat) : Int) := by rw [wrap64_id (by omega) (by omega)]; omega
      rw [decide_eq_true (show (65536 : Int) ≤ (y : Int) by omega), cond_true, e, w]
      simp only [show decide ((0 : Int) ≤ 16) = true from rfl, cond_true]
      rw [h1]
      congr 1; omega
    · obtain ⟨L, h1, h2, h3⟩ := last y a (by omega) (by omega)
      refine ⟨L, ?_, by omega, h3⟩
      rw [decide_eq_false (show ¬ (65536 : Int) ≤ (y : Int) by omega), cond_false]
      exact h1
  rw [len64_def]
  unfold letJ
  by_cases h : 4294967296 ≤ x
  · have e : shr .u64 (x : Int) 32 = ((x / 2 ^ 32 : Nat) : Int) := shr_nat x 32 (by decide)
    obtain ⟨L, h1, h2, h3⟩ := mid (x / 2 ^ 32) 32 (by omega) (by omega)
    refine ⟨L + 32, ?_, by omega, h3.shift (by omega)⟩
    simp only [decide_eq_true (show (4294967296 : Int) ≤ (x : Int) by omega), cond_true, e]
    exact h1
  · obtain ⟨L, h1, h2, h3⟩ := mid x 0 (by omega) (by omega)
    refine ⟨L, ?_, by omega, h3⟩
    simp only [decide_eq_false (show ¬ (4294967296 : Int) ≤ (x : Int) by omega), cond_false]
    exact h1
theorem wlong_ (n : Nat) (x : Nat) (hx : x < 340282366920938463463374607431768211456) : ∃ L : Nat, frac_wide_long n (wd x) = some (L : Int) ∧ L ≤ 128 ∧ Long x L := by
  unfold frac_wide_long wd
  simp only
  by_cases h : x / 18446744073709551616 = 0
  · obtain ⟨L, h1, h2, h3⟩ := len64_ n (x % 18446744073709551616) (by omega)
    have e : x % 18446744073709551616 = x := by omega
    rw [e] at h1 h3
    refine ⟨L, ?_, by omega, h3⟩
    rw [h]
    simp only [show (!(((0 : Nat) : Int) == 0)) = false from rfl, cond_false, e, h1, Option.bind_some]
  · obtain ⟨L, h1, h2, h3⟩ := len64_ n (x / 18446744073709551616) (by omega)
    have e : (!(((x / 18446744073709551616 : Nat) : Int) == 0)) = true := by simp; omega
    refine ⟨L + 64, ?_, by omega, Long.shift (k := 64) h3 (by show 0 < x / 18446744073709551616; omega)⟩
    simp only [e, cond_true, h1, Option.bind_some]
    rw [wrap64_id (by omega) (by omega)]
    congr 1; omega
end Go.Proofs.YtiildimlelphhaaGreatDoor.Fn
