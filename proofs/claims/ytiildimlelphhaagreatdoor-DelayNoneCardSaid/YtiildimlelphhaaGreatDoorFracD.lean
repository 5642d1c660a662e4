/- Quotients of 128 bits; fractions in lowest terms, of the program. -/
import Derived.Test.YtiildimlelphhaaGreatDoorFracC
namespace Go.Proofs.YtiildimlelphhaaGreatDoor.Fn
set_option linter.unusedVariables false
open Go Go.RowKit Go.Den Go.Circ

theorem or_one (n : Nat) (q : Nat) (hq : 2 * q < 340282366920938463463374607431768211456) : ((wd (2 * q)).1, bits2 .or .u64 (wd (2 * q)).2 1) = wd (2 * q + 1) := by
  unfold wd
  simp only
  have h1 : bits2 .or .u64 ((2 * q % 18446744073709551616 : Nat) : Int) 1 = ((2 * q % 18446744073709551616 + 1 : Nat) : Int) := by
    have := or_nat (2 * q % 18446744073709551616) 1 (by omega) (by decide)
    rw [show ((1 : Nat) : Int) = 1 from rfl] at this
    rw [this]
    have e : 2 * q % 18446744073709551616 = 2 ^ 1 * (q % 9223372036854775808) := by omega
    rw [e, or_add (by decide)]
  rw [h1]
  have h2 : (2 * q + 1) / 18446744073709551616 = 2 * q / 18446744073709551616 := by omega
  have h3 : (2 * q + 1) % 18446744073709551616 = 2 * q % 18446744073709551616 + 1 := by omega
  rw [h2, h3]
theorem over_ (a b : Nat) (ha : a < 340282366920938463463374607431768211456) (hb : b < 340282366920938463463374607431768211456) (h0 : 0 < b) : Ev (fun n => frac_wide_over n ((wd a).1, (wd a).2, (wd b).1, (wd b).2)) (wd (a / b)) := by
  have lg : ∀ z : Nat, z < 340282366920938463463374607431768211456 → ∃ L : Nat, (∀ n, frac_wide_long n ((wd z).1, (wd z).2) = some (L : Int)) ∧ L ≤ 128 ∧ Long z L := by
    intro z hz
    obtain ⟨L, h1, h2, h3⟩ := wlong_ 0 z hz
    exact ⟨L, fun n => h1, h2, h3⟩
  obtain ⟨La, la1, la2, la3, la4⟩ := lg a ha
  obtain ⟨Lb, lb1, lb2, lb3, lb4⟩ := lg b hb
  unfold frac_wide_over
  refine Ev.bindS la1 ?_
  refine Ev.bindS lb1 ?_
  have w0 : wrap64 ((La : Int) - Lb) = (La : Int) - Lb := wrap64_id (by omega) (by omega)
  simp only [w0]
  by_cases hlt : La < Lb
  · have hab : a < b := by
      have h1 := (lb4 h0).2
      have h2 : 2 ^ La ≤ 2 ^ (Lb - 1) := Nat.pow_le_pow_right (by decide) (by omega)
      omega
    refine Ev.loopB (fun _ => ((La : Int) - Lb, (wd a).1, (wd a).2, (wd b).1, (wd b).2, 0, 0, 0, 0)) 0 (0, 0, 0, 0) rfl (fun i hi => by omega) ?_ ?_
    · have e : decide ((0 : Int) ≤ (La : Int) - Lb) = false := by simp; omega
      simp only [e, cond_false]
      exact Ev.ret _
    · rw [Nat.div_eq_of_lt hab]
      exact Ev.ret _
  · have hbj : b * 2 ^ (La - Lb) < 340282366920938463463374607431768211456 := by
      have h1 : b * 2 ^ (La - Lb) < 2 ^ Lb * 2 ^ (La - Lb) := Nat.mul_lt_mul_of_pos_right lb3 (Nat.pow_pos (by decide))
      rw [← Nat.pow_add, show Lb + (La - Lb) = La by omega] at h1
      have h2 : 2 ^ La ≤ 2 ^ 128 := Nat.pow_le_pow_right (by decide) la2
      omega
    have hinit : a < b * 2 ^ (La - Lb + 1) := by
      have h1 := (lb4 h0)
      have h2 : 2 ^ (Lb - 1) * 2 ^ (La - Lb + 1) ≤ b * 2 ^ (La - Lb + 1) := Nat.mul_le_mul_right _ h1.2
      rw [← Nat.pow_add, show Lb - 1 + (La - Lb + 1) = La by omega] at h2
      omega
    refine Ev.bind (a := ((0 : Int), (0 : Int), wd (a / b))) ?_ (Ev.ret _)
    refine Ev.iter (fun x => ∃ j c q : Nat, j ≤ La - Lb + 1 ∧ a = c + b * (q * 2 ^ j) ∧ c < b * 2 ^ j ∧ x = ((j : Int) - 1, (wd c).1, (wd c).2, (wd b).1, (wd b).2, 0, 0, (wd q).1, (wd q).2)) (fun x => (x.1 + 1).toNat) (fun _ => ((0 : Int), (0 : Int), wd (a / b))) ?_ _
      ⟨La - Lb + 1, a, 0, Nat.le_refl _, by simp, hinit, by congr 1; omega⟩
    rintro x ⟨j, c, q, hj, hac, hc, rfl⟩
    cases j with
    | zero =>
      right
      refine ⟨((0 : Int), (0 : Int), (wd q).1, (wd q).2), Ev.const fun n => ?_, ?_⟩
      · have e : decide ((0 : Int) ≤ ((0 : Nat) : Int) - 1) = false := by decide
        simp only [e, cond_false]
      · have : a / b = q := by
          rw [Nat.pow_zero, Nat.mul_one] at hac hc
          rw [hac, Nat.add_mul_div_left _ _ h0, Nat.div_eq_of_lt hc, Nat.zero_add]
        rw [this]
    | succ i =>
      left
      have e : decide ((0 : Int) ≤ (i : Int)) = true := decide_eq_true (by omega)
      have ei : ((i + 1 : Nat) : Int) - 1 = (i : Int) := by omega
      have w1 : wrap64 ((i : Int) - 1) = (i : Int) - 1 := wrap64_id (by omega) (by omega)
      have hbi : b * 2 ^ i < 340282366920938463463374607431768211456 := by
        have h1 : 2 ^ i ≤ 2 ^ (La - Lb) := Nat.pow_le_pow_right (by decide) (by omega)
        have := Nat.mul_le_mul_left b h1
        omega
      have hq2 : 2 * q < 340282366920938463463374607431768211456 := by
        have h1 : 2 * q ≤ b * (q * 2 ^ (i + 1)) := by
          have h2 : 2 * q ≤ q * 2 ^ (i + 1) := by
            rw [Nat.mul_comm 2 q]
            exact Nat.mul_le_mul_left q (by rw [Nat.pow_succ]; have := Nat.pow_pos (n := i) (show 0 < 2 by decide); omega)
          exact Nat.le_trans h2 (Nat.le_mul_of_pos_left _ h0)
        omega
      have hcA : c < 340282366920938463463374607431768211456 := by omega
      have up1 : ∀ n, frac_wide_up n ((wd q).1, (wd q).2, 1) = some (wd (2 * q)) := fun n => by
        have := wup_ n q 1 (by decide) (by omega)
        rw [show q * 2 ^ 1 = 2 * q by omega] at this
        exact this
      have upi : ∀ n, frac_wide_up n ((wd b).1, (wd b).2, (i : Int)) = some (wd (b * 2 ^ i)) := fun n => wup_ n b i (by omega) hbi
      have hcmp : ∀ n, frac_wide_cmp n ((wd (b * 2 ^ i)).1, (wd (b * 2 ^ i)).2, (wd c).1, (wd c).2) = some (if b * 2 ^ i = c then 0 else if b * 2 ^ i < c then -1 else 1) := fun n => wcmp_ n _ _
      have hpw : b * (q * 2 ^ (i + 1)) = b * (2 * q * 2 ^ i) := by
        congr 1
        rw [Nat.pow_succ, Nat.mul_comm (2 ^ i) 2, ← Nat.mul_assoc, Nat.mul_comm q 2]
      have hbb : b * 2 ^ (i + 1) = b * 2 ^ i + b * 2 ^ i := by rw [Nat.pow_succ, ← Nat.mul_assoc]; omega
      by_cases hle : b * 2 ^ i ≤ c
      · have ed : decide ((if b * 2 ^ i = c then (0 : Int) else if b * 2 ^ i < c then -1 else 1) ≤ 0) = true := by
          by_cases h : b * 2 ^ i = c
          · rw [if_pos h]; rfl
          · rw [if_neg h, if_pos (by omega)]; rfl
        refine ⟨((i : Int) - 1, (wd (c - b * 2 ^ i)).1, (wd (c - b * 2 ^ i)).2, (wd b).1, (wd b).2, 0, 0, (wd (2 * q + 1)).1, (wd (2 * q + 1)).2), Ev.const fun n => ?_, ⟨i, c - b * 2 ^ i, 2 * q + 1, by omega, ?_, by omega, rfl⟩, by simp only; omega, rfl⟩
        · simp only [e, ei, cond_true, up1, upi, hcmp, Option.bind_some, ed, w1]
          rw [wminus_ n c (b * 2 ^ i) hcA hle]
          simp only [Option.bind_some]
          have := or_one n q hq2
          rw [← this]
        · rw [Nat.add_mul, Nat.one_mul, Nat.mul_add, ← hpw]; omega
      · have ed : decide ((if b * 2 ^ i = c then (0 : Int) else if b * 2 ^ i < c then -1 else 1) ≤ 0) = false := by
          rw [if_neg (by omega), if_neg (by omega)]; rfl
        refine ⟨((i : Int) - 1, (wd c).1, (wd c).2, (wd b).1, (wd b).2, 0, 0, (wd (2 * q)).1, (wd (2 * q)).2), Ev.const fun n => ?_, ⟨i, c, 2 * q, by omega, by rw [← hpw]; exact hac, by omega, rfl⟩, by simp only; omega, rfl⟩
        simp only [e, ei, cond_true, up1, upi, hcmp, Option.bind_some, ed, w1, cond_false]
/-- A fraction in lowest terms, if it fits. -/
def redF (s : Bool) (N D : Nat) : Int × Int × Int :=
  if (if s = true then N / Nat.gcd N D ≤ 9223372036854775808 else N / Nat.gcd N D < 9223372036854775808) ∧ D / Nat.gcd N D < 9223372036854775808 then
    ((if s = true then -((N / Nat.gcd N D : Nat) : Int) else ((N / Nat.gcd N D : Nat) : Int)), ((D / Nat.gcd N D : Nat) : Int), 0) else (0, 0, 2)
theorem swhole_ (n : Nat) (s : Bool) (x : Nat) (hx : x < 340282366920938463463374607431768211456) : ∃ v : Int, frac_signed_whole n (s, (wd x).1, (wd x).2) = some (v, decide (if s = true then x ≤ 9223372036854775808 else x < 9223372036854775808)) ∧
    ((if s = true then x ≤ 9223372036854775808 else x < 9223372036854775808) → v = if s = true then -(x : Int) else (x : Int)) := by
  unfold frac_signed_whole wd
  simp only
  by_cases h : x / 18446744073709551616 = 0
  · have hm : x % 18446744073709551616 = x := by omega
    rw [h, hm]
    simp only [show (!(((0 : Nat) : Int) == 0)) = false from rfl, cond_false]
    cases s with
    | true =>
      simp only [cond_true, if_true]
      have ed : decide ((x : Int) ≤ 9223372036854775808) = decide (x ≤ 9223372036854775808) := decide_eq_decide.2 (by omega)
      rw [ed]
      refine ⟨_, rfl, fun hle => ?_⟩
      rw [wu64]
      by_cases h0 : x = 0
      · subst h0
        have : (0 - ((0 : Nat) : Int)) % 18446744073709551616 = 0 := by omega
        rw [this, wrap64_id (by omega) (by omega)]; rfl
      · rw [← IntWalk.i64_left]
        simp only [IntKind.wrap, IntKind.signed, IntKind.bits]
        have : (0 - (x : Int)) % 18446744073709551616 = 18446744073709551616 - x := by omega
        rw [this]
        by_cases h : (18446744073709551616 - (x : Int)) % 2 ^ 64 ≥ 2 ^ (64 - 1)
        · simp only [h, decide_true, Bool.and_self, if_true]; omega
        · simp only [h, decide_false, Bool.and_false, Bool.false_eq_true, if_false]; omega
    | false =>
      simp only [cond_false, Bool.false_eq_true, if_false]
      have ed : decide ((x : Int) < 9223372036854775808) = decide (x < 9223372036854775808) := decide_eq_decide.2 (by omega)
      rw [ed]
      exact ⟨_, rfl, fun hle => wrap64_id (by omega) (by omega)⟩
  · have e : (!(((x / 18446744073709551616 : Nat) : Int) == 0)) = true := by simp; omega
    simp only [e, cond_true]
    have hno : ¬ (if s = true then x ≤ 9223372036854775808 else x < 9223372036854775808) := by cases s <;> simp <;> omega
    exact ⟨0, by rw [decide_eq_false hno], fun h => absurd h hno⟩
theorem reduced_ (s t : Bool) (N D : Nat) (hN : N < 340282366920938463463374607431768211456) (hD : D < 340282366920938463463374607431768211456) (h0 : 0 < D) : Ev (fun n => frac_reduced n (s, (wd N).1, (wd N).2, t, (wd D).1, (wd D).2)) (redF (!(s == t)) N D) := by
  unfold frac_reduced
  have hg0 : 0 < Nat.gcd N D := Nat.gcd_pos_of_pos_right N h0
  have hgD : Nat.gcd N D ≤ D := Nat.gcd_le_right N h0
  refine Ev.bind (gcd_ N D hN hD) ?_
  refine Ev.bind (over_ N (Nat.gcd N D) hN (by omega) hg0) ?_
  refine Ev.bind (over_ D (Nat.gcd N D) hD (by omega) hg0) ?_
  have hn1 : N / Nat.gcd N D < 340282366920938463463374607431768211456 := Nat.lt_of_le_of_lt (Nat.div_le_self _ _) hN
  have hd1 : D / Nat.gcd N D < 340282366920938463463374607431768211456 := Nat.lt_of_le_of_lt (Nat.div_le_self _ _) hD
  obtain ⟨v, hv1, hv2⟩ := swhole_ 0 (!(s == t)) (N / Nat.gcd N D) hn1
  obtain ⟨u, hu1, hu2⟩ := swhole_ 0 false (D / Nat.gcd N D) hd1
  have hv : ∀ n, frac_signed_whole n (!(s == t), wd (N / Nat.gcd N D)) = _ := fun n => hv1
  have hu : ∀ n, frac_signed_whole n (false, wd (D / Nat.gcd N D)) = _ := fun n => hu1
  refine Ev.bindS hv ?_
  refine Ev.bindS hu ?_
  unfold redF letJ
  simp only [Bool.false_eq_true, if_false] at hu2 ⊢
  clear hv hu hv1 hu1
  generalize (!(s == t)) = b at hv2 ⊢
  cases b with
  | true =>
    simp only [if_true] at hv2 ⊢
    by_cases h1 : N / Nat.gcd N D ≤ 9223372036854775808
    · by_cases h2 : D / Nat.gcd N D < 9223372036854775808
      · rw [if_pos ⟨h1, h2⟩, hv2 h1, hu2 h2]
        simp only [decide_eq_true h1, decide_eq_true h2, Bool.not_true, cond_false]
        exact Ev.ret _
      · rw [if_neg fun h => h2 h.2]
        simp only [decide_eq_true h1, decide_eq_false h2, Bool.not_true, Bool.not_false, cond_false, cond_true]
        exact Ev.ret _
    · rw [if_neg fun h => h1 h.1]
      simp only [decide_eq_false h1, Bool.not_false, cond_true]
      exact Ev.ret _
  | false =>
    simp only [Bool.false_eq_true, if_false] at hv2 ⊢
    by_cases h1 : N / Nat.gcd N D < 9223372036854775808
    · by_cases h2 : D / Nat.gcd N D < 9223372036854775808
      · rw [if_pos ⟨h1, h2⟩, hv2 h1, hu2 h2]
        simp only [decide_eq_true h1, decide_eq_true h2, Bool.not_true, cond_false]
        exact Ev.ret _
      · rw [if_neg fun h => h2 h.2]
        simp only [decide_eq_true h1, decide_eq_false h2, Bool.not_true, Bool.not_false, cond_false, cond_true]
        exact Ev.ret _
    · rw [if_neg fun h => h1 h.1]
      simp only [decide_eq_false h1, Bool.not_false, cond_true]
      exact Ev.ret _
theorem sized_ (n : Nat) (a : Int) (h : I64 a) : frac_sized n a = some (decide (a < 0), (wd a.natAbs).1, (wd a.natAbs).2) := by
  unfold frac_sized wd
  have := h.1; have := h.2
  have e1 : a.natAbs / 18446744073709551616 = 0 := by omega
  have e2 : a.natAbs % 18446744073709551616 = a.natAbs := by omega
  rw [e1, e2]
  by_cases ha : a < 0
  · simp only [ha, decide_true, cond_true]
    rw [wu64, wu64]
    have : (0 - a % 18446744073709551616) % 18446744073709551616 = (a.natAbs : Int) := by omega
    rw [this]; rfl
  · simp only [ha, decide_false, cond_false]
    rw [wu64]
    have : a % 18446744073709551616 = (a.natAbs : Int) := by omega
    rw [this]; rfl
def ofF (a d : Int) : Int × Int × Int := if d = 0 then (0, 0, 3) else redF (!(decide (a < 0) == decide (d < 0))) a.natAbs d.natAbs
theorem fof_ (a d : Int) (ha : I64 a) (hd : I64 d) : Ev (fun n => frac_Of n (a, d)) (ofF a d) := by
  unfold frac_Of ofF
  have := ha.1; have := ha.2; have := hd.1; have := hd.2
  by_cases h : d = 0
  · subst h
    simp only [show ((0 : Int) == 0) = true from rfl, cond_true, if_true]
    exact Ev.ret _
  · have e : (d == 0) = false := by rw [beq_eq_false_iff_ne]; exact h
    rw [if_neg h]
    simp only [e, cond_false]
    refine Ev.bindS (fun n => sized_ n a ha) ?_
    refine Ev.bindS (fun n => sized_ n d hd) ?_
    exact Ev.bind (reduced_ _ _ _ _ (by omega) (by omega) (by omega)) (Ev.ret _)
end Go.Proofs.YtiildimlelphhaaGreatDoor.Fn
