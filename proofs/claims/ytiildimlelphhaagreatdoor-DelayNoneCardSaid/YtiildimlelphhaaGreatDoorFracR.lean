/- Chapter 2's fractions, by the document: made of whole numbers. -/
import Derived.Test.YtiildimlelphhaaGreatDoorFracD
import Derived.Test.YtiildimlelphhaaGreatDoorFnM0
namespace Go.Proofs.YtiildimlelphhaaGreatDoor.Fn
set_option linter.unusedVariables false
open Go Go.RowKit Go.Den Go.Circ

theorem rsize_ (n : Nat) (a : Int) (h : I64 a) : ref01_Size n a = some (a.natAbs : Int) := by
  unfold ref01_Size
  have := h.1; have := h.2
  by_cases ha : a < 0
  · simp only [ha, decide_true, cond_true]
    rw [wu64, wu64]; congr 1; omega
  · simp only [ha, decide_false, cond_false]
    rw [wu64]; congr 1; omega
theorem rgcd02_ (a b : Nat) (ha : a < 18446744073709551616) (hb : b < 18446744073709551616) : Ev (fun n => ref02_gcd n ((a : Int), (b : Int))) ((Nat.gcd a b : Nat) : Int) := by
  unfold ref02_gcd
  refine Ev.bind (a := ((Nat.gcd a b : Nat) : Int)) ?_ (Ev.ret _)
  refine Ev.iter (fun x => ∃ c d : Nat, Nat.gcd c d = Nat.gcd a b ∧ x = ((c : Int), (d : Int))) (fun x => x.2.toNat) (fun _ => ((Nat.gcd a b : Nat) : Int)) ?_ _ ⟨a, b, rfl, rfl⟩
  rintro x ⟨c, d, hg, rfl⟩
  by_cases hd : d = 0
  · right
    subst hd
    refine ⟨(c : Int), Ev.const fun n => ?_, ?_⟩
    · simp only [show (!(((0 : Nat) : Int) == 0)) = false from rfl, cond_false]
    · rw [← hg, Nat.gcd_zero_right]
  · left
    have e : (!((d : Int) == 0)) = true := by simp; omega
    refine ⟨((d : Int), ((c % d : Nat) : Int)), Ev.const fun n => ?_, ⟨d, c % d, ?_, rfl⟩, ?_, rfl⟩
    · have et : Int.tmod (c : Int) (d : Int) = ((c % d : Nat) : Int) := by rw [Int.tmod_eq_emod_of_nonneg (by omega)]; rfl
      simp only [e, cond_true, et]
    · rw [← hg, Nat.gcd_comm c d, Nat.gcd_rec d c, Nat.gcd_comm]
    · simp only [Int.toNat_natCast]
      exact Nat.mod_lt _ (by omega)
theorem rsigned_ (n : Nat) (u : Nat) (hu : u < 18446744073709551616) (b : Bool) : ref01_Signed n ((u : Int), b) = some (if u = 9223372036854775808 ∧ b = true then (-9223372036854775808, 0) else if 9223372036854775807 < u then (0, 2) else (if b = true then -(u : Int) else (u : Int), 0)) := by
  unfold ref01_Signed letJ
  by_cases h : u = 9223372036854775808
  · have e : ((u : Int) == 9223372036854775808) = true := by rw [h]; rfl
    simp only [e, cond_true]
    cases b with
    | true => simp only [cond_true]; rw [if_pos ⟨h, trivial⟩]
    | false =>
      rw [if_neg (by simp), if_pos (by omega)]
      have e2 : decide ((9223372036854775807 : Int) < (u : Int)) = true := decide_eq_true (by omega)
      simp only [cond_false, e2, cond_true]
  · have e : ((u : Int) == 9223372036854775808) = false := by rw [beq_eq_false_iff_ne]; omega
    simp only [e, cond_false]
    rw [if_neg fun h' => h h'.1]
    by_cases h2 : 9223372036854775807 < u
    · rw [if_pos h2]
      have e2 : decide ((9223372036854775807 : Int) < (u : Int)) = true := decide_eq_true (by omega)
      simp only [e2, cond_true]
    · rw [if_neg h2]
      have e2 : decide ((9223372036854775807 : Int) < (u : Int)) = false := decide_eq_false (by omega)
      have w1 : wrap64 (u : Int) = u := wrap64_id (by omega) (by omega)
      have w2 : wrap64 (0 - (u : Int)) = -(u : Int) := by rw [wrap64_id (by omega) (by omega)]; omega
      simp only [e2, cond_false, w1, w2]
      cases b <;> rfl
/-- A fraction of two sizes, in lowest terms already. -/
def madeF (x y : Nat) (b : Bool) : Int × Int × Int :=
  if (if b = true then x ≤ 9223372036854775808 else x < 9223372036854775808) ∧ y < 9223372036854775808 then ((if b = true then -(x : Int) else (x : Int)), (y : Int), 0) else (0, 0, 2)
theorem made_ (n : Nat) (x y : Nat) (hx : x < 18446744073709551616) (hy : y < 18446744073709551616) (b : Bool) : ref02_made n ((x : Int), (y : Int), b) = some (madeF x y b) := by
  unfold ref02_made letJ madeF
  simp only [rsigned_ n x hx, rsigned_ n y hy, Option.bind_some, Bool.false_eq_true, and_false, if_false]
  have hyk : y < 9223372036854775808 ∨ 9223372036854775807 < y := by omega
  cases b with
  | true =>
    simp only [and_true, if_true]
    by_cases h1 : x = 9223372036854775808
    · rw [if_pos h1]
      simp only [show (!((0 : Int) == 0)) = false from rfl, cond_false]
      rcases hyk with h2 | h2
      · rw [if_neg (show ¬ 9223372036854775807 < y by omega), if_pos ⟨by omega, h2⟩, h1]
        rfl
      · rw [if_pos h2, if_neg fun h => by omega]
        rfl
    · rw [if_neg h1]
      by_cases h3 : 9223372036854775807 < x
      · rw [if_pos h3, if_neg (show ¬ (x ≤ 9223372036854775808 ∧ y < 9223372036854775808) by omega)]
        rfl
      · rw [if_neg h3]
        simp only [show (!((0 : Int) == 0)) = false from rfl, cond_false]
        rcases hyk with h2 | h2
        · rw [if_neg (show ¬ 9223372036854775807 < y by omega), if_pos ⟨by omega, h2⟩]
          rfl
        · rw [if_pos h2, if_neg fun h => by omega]
          rfl
  | false =>
    simp only [Bool.false_eq_true, and_false, if_false]
    by_cases h3 : 9223372036854775807 < x
    · rw [if_pos h3, if_neg (show ¬ (x < 9223372036854775808 ∧ y < 9223372036854775808) by omega)]
      rfl
    · rw [if_neg h3]
      simp only [show (!((0 : Int) == 0)) = false from rfl, cond_false]
      rcases hyk with h2 | h2
      · rw [if_neg (show ¬ 9223372036854775807 < y by omega), if_pos ⟨by omega, h2⟩]
        rfl
      · rw [if_pos h2, if_neg fun h => by omega]
        rfl
theorem redF_made (s : Bool) (N D : Nat) : redF s N D = madeF (N / Nat.gcd N D) (D / Nat.gcd N D) s := rfl
theorem madeF_zero (y : Nat) (s t : Bool) : madeF 0 y s = madeF 0 y t := by
  unfold madeF
  cases s <;> cases t <;> simp
theorem rof_ (a d : Int) (ha : I64 a) (hd : I64 d) : Ev (fun n => ref02_Of n (a, d)) (ofF a d) := by
  unfold ref02_Of ofF
  have := ha.1; have := ha.2; have := hd.1; have := hd.2
  by_cases h : d = 0
  · subst h
    simp only [show ((0 : Int) == 0) = true from rfl, cond_true, if_true]
    exact Ev.ret _
  · have e : (d == 0) = false := by rw [beq_eq_false_iff_ne]; exact h
    rw [if_neg h]
    simp only [e, cond_false]
    refine Ev.bindS (fun n => rsize_ n a ha) ?_
    refine Ev.bindS (fun n => rsize_ n d hd) ?_
    refine Ev.bind (rgcd02_ a.natAbs d.natAbs (by omega) (by omega)) ?_
    have hg0 : 0 < Nat.gcd a.natAbs d.natAbs := Nat.gcd_pos_of_pos_right _ (by omega)
    have eg : (!(((Nat.gcd a.natAbs d.natAbs : Nat) : Int) == 0)) = true := by simp; omega
    have q : ∀ z : Nat, z < 18446744073709551616 → IntKind.wrap .u64 (Int.tdiv (z : Int) ((Nat.gcd a.natAbs d.natAbs : Nat) : Int)) = ((z / Nat.gcd a.natAbs d.natAbs : Nat) : Int) := fun z hz => by
      rw [Int.tdiv_eq_ediv_of_nonneg (by omega), wu64]
      have h1 : (z : Int) / ((Nat.gcd a.natAbs d.natAbs : Nat) : Int) = ((z / Nat.gcd a.natAbs d.natAbs : Nat) : Int) := rfl
      have h2 : z / Nat.gcd a.natAbs d.natAbs ≤ z := Nat.div_le_self _ _
      rw [h1]
      generalize z / Nat.gcd a.natAbs d.natAbs = w at h2 ⊢
      omega
    simp only [eg, cond_true, q a.natAbs (by omega), q d.natAbs (by omega)]
    have hx : a.natAbs / Nat.gcd a.natAbs d.natAbs < 18446744073709551616 := Nat.lt_of_le_of_lt (Nat.div_le_self _ _) (by omega)
    have hy : d.natAbs / Nat.gcd a.natAbs d.natAbs < 18446744073709551616 := Nat.lt_of_le_of_lt (Nat.div_le_self _ _) (by omega)
    rw [redF_made]
    by_cases h0 : a = 0
    · have e0 : (!(a == 0)) = false := by rw [h0]; rfl
      simp only [e0, cond_false, made_ _ _ _ hx hy, Option.bind_some]
      refine (Ev.ret _).of_eq ?_
      have : a.natAbs / Nat.gcd a.natAbs d.natAbs = 0 := by rw [h0]; simp
      rw [this]
      exact madeF_zero _ _ _
    · have e0 : (!(a == 0)) = true := by simp; exact h0
      simp only [e0, cond_true, made_ _ _ _ hx hy, Option.bind_some]
      exact Ev.ret _
end Go.Proofs.YtiildimlelphhaaGreatDoor.Fn
