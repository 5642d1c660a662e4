/- Chapter 26's totals: queues tick by tick, and stretches of alike ticks at once. No program. -/
import Derived.Test.YtiildimlelphhaaGreatDoorWhole
import Derived.Test.YtiildimlelphhaaGreatDoorLibF
namespace Go.Proofs.YtiildimlelphhaaGreatDoor.Fn
set_option linter.unusedVariables false
open Go Go.RowKit Go.Den Go.Circ

/-- Is a tick green? -/
def gr (C : Int) (a : Int × Int) (t : Int) : Bool := decide (HasT C a t)
def tk (V S : Int) (g : Bool) (q : Int) : Int := if g = true then max 0 (q + V - S) else q + V
/-- The queue behind so many ticks. -/
def qa (V S C : Int) (a : Int × Int) (t q : Int) : Nat → Int
  | 0 => q
  | i + 1 => tk V S (gr C a (t + i)) (qa V S C a t q i)
/-- All of them together. -/
def tt (V S C : Int) (a : Int × Int) (t q : Int) : Nat → Int
  | 0 => 0
  | i + 1 => tt V S C a t q i + qa V S C a t q (i + 1)
theorem gr_mod {C : Int} (a : Int × Int) (t : Int) : gr C a (t % C) = gr C a t := by
  unfold gr
  exact decide_eq_decide.2 (HasT.mod C a t)
theorem gr_mod_add {C : Int} (a : Int × Int) (t j : Int) : gr C a (t % C + j) = gr C a (t + j) := by
  rw [← gr_mod, Int.emod_add_emod, gr_mod]
section
variable {V S C t q : Int} {a : Int × Int}
theorem qa_bound (hV : 0 ≤ V) (hV' : V ≤ 1000000000) (hS : 0 ≤ S) (hq : 0 ≤ q) (i : Nat) : 0 ≤ qa V S C a t q i ∧ qa V S C a t q i ≤ q + 1000000000 * i := by
  induction i with
  | zero => simp [qa, hq]
  | succ i ih =>
    simp only [qa, tk]
    split <;> omega
theorem tt_bound (hV : 0 ≤ V) (hV' : V ≤ 1000000000) (hS : 0 ≤ S) (hq : 0 ≤ q) (hq' : q ≤ 1099511627776) (i : Nat) (hi : i ≤ 6000) : 0 ≤ tt V S C a t q i ∧ tt V S C a t q i ≤ 8000000000000 * i := by
  induction i with
  | zero => simp [tt]
  | succ i ih =>
    have h1 := ih (by omega)
    have h2 := qa_bound (C := C) (t := t) (a := a) hV hV' hS hq (i + 1)
    simp only [tt]
    omega
theorem qa_add (i j : Nat) : qa V S C a t q (i + j) = qa V S C a (t + i) (qa V S C a t q i) j := by
  induction j with
  | zero => rfl
  | succ j ih =>
    rw [← Nat.add_assoc]
    simp only [qa, ih]
    rw [show t + ((i + j : Nat) : Int) = t + i + j by omega]
theorem tt_add (i j : Nat) : tt V S C a t q (i + j) = tt V S C a t q i + tt V S C a (t + i) (qa V S C a t q i) j := by
  induction j with
  | zero => simp [tt]
  | succ j ih =>
    rw [← Nat.add_assoc]
    simp only [tt]
    rw [ih, Nat.add_assoc, qa_add]
    omega
/-- Queues that grow by so much, not below nothing: their sum. -/
def ss (q by_ : Int) : Nat → Int
  | 0 => 0
  | j + 1 => ss q by_ j + max 0 (q + by_ * ((j : Int) + 1))
theorem mul_lo {x y B D : Int} (h1 : -B ≤ x) (h2 : x ≤ B) (h3 : 0 ≤ y) (h4 : y ≤ D) (hB : 0 ≤ B) : -(B * D) ≤ x * y ∧ x * y ≤ B * D := by
  have a1 : x * y ≤ B * y := Int.mul_le_mul_of_nonneg_right h2 h3
  have a2 : B * y ≤ B * D := Int.mul_le_mul_of_nonneg_left h4 hB
  have a3 : (-B) * y ≤ x * y := Int.mul_le_mul_of_nonneg_right h1 h3
  have a4 : (-B) * y = -(B * y) := Int.neg_mul _ _
  omega
/-- Alike ticks at once. -/
theorem alike_ok (hV : 0 ≤ V) (hS : 0 ≤ S) (hq : 0 ≤ q) {g : Bool} {k : Nat} (hg : ∀ j : Nat, j < k → gr C a (t + j) = g) (by_ : Int) (hb : by_ = if g = true then V - S else V) (j : Nat) (hj : j ≤ k) :
    qa V S C a t q j = max 0 (q + by_ * j) ∧ tt V S C a t q j = ss q by_ j := by
  induction j with
  | zero =>
    refine ⟨?_, rfl⟩
    have e : by_ * ((0 : Nat) : Int) = 0 := by simp
    rw [e]
    show q = _
    omega
  | succ j ih =>
    obtain ⟨h1, h2⟩ := ih (by omega)
    have key : qa V S C a t q (j + 1) = max 0 (q + by_ * ((j : Int) + 1)) := by
      simp only [qa, h1, hg j (by omega), tk, Int.mul_add, Int.mul_one]
      cases g with
      | true =>
        simp only [if_true] at hb ⊢
        by_cases hp : 0 ≤ by_
        · have := Int.mul_nonneg hp (show (0 : Int) ≤ j by omega)
          omega
        · omega
      | false =>
        simp only [Bool.false_eq_true, if_false] at hb ⊢
        have := Int.mul_nonneg (show 0 ≤ by_ by omega) (show (0 : Int) ≤ j by omega)
        omega
    refine ⟨by rw [key]; rfl, ?_⟩
    simp only [tt, ss, h2, key]
theorem ss_pos {by_ : Int} (hq : 0 ≤ q) (n : Nat) (h : 0 ≤ q + by_ * n) : 2 * ss q by_ n = (q + by_ + (q + by_ * n)) * n := by
  induction n with
  | zero => simp [ss]
  | succ n ih =>
    have hn : 0 ≤ q + by_ * n := by
      by_cases hb : 0 ≤ by_
      · have := Int.mul_nonneg hb (show (0 : Int) ≤ n by omega); omega
      · have e : by_ * ((n + 1 : Nat) : Int) = by_ * n + by_ := by rw [Int.natCast_add, Int.mul_add]; simp
        omega
    have h1 := ih hn
    simp only [ss]
    have e : by_ * ((n + 1 : Nat) : Int) = by_ * n + by_ := by rw [Int.natCast_add, Int.mul_add]; simp
    rw [e] at h ⊢
    rw [show ((n + 1 : Nat) : Int) = (n : Int) + 1 by omega]
    have e2 : by_ * ((n : Int) + 1) = by_ * n + by_ := by rw [Int.mul_add, Int.mul_one]
    rw [Int.mul_add, e2, Int.max_eq_right h]
    simp only [Int.mul_add, Int.add_mul, Int.mul_one] at h1 ⊢
    omega
theorem ss_cut {by_ : Int} (m n : Nat) (hmn : m ≤ n) (h : ∀ j : Nat, m < j → j ≤ n → q + by_ * j ≤ 0) : ss q by_ n = ss q by_ m := by
  induction n with
  | zero => rw [show m = 0 by omega]
  | succ n ih =>
    by_cases e : m = n + 1
    · rw [e]
    · simp only [ss]
      rw [ih (by omega) fun j h1 h2 => h j h1 (by omega)]
      have := h (n + 1) (by omega) (by omega)
      rw [show ((n + 1 : Nat) : Int) = (n : Int) + 1 by omega] at this
      omega
theorem ss_nonneg (by_ : Int) (n : Nat) : 0 ≤ ss q by_ n := by
  induction n with
  | zero => simp [ss]
  | succ n ih => simp only [ss]; omega
theorem ss_le {by_ : Int} (hb : by_ ≤ 1000000000) (hq : 0 ≤ q) (hq' : q ≤ 8000000000000) (n : Nat) (hn : n ≤ 6000) : ss q by_ n ≤ 14000000000000 * n := by
  induction n with
  | zero => simp [ss]
  | succ n ih =>
    have h1 := ih (by omega)
    simp only [ss]
    have h2 : by_ * ((n : Int) + 1) ≤ 1000000000 * 6000 := by
      have h3 : by_ * ((n : Int) + 1) ≤ 1000000000 * ((n : Int) + 1) := Int.mul_le_mul_of_nonneg_right hb (by omega)
      omega
    omega
end
end Go.Proofs.YtiildimlelphhaaGreatDoor.Fn
