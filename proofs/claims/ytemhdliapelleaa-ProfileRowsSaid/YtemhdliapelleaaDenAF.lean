/- Plain tools for the functions' texts: loops whose states are told round by round; numbers. -/
import Derived.Test.YtemhdliapelleaaDenQ
namespace Go.Den
open Go Go.RowKit
namespace Ev
variable {A B X Y : Type}
/-- A loop whose state is told before each round, and what it comes to behind N of them. -/
theorem loop {L : Nat → X → Option (X ⊕ Y)} (st : Nat → X) (N : Nat) (y : Y) {x0 : X} (h0 : x0 = st 0) (h : ∀ i, i < N → Ev (fun n => L n (st i)) (.inl (st (i + 1)))) (h' : Ev (fun n => L n (st N)) (.inr y)) :
    Ev (fun n => iterL n (L n) x0) y := by
  subst h0
  have key : ∀ j, j ≤ N → ∃ M, ∀ k n, M ≤ k → M ≤ n → iterL k (L n) (st (N - j)) = some y := by
    intro j
    induction j with
    | zero =>
      intro _
      obtain ⟨M, hM⟩ := h'
      refine ⟨M + 1, fun k n hk hn => ?_⟩
      cases k with
      | zero => omega
      | succ k =>
        have := hM n (by omega)
        simp only at this
        simp only [iterL, Nat.sub_zero, this, Option.bind_some]
    | succ j ih =>
      intro hj
      obtain ⟨M, hM⟩ := ih (by omega)
      obtain ⟨M', hM'⟩ := h (N - (j + 1)) (by omega)
      refine ⟨max M M' + 1, fun k n hk hn => ?_⟩
      cases k with
      | zero => omega
      | succ k =>
        have := hM' n (by omega)
        simp only at this
        simp only [iterL, this, Option.bind_some]
        rw [show N - (j + 1) + 1 = N - j by omega]
        exact hM k n (by omega) (by omega)
  obtain ⟨M, hM⟩ := key N (Nat.le_refl _)
  rw [Nat.sub_self] at hM
  exact ⟨M, fun n hn => hM n n hn hn⟩
/-- The same, in front of what follows. -/
theorem loopB {L : Nat → X → Option (X ⊕ Y)} {G : Nat → Y → Option B} (st : Nat → X) (N : Nat) (y : Y) {x0 : X} {b : B} (h0 : x0 = st 0) (h : ∀ i, i < N → Ev (fun n => L n (st i)) (.inl (st (i + 1)))) (h' : Ev (fun n => L n (st N)) (.inr y))
    (hG : Ev (fun n => G n y) b) : Ev (fun n => (iterL n (L n) x0).bind (G n)) b := bind (loop st N y h0 h h') hG
theorem bindS {F : Nat → Option A} {G : Nat → A → Option B} {a : A} {b : B} (h : ∀ n, F n = some a) (h' : Ev (fun n => G n a) b) : Ev (fun n => (F n).bind (G n)) b := bind (const h) h'
end Ev
theorem inB_nat (i n : Nat) : inB (i : Int) n = decide (i < n) := by unfold inB; simp
theorem inB_zero (n : Nat) : inB 0 n = decide (0 < n) := inB_nat 0 n
theorem atI_nat {A : Type} (d : A) (l : List A) (i : Nat) : atI d l (i : Int) = l.getD i d := by simp [atI]
theorem atI_zero {A : Type} (d : A) (l : List A) : atI d l 0 = l.getD 0 d := rfl
theorem getD_lt {A : Type} (l : List A) (i : Nat) (d : A) (h : i < l.length) : l.getD i d = l[i] := by simp [List.getD_eq_getElem?_getD, h]
theorem wrap_succ {i : Nat} (h : i < 9223372036854775807) : wrap64 ((i : Int) + 1) = ((i + 1 : Nat) : Int) := by rw [wrap64_id (by omega) (by omega)]; omega
theorem wrap_pred {i : Nat} (h : i < 9223372036854775807) (h' : 0 < i) : wrap64 ((i : Int) - 1) = ((i - 1 : Nat) : Int) := by rw [wrap64_id (by omega) (by omega)]; omega
theorem fitB_ok {n b : Nat} (h : n * b ≤ 140737488355328) : fitB n b = true := by simp [fitB, h]
theorem tmod_pos {a b : Int} (hb : 0 < b) : Int.tmod a b = if 0 ≤ a then a % b else if a % b = 0 then 0 else a % b - b := by
  split
  · rename_i h; exact Int.tmod_eq_emod_of_nonneg h
  · rename_i h
    have h1 := Int.emod_nonneg a (b := b) (by omega)
    have h2 := Int.emod_lt_of_pos a (b := b) hb
    rw [Int.tmod_eq_emod]
    have hn : (b.natAbs : Int) = b := Int.natAbs_of_nonneg (by omega)
    by_cases hd : b ∣ a
    · have : a % b = 0 := Int.emod_eq_zero_of_dvd hd
      simp [hd, this]
    · have : a % b ≠ 0 := fun e => hd (Int.dvd_of_emod_eq_zero e)
      rw [if_neg (show ¬ (0 ≤ a ∨ b ∣ a) by simp [hd]; omega), if_neg this, hn]
theorem both_self {A : Type} (x : Option A) : both x x = x := by simp [both]
theorem ifY_yes {R : Type} {p : Prop} (h : p) (x : Option R) : ifY p x = x := by simp [ifY, h]
theorem len_cast {A : Type} (l : List A) : ((l.length : Nat) : Int) = (l.length : Int) := rfl
theorem take_snoc {A : Type} (l : List A) (i : Nat) (d : A) (h : i < l.length) : l.take (i + 1) = l.take i ++ [l.getD i d] := by rw [getD_lt _ _ _ h]; exact List.take_succ_eq_append_getElem h
end Go.Den
