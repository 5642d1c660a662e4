/- Numbers by parts of 16 bits, as the document's chapter 1 has them. -/
import Derived.Test.YtiildimlelphhaaGreatDoorFracR
import Derived.Test.YtiildimlelphhaaGreatDoorFnF0
namespace Go.Proofs.YtiildimlelphhaaGreatDoor.Fn
set_option linter.unusedVariables false
open Go Go.RowKit Go.Den Go.Circ

/-! ### Digits, and what they are worth -/
def Sg (f : Nat → Nat) : Nat → Nat
  | 0 => 0
  | n + 1 => Sg f n + f n * 65536 ^ n
theorem Sg_lt {f : Nat → Nat} (n : Nat) (h : ∀ j, j < n → f j < 65536) : Sg f n < 65536 ^ n := by
  induction n with
  | zero => simp [Sg]
  | succ n ih =>
    have h1 := ih fun j hj => h j (by omega)
    have h2 := h n (by omega)
    simp only [Sg]
    have h3 : f n * 65536 ^ n + 65536 ^ n ≤ 65536 * 65536 ^ n := by
      have := Nat.mul_le_mul_right (65536 ^ n) (show f n + 1 ≤ 65536 by omega)
      rw [Nat.add_mul, Nat.one_mul] at this
      exact this
    rw [Nat.pow_succ, Nat.mul_comm (65536 ^ n) 65536]
    omega
theorem Sg_congr {f g : Nat → Nat} (n : Nat) (h : ∀ j, j < n → f j = g j) : Sg f n = Sg g n := by
  induction n with
  | zero => rfl
  | succ n ih => simp only [Sg]; rw [ih fun j hj => h j (by omega), h n (by omega)]
theorem Sg_lex {f g : Nat → Nat} (hf : ∀ j, f j < 65536) (hg : ∀ j, g j < 65536) {i n : Nat} (hi : i < n) (he : ∀ j, i < j → j < n → f j = g j) (hlt : f i < g i) : Sg f n < Sg g n := by
  induction n with
  | zero => omega
  | succ n ih =>
    simp only [Sg]
    by_cases e : i = n
    · subst e
      have h1 := Sg_lt (f := f) i fun j _ => hf j
      have h3 : f i * 65536 ^ i + 65536 ^ i ≤ g i * 65536 ^ i := by
        have := Nat.mul_le_mul_right (65536 ^ i) (show f i + 1 ≤ g i by omega)
        rw [Nat.add_mul, Nat.one_mul] at this
        exact this
      omega
    · rw [he n (by omega) (by omega)]
      have := ih (by omega) fun j h1 h2 => he j h1 (by omega)
      omega
theorem Sg_split (f : Nat → Nat) (m k : Nat) : Sg f (m + k) = Sg f m + 65536 ^ m * Sg (fun j => f (m + j)) k := by
  induction k with
  | zero => simp [Sg]
  | succ k ih =>
    rw [← Nat.add_assoc]
    simp only [Sg]
    rw [ih, Nat.mul_add, Nat.pow_add, Nat.add_assoc]
    congr 2
    rw [← Nat.mul_assoc, ← Nat.mul_assoc, Nat.mul_comm (f (m + k))]
def dg (l : List Nat) (i : Nat) : Nat := l.getD i 0
def Okd (l : List Nat) : Prop := ∀ x ∈ l, x < 65536
def val (l : List Nat) : Nat := Sg (dg l) l.length
theorem dg_out {l : List Nat} {i : Nat} (h : l.length ≤ i) : dg l i = 0 := by simp [dg, List.getD_eq_getElem?_getD, List.getElem?_eq_none h]
theorem dg_lt {l : List Nat} (h : Okd l) (i : Nat) : dg l i < 65536 := by
  unfold dg
  by_cases hi : i < l.length
  · rw [getD_lt _ _ _ hi]; exact h _ (List.getElem_mem hi)
  · have := dg_out (l := l) (i := i) (by omega)
    unfold dg at this
    omega
theorem val_at (l : List Nat) {n : Nat} (h : l.length ≤ n) : Sg (dg l) n = val l := by
  obtain ⟨k, rfl⟩ : ∃ k, n = l.length + k := ⟨n - l.length, by omega⟩
  induction k with
  | zero => rfl
  | succ k ih =>
    rw [← Nat.add_assoc]
    simp only [Sg]
    rw [ih (by omega), dg_out (by omega)]
    omega
theorem val_lt {l : List Nat} (h : Okd l) : val l < 65536 ^ l.length := Sg_lt _ fun j _ => dg_lt h j
theorem dg_snoc (l : List Nat) (d i : Nat) : dg (l ++ [d]) i = if i < l.length then dg l i else if i = l.length then d else 0 := by
  unfold dg
  by_cases h : i < l.length
  · rw [if_pos h, List.getD_eq_getElem?_getD, List.getElem?_append_left h, ← List.getD_eq_getElem?_getD]
  · rw [if_neg h, List.getD_eq_getElem?_getD, List.getElem?_append_right (by omega)]
    by_cases e : i = l.length
    · rw [if_pos e, e]; simp
    · rw [if_neg e, List.getElem?_eq_none (by simp; omega)]; rfl
theorem val_snoc (l : List Nat) (d : Nat) : val (l ++ [d]) = val l + d * 65536 ^ l.length := by
  unfold val
  rw [List.length_append]
  show Sg _ (l.length + 1) = _
  simp only [Sg]
  rw [dg_snoc, if_neg (by omega), if_pos rfl]
  congr 1
  exact Sg_congr _ fun j hj => by rw [dg_snoc, if_pos hj]
theorem ok_snoc {l : List Nat} {d : Nat} (h : Okd l) (hd : d < 65536) : Okd (l ++ [d]) := by
  intro x hx
  rcases List.mem_append.1 hx with h1 | h1
  · exact h x h1
  · rw [List.mem_singleton.1 h1]; exact hd
/-- As the program holds them. -/
def Dl (l : List Nat) : List Int := l.map fun (x : Nat) => (x : Int)
theorem Dl_len (l : List Nat) : (Dl l).length = l.length := by simp [Dl]
theorem atI_Dl (l : List Nat) (i : Nat) : atI 0 (Dl l) (i : Int) = (dg l i : Int) := by
  rw [atI_nat]
  unfold Dl dg
  simp only [List.getD_eq_getElem?_getD, List.getElem?_map]
  cases l[i]? <;> rfl
theorem Dl_snoc (l : List Nat) (d : Nat) : Dl l ++ [(d : Int)] = Dl (l ++ [d]) := by simp [Dl]
theorem Dl_nil : ([] : List Int) = Dl [] := rfl
theorem tmod16 (x : Nat) : Int.tmod (x : Int) 65536 = ((x % 65536 : Nat) : Int) := by rw [Int.tmod_eq_emod_of_nonneg (by omega)]; rfl
theorem tdiv16 (x : Nat) : Int.tdiv (x : Int) 65536 = ((x / 65536 : Nat) : Int) := by rw [Int.tdiv_eq_ediv_of_nonneg (by omega)]; rfl
theorem wun {x : Nat} (h : x < 18446744073709551616) : IntKind.wrap .u64 (x : Int) = (x : Int) := by rw [wu64]; omega
theorem fit8 {n : Nat} (h : n ≤ 100000) : fitB n 8 = true := fitB_ok (by omega)
theorem fit24 {n : Nat} (h : n ≤ 100000) : fitB n 24 = true := fitB_ok (by omega)
theorem n16 : (!((65536 : Int) == 0)) = true := rfl
end Go.Proofs.YtiildimlelphhaaGreatDoor.Fn
