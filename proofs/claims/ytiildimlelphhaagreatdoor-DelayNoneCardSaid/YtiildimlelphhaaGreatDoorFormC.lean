/- The formula whole. -/
import Derived.Test.YtiildimlelphhaaGreatDoorFormB
namespace Go.Proofs.YtiildimlelphhaaGreatDoor.Fn
set_option linter.unusedVariables false
open Go Go.RowKit Go.Den Go.Circ

def formBad (c g a d : Int) : Prop := c < 1 ∨ 6000 < c ∨ g < 0 ∨ c < g ∨ rgt a d = false ∨ a < 0
theorem pform_bad (c g a d : Int) (ha : I64 a) (hd : I64 d) (h : formBad c g a d) : Ev (fun n => delay_Formula n (c, g, a, d)) (0, 0, 1) := by
  unfold delay_Formula letJ
  unfold formBad at h
  by_cases h1 : c < 1
  · simp only [decide_eq_true h1, cT]; exact Ev.ret _
  by_cases h2 : 6000 < c
  · simp only [decide_eq_false h1, decide_eq_true h2, cT, cF]; exact Ev.ret _
  by_cases h3 : g < 0
  · simp only [decide_eq_false h1, decide_eq_false h2, decide_eq_true h3, cT, cF]; exact Ev.ret _
  by_cases h4 : c < g
  · simp only [decide_eq_false h1, decide_eq_false h2, decide_eq_false h3, decide_eq_true h4, cT, cF]; exact Ev.ret _
  simp only [decide_eq_false h1, decide_eq_false h2, decide_eq_false h3, decide_eq_false h4, cF]
  refine Ev.bind (fright_ a d ha hd) ?_
  cases h5 : rgt a d with
  | false => simp only [Bool.not_false, cT]; exact Ev.ret _
  | true =>
    have h6 : a < 0 := by rcases h with h | h | h | h | h | h <;> first | exact h | (exact absurd h ‹_›) | (rw [h5] at h; exact absurd h (by decide))
    simp only [Bool.not_true, cF, decide_eq_true h6, cT]; exact Ev.ret _
theorem rform_bad (c g a d : Int) (ha : I64 a) (hd : I64 d) (h : formBad c g a d) : Ev (fun n => ref26_Formula n (c, g, a, d)) (0, 0, 1) := by
  unfold ref26_Formula letJ
  unfold formBad at h
  by_cases h1 : c < 1
  · simp only [decide_eq_true h1, cT]; exact Ev.ret _
  by_cases h2 : 6000 < c
  · simp only [decide_eq_false h1, decide_eq_true h2, cT, cF]; exact Ev.ret _
  by_cases h3 : g < 0
  · simp only [decide_eq_false h1, decide_eq_false h2, decide_eq_true h3, cT, cF]; exact Ev.ret _
  by_cases h4 : c < g
  · simp only [decide_eq_false h1, decide_eq_false h2, decide_eq_false h3, decide_eq_true h4, cT, cF]; exact Ev.ret _
  simp only [decide_eq_false h1, decide_eq_false h2, decide_eq_false h3, decide_eq_false h4, cF]
  refine Ev.bind (rright02_ a d ha hd) ?_
  cases h5 : rgt a d with
  | false => simp only [Bool.not_false, cT]; exact Ev.ret _
  | true =>
    have h6 : a < 0 := by rcases h with h | h | h | h | h | h <;> first | exact h | (exact absurd h ‹_›) | (rw [h5] at h; exact absurd h (by decide))
    simp only [Bool.not_true, cF, decide_eq_true h6, cT]; exact Ev.ret _
/-- The formula: the program's and the document's answers are one. -/
theorem formula_ (c g a d : Int) (ha : I64 a) (hd : I64 d) : ∃ X : Int × Int × Int, Ev (fun n => delay_Formula n (c, g, a, d)) X ∧ Ev (fun n => ref26_Formula n (c, g, a, d)) X ∧
    (X.2.2 = 0 → ∃ C G A D : Nat, c = (C : Int) ∧ g = (G : Int) ∧ a = (A : Int) ∧ d = (D : Int) ∧ 1 ≤ C ∧ C ≤ 6000 ∧ G ≤ C ∧ A < D ∧ FormOk C G A D X) := by
  by_cases hb : formBad c g a d
  · exact ⟨(0, 0, 1), pform_bad c g a d ha hd hb, rform_bad c g a d ha hd hb, fun h => absurd h (by decide)⟩
  have h1 : ¬ c < 1 := fun h => hb (.inl h)
  have h2 : ¬ 6000 < c := fun h => hb (.inr (.inl h))
  have h3 : ¬ g < 0 := fun h => hb (.inr (.inr (.inl h)))
  have h4 : ¬ c < g := fun h => hb (.inr (.inr (.inr (.inl h))))
  have h6 : ¬ a < 0 := fun h => hb (.inr (.inr (.inr (.inr (.inr h)))))
  have h5 : rgt a d = true := by
    cases h : rgt a d with
    | true => rfl
    | false => exact absurd (.inr (.inr (.inr (.inr (.inl h))))) hb
  have hd1 := rgt_pos h5
  clear hb
  obtain ⟨C, rfl⟩ := Int.eq_ofNat_of_zero_le (show 0 ≤ c by omega)
  obtain ⟨G, rfl⟩ := Int.eq_ofNat_of_zero_le (show 0 ≤ g by omega)
  obtain ⟨A, rfl⟩ := Int.eq_ofNat_of_zero_le (show 0 ≤ a by omega)
  obtain ⟨D, rfl⟩ := Int.eq_ofNat_of_zero_le (show 0 ≤ d by omega)
  have hA := ha.2
  have hD := hd.2
  have cmp := rcmp_ A D 1 1 (by omega) (by omega) (by omega) (by omega) h5 rgt_one
  rw [Nat.mul_one, Nat.one_mul] at cmp
  have one : ((1 : Nat) : Int) = 1 := rfl
  rw [one] at cmp
  by_cases hdle : D ≤ A
  · refine ⟨(0, 0, 150), ?_, ?_, fun h => absurd h (by decide)⟩
    · unfold delay_Formula letJ
      simp only [decide_eq_false h1, decide_eq_false h2, decide_eq_false h3, decide_eq_false h4, cF]
      refine Ev.bind (fright_ _ _ ha hd) ?_
      simp only [h5, Bool.not_true, cF, decide_eq_false h6, decide_eq_true (show (D : Int) ≤ (A : Int) by omega), cT]
      exact Ev.ret _
    · unfold ref26_Formula letJ
      simp only [decide_eq_false h1, decide_eq_false h2, decide_eq_false h3, decide_eq_false h4, cF]
      refine Ev.bind (rright02_ _ _ ha hd) ?_
      simp only [h5, Bool.not_true, cF, decide_eq_false h6]
      refine Ev.bind cmp ?_
      simp only [ordF_ge, decide_eq_true hdle, cT]
      exact Ev.ret _
  · obtain ⟨X, m1, m2, m3⟩ := main_ C G A D (by omega) (by omega) (by omega) (by omega) (by omega) h5
    refine ⟨X, ?_, ?_, fun h => ⟨C, G, A, D, rfl, rfl, rfl, rfl, by omega, by omega, by omega, by omega, m3 h⟩⟩
    · unfold delay_Formula letJ
      simp only [decide_eq_false h1, decide_eq_false h2, decide_eq_false h3, decide_eq_false h4, cF]
      refine Ev.bind (fright_ _ _ ha hd) ?_
      simp only [h5, Bool.not_true, cF, decide_eq_false h6, decide_eq_false (show ¬ (D : Int) ≤ (A : Int) by omega)]
      exact m1
    · unfold ref26_Formula letJ
      simp only [decide_eq_false h1, decide_eq_false h2, decide_eq_false h3, decide_eq_false h4, cF]
      refine Ev.bind (rright02_ _ _ ha hd) ?_
      simp only [h5, Bool.not_true, cF, decide_eq_false h6]
      refine Ev.bind cmp ?_
      simp only [ordF_ge, decide_eq_false hdle, cF]
      exact m2
end Go.Proofs.YtiildimlelphhaaGreatDoor.Fn
