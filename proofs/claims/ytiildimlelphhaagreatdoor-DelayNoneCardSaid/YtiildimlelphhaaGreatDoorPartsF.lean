/- Lowest terms, of numbers by parts. -/
import Derived.Test.YtiildimlelphhaaGreatDoorPartsE
namespace Go.Proofs.YtiildimlelphhaaGreatDoor.Fn
set_option linter.unusedVariables false
open Go Go.RowKit Go.Den Go.Circ

def undl (l : List Int) : List Nat := l.map Int.toNat
theorem undl_ (c : List Nat) : undl (Dl c) = c := by simp [undl, Dl, Function.comp_def]
theorem madeF_big {x y : Nat} (s : Bool) (h : ¬ (x < 18446744073709551616 ∧ y < 18446744073709551616)) : madeF x y s = (0, 0, 2) := by
  unfold madeF
  rw [if_neg]
  cases s <;> simp <;> omega
theorem lowest_ (a b : List Nat) (s : Bool) (ha : Okd a) (hb : Okd b) (la : a.length ≤ 20) (lb : b.length ≤ 20) (h0 : 0 < val b) : Ev (fun n => ref02_lowest n (Dl a, Dl b, s)) (redF s (val a) (val b)) := by
  have loop := Ev.iterP (Y := ((List Int) × (List Int) × Bool × (List Int) × Int × Int)) (L := fun n (x1 : (List Int) × (List Int) × Bool × (List Int) × (List Int) × Int × Int) =>
    (ref01_Order n (x1.2.2.2.2.1, [])).bind fun y2 =>
    bif !(y2 == 0) then
      (ref02_rest n (x1.2.2.2.1, x1.2.2.2.2.1)).bind fun y3 =>
      some (.inl (x1.1, x1.2.1, x1.2.2.1, x1.2.2.2.2.1, y3, x1.2.2.2.2.2))
    else
    some (.inr (x1.1, x1.2.1, x1.2.2.1, x1.2.2.2.1, x1.2.2.2.2.2)))
    (fun t => ∃ (x y : List Nat), t = (Dl a, Dl b, s, Dl x, Dl y, 0, 0) ∧ Okd x ∧ Okd y ∧ x.length ≤ 20 ∧ y.length ≤ 20 ∧ Nat.gcd (val x) (val y) = Nat.gcd (val a) (val b))
    (fun t => val (undl t.2.2.2.2.1)) (fun z => ∃ x, z = (Dl a, Dl b, s, Dl x, 0, 0) ∧ (Okd x ∧ x.length ≤ 20 ∧ val x = Nat.gcd (val a) (val b))) ?_ (Dl a, Dl b, s, Dl a, Dl b, 0, 0)
    ⟨a, b, rfl, ha, hb, la, lb, rfl⟩
  · obtain ⟨z, h1, x, rfl, hx, lx, vx⟩ := loop
    unfold ref02_lowest
    refine Ev.bind h1 ?_
    have g0 : 0 < val x := by rw [vx]; exact Nat.gcd_pos_of_pos_right _ h0
    have d1 := divided_ a x ha hx la lx g0
    have d2 := divided_ b x hb hx lb lx g0
    rw [redF_made, ← vx]
    generalize val a / val x = A at d1 ⊢
    generalize val b / val x = B at d2 ⊢
    refine Ev.bind d1 (Ev.bind d2 ?_)
    by_cases hA : A < 18446744073709551616
    · by_cases hB : B < 18446744073709551616
      · rw [if_pos hA, if_pos hB]
        simp only [decide_eq_true hA, decide_eq_true hB, Bool.not_true, cond_false, letJ]
        cases s with
        | false =>
          simp only [cond_false, made_ _ A B hA hB]
          exact Ev.ret _
        | true =>
          simp only [cond_true, made_ _ A B hA hB]
          have e : madeF A B (!((A : Int) == 0)) = madeF A B true := by
            by_cases hz : A = 0
            · subst hz; exact madeF_zero B _ _
            · have : ((A : Int) == 0) = false := by rw [beq_eq_false_iff_ne]; omega
              rw [this]; rfl
          rw [e]
          exact Ev.ret _
      · rw [madeF_big s (fun h => hB h.2), if_pos hA, if_neg hB]
        simp only [decide_eq_true hA, decide_eq_false hB, Bool.not_true, Bool.not_false, cond_false, cond_true, letJ]
        exact Ev.ret _
    · rw [madeF_big s (fun h => hA h.1), if_neg hA]
      simp only [decide_eq_false hA, Bool.not_false, cond_true, letJ]
      exact Ev.ret _
  · rintro t ⟨x, y, rfl, hx, hy, lx, ly, hg⟩
    have ord := order_ y [] hy (show Okd [] from fun x hx => nomatch hx) (by omega) (by simp)
    rw [show val [] = 0 from rfl] at ord
    by_cases hy0 : val y = 0
    · right
      have e : (!(ordF (val y) 0 == 0)) = false := by rw [hy0]; rfl
      refine ⟨_, Ev.bind ord ?_, x, rfl, hx, lx, by rw [← hg, hy0, Nat.gcd_zero_right]⟩
      simp only [e, cond_false]
      exact Ev.ret _
    · left
      have e : (!(ordF (val y) 0 == 0)) = true := by unfold ordF; rw [if_neg (by omega), if_pos (by omega)]; rfl
      obtain ⟨r, ⟨hr, vr, lr⟩, er⟩ := resto_ x y hx hy lx ly (by omega)
      refine ⟨(Dl a, Dl b, s, Dl y, Dl r, 0, 0), Ev.bind ord ?_, ⟨y, r, rfl, hy, hr, ly, lr, ?_⟩, ?_⟩
      · simp only [e, cond_true]
        exact Ev.bind er (Ev.ret _)
      · rw [vr, ← hg, Nat.gcd_comm (val x) (val y), Nat.gcd_rec (val y) (val x), Nat.gcd_comm]
      · simp only [undl_, vr]
        exact Nat.mod_lt _ (by omega)
end Go.Proofs.YtiildimlelphhaaGreatDoor.Fn
