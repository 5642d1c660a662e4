/- Chapter 3's functions, of the program: rests, meets, turns, totals, the widest arc, gaps. -/
import Derived.Test.YtemhdliapelleaaCircFnB
namespace Go.Proofs.Ytemhdliapelleaa.Fn
open Go Go.RowKit Go.Den Go.Circ
set_option linter.unusedVariables false

/-! ### Rests, meets -/
def restOf (C : Int) (l : List (Int × Int)) : List (Int × Int) := if 1 ≤ C ∧ C ≤ 6000 then arcsOf C (between C 0 (piecesOf C l)) else []
theorem between_good {C : Int} (h1 : 1 ≤ C) {P : List (Int × Int)} (hg : PGood C P) : PGood C (between C 0 P) ∧ ∀ j, 0 ≤ j → j < C → (Cov (between C 0 P) j ↔ ¬ Cov P j) := by
  obtain ⟨b1, _, b3⟩ := between_ok P 0 hg (by omega) (by omega) (fun p hp => (hg.all p hp).1)
  exact ⟨b1, b3⟩
theorem rest_ (C : Int) (l : List (Int × Int)) (hl : l.length ≤ 1000) : Ev (fun n => circle_Rest n (C, l)) (restOf C l) := by
  unfold circle_Rest restOf
  refine Ev.bindS (fun n => cycle_ n C) ?_
  have h3 := piecesOf_len C l
  have h4 := between_len C (piecesOf C l) 0
  by_cases hc : 1 ≤ C ∧ C ≤ 6000
  · rw [decide_eq_true hc, if_pos hc]
    simp only [Bool.not_true, cond_false]
    refine Ev.bind (pieces_ C l hl) (Ev.bind (between_ C _ (by omega)) (Ev.bind (arcs_ hc.2 (between_good hc.1 (piecesOf_good C l)).1 (by omega)) (Ev.ret _)))
  · rw [decide_eq_false hc, if_neg hc]
    exact Ev.ret _
theorem restOf_len (C : Int) (l : List (Int × Int)) : (restOf C l).length ≤ 2 * l.length + 1 := by
  have h3 := piecesOf_len C l
  have h4 := between_len C (piecesOf C l) 0
  have h5 := arcsOf_len C (between C 0 (piecesOf C l))
  unfold restOf; split
  · omega
  · simp
theorem restOf_arcs {C : Int} (h1 : 1 ≤ C) (h2 : C ≤ 6000) (l : List (Int × Int)) : Arcs C (fun j => ¬ TS C l j) (restOf C l) := by
  unfold restOf; rw [if_pos ⟨h1, h2⟩]
  obtain ⟨b1, b3⟩ := between_good h1 (piecesOf_good C l)
  exact (arcsOf_ok b1).congr h1 fun j hj hj' => (b3 j hj hj').trans (not_congr (piecesOf_cov h1 h2 l hj hj'))
theorem restOf_ts {C : Int} (h1 : 1 ≤ C) (h2 : C ≤ 6000) (l : List (Int × Int)) {j : Int} (hj : 0 ≤ j) (hj' : j < C) : TS C (restOf C l) j ↔ ¬ TS C l j := by
  unfold restOf; rw [if_pos ⟨h1, h2⟩]
  obtain ⟨b1, b3⟩ := between_good h1 (piecesOf_good C l)
  exact (arcsOf_ts b1 hj hj').trans ((b3 j hj hj').trans (not_congr (piecesOf_cov h1 h2 l hj hj')))
theorem restOf_out {C : Int} (h : ¬ (1 ≤ C ∧ C ≤ 6000)) (l : List (Int × Int)) : restOf C l = [] := by unfold restOf; rw [if_neg h]
def meetOf (C : Int) (a b : List (Int × Int)) : List (Int × Int) := arcsOf C (common (piecesOf C a) (piecesOf C b))
theorem meet_ (C : Int) (a b : List (Int × Int)) (ha : a.length ≤ 1000) (hb : b.length ≤ 1000) : Ev (fun n => circle_Meet n (C, a, b)) (meetOf C a b) := by
  unfold circle_Meet meetOf
  have h1 := piecesOf_len C a
  have h2 := piecesOf_len C b
  have h3 := common_len _ (piecesOf C a) (piecesOf C b) rfl
  refine Ev.bind (pieces_ C a ha) (Ev.bind (pieces_ C b hb) (Ev.bind (common_ _ _ (by omega) (by omega)) ?_))
  by_cases hc : C ≤ 6000
  · exact Ev.bind (arcs_ hc (common_ok _ _ _ rfl (piecesOf_good C a) (piecesOf_good C b)).1 (by omega)) (Ev.ret _)
  · rw [piecesOf_out (.inr (by omega)), piecesOf_out (.inr (by omega)), show common [] [] = [] by simp [common]]
    exact Ev.bind (arcs_nil C) (Ev.ret _)
theorem meetOf_len (C : Int) (a b : List (Int × Int)) : (meetOf C a b).length ≤ 2 * a.length + 2 * b.length := by
  have h1 := piecesOf_len C a
  have h2 := piecesOf_len C b
  have h3 := common_len _ (piecesOf C a) (piecesOf C b) rfl
  have h4 := arcsOf_len C (common (piecesOf C a) (piecesOf C b))
  unfold meetOf; omega
theorem meetOf_arcs {C : Int} (h1 : 1 ≤ C) (h2 : C ≤ 6000) (a b : List (Int × Int)) : Arcs C (fun j => TS C a j ∧ TS C b j) (meetOf C a b) := by
  obtain ⟨c1, _, c3⟩ := common_ok _ _ _ rfl (piecesOf_good C a) (piecesOf_good C b)
  exact (arcsOf_ok c1).congr h1 fun j hj hj' => (c3 j).trans (and_congr (piecesOf_cov h1 h2 a hj hj') (piecesOf_cov h1 h2 b hj hj'))
theorem meetOf_ts {C : Int} (h1 : 1 ≤ C) (h2 : C ≤ 6000) (a b : List (Int × Int)) {j : Int} (hj : 0 ≤ j) (hj' : j < C) : TS C (meetOf C a b) j ↔ TS C a j ∧ TS C b j := by
  obtain ⟨c1, _, c3⟩ := common_ok _ _ _ rfl (piecesOf_good C a) (piecesOf_good C b)
  exact (arcsOf_ts c1 hj hj').trans ((c3 j).trans (and_congr (piecesOf_cov h1 h2 a hj hj') (piecesOf_cov h1 h2 b hj hj')))
theorem meetOf_out {C : Int} (h : C < 1 ∨ 6000 < C) (a b : List (Int × Int)) : meetOf C a b = [] := by
  unfold meetOf; rw [piecesOf_out h, piecesOf_out h, show common [] [] = [] by simp [common]]; rfl
def lessOf (C : Int) (a b : List (Int × Int)) : List (Int × Int) := if 1 ≤ C ∧ C ≤ 6000 then arcsOf C (common (piecesOf C a) (between C 0 (piecesOf C b))) else []
theorem less_ (C : Int) (a b : List (Int × Int)) (ha : a.length ≤ 1000) (hb : b.length ≤ 1000) : Ev (fun n => circle_Less n (C, a, b)) (lessOf C a b) := by
  unfold circle_Less lessOf
  have h1 := piecesOf_len C a
  have h2 := piecesOf_len C b
  have h4 := between_len C (piecesOf C b) 0
  have h3 := common_len _ (piecesOf C a) (between C 0 (piecesOf C b)) rfl
  refine Ev.bindS (fun n => cycle_ n C) ?_
  by_cases hc : 1 ≤ C ∧ C ≤ 6000
  · rw [decide_eq_true hc, if_pos hc]
    simp only [Bool.not_true, cond_false]
    exact Ev.bind (pieces_ C a ha) (Ev.bind (pieces_ C b hb) (Ev.bind (between_ C _ (by omega)) (Ev.bind (common_ _ _ (by omega) (by omega))
      (Ev.bind (arcs_ hc.2 (common_ok _ _ _ rfl (piecesOf_good C a) (between_good hc.1 (piecesOf_good C b)).1).1 (by omega)) (Ev.ret _)))))
  · rw [decide_eq_false hc, if_neg hc]
    exact Ev.ret _
theorem lessOf_arcs {C : Int} (h1 : 1 ≤ C) (h2 : C ≤ 6000) (a b : List (Int × Int)) : Arcs C (fun j => TS C a j ∧ ¬ TS C b j) (lessOf C a b) := by
  unfold lessOf; rw [if_pos ⟨h1, h2⟩]
  obtain ⟨b1, b3⟩ := between_good h1 (piecesOf_good C b)
  obtain ⟨c1, _, c3⟩ := common_ok _ _ _ rfl (piecesOf_good C a) b1
  exact (arcsOf_ok c1).congr h1 fun j hj hj' => (c3 j).trans (and_congr (piecesOf_cov h1 h2 a hj hj') ((b3 j hj hj').trans (not_congr (piecesOf_cov h1 h2 b hj hj'))))
theorem lessOf_ts {C : Int} (h1 : 1 ≤ C) (h2 : C ≤ 6000) (a b : List (Int × Int)) {j : Int} (hj : 0 ≤ j) (hj' : j < C) : TS C (lessOf C a b) j ↔ TS C a j ∧ ¬ TS C b j := by
  unfold lessOf; rw [if_pos ⟨h1, h2⟩]
  obtain ⟨b1, b3⟩ := between_good h1 (piecesOf_good C b)
  obtain ⟨c1, _, c3⟩ := common_ok _ _ _ rfl (piecesOf_good C a) b1
  exact (arcsOf_ts c1 hj hj').trans ((c3 j).trans (and_congr (piecesOf_cov h1 h2 a hj hj') ((b3 j hj hj').trans (not_congr (piecesOf_cov h1 h2 b hj hj')))))
theorem lessOf_out {C : Int} (h : ¬ (1 ≤ C ∧ C ≤ 6000)) (a b : List (Int × Int)) : lessOf C a b = [] := by unfold lessOf; rw [if_neg h]
theorem lessOf_len (C : Int) (a b : List (Int × Int)) : (lessOf C a b).length ≤ 2 * a.length + 2 * b.length + 1 := by
  have h1 := piecesOf_len C a
  have h2 := piecesOf_len C b
  have h4 := between_len C (piecesOf C b) 0
  have h3 := common_len _ (piecesOf C a) (between C 0 (piecesOf C b)) rfl
  have h5 := arcsOf_len C (common (piecesOf C a) (between C 0 (piecesOf C b)))
  unfold lessOf; split
  · omega
  · simp
/-! ### Turns -/
/-- Norm, and turned. -/
def turn1 (C by_ : Int) (a : Int × Int) : Int × Int := ((normOf C a).1 + by_ % max C 1, (normOf C a).2)
def turnOf (C : Int) (l : List (Int × Int)) (by_ : Int) : List (Int × Int) := setOf C (l.map (turn1 C by_))
theorem turn_ (C : Int) (hC : C ≤ 9223372036854775807) (l : List (Int × Int)) (by_ : Int) (hl : l.length ≤ 1000) : Ev (fun n => circle_Turn n (C, l, by_)) (turnOf C l by_) := by
  unfold circle_Turn turnOf
  refine Ev.loopB (st := fun i => (C, by_, l, (l.length : Int), (i : Int), (l.take i).map (turn1 C by_))) l.length (C, l.map (turn1 C by_)) (by simp) (fun i hi => ?_) ?_ ?_
  · refine Ev.const fun n => ?_
    have hmx : mx C 1 = max C 1 := mx_eq _ _
    have hf : fitB (min i l.length + 1) 16 = true := fitB_ok (by omega)
    simp only [Int.ofNat_lt, hi, decide_true, cond_true, inB_nat, atI_nat, norm_, Option.bind_some, hmx, modulo_ n by_ (max C 1) (by omega) (by omega), take_snoc l i (0, 0) hi, wrap_succ (show i < 9223372036854775807 by omega), List.map_append, List.length_map, List.length_take, List.length_cons, List.length_nil, Nat.zero_add, hf]
    generalize l.getD i (0, 0) = a
    have q1 := Int.emod_nonneg by_ (b := max C 1) (by omega)
    have q2 := Int.emod_lt_of_pos by_ (b := max C 1) (by omega)
    have hw : wrap64 ((normOf C a).1 + by_ % max C 1) = (normOf C a).1 + by_ % max C 1 := by
      by_cases hc : 1 ≤ C ∧ C ≤ 6000
      · have := normOf_at hc.1 a
        exact wrap64_id (by omega) (by omega)
      · have : normOf C a = (0, 0) := by unfold normOf; rw [if_pos (by omega)]
        rw [this]
        exact wrap64_id (by simp only; omega) (by simp only; omega)
    rw [hw]
    rfl
  · exact Ev.const fun n => by simp
  · exact Ev.bind (set_ C _ (by simpa using hl)) (Ev.ret _)
theorem turn1_has {C : Int} (h1 : 1 ≤ C) (h2 : C ≤ 6000) (by_ : Int) (a : Int × Int) (j : Int) : HasT C (turn1 C by_ a) j ↔ HasT C a (j - by_) := by
  rw [← normOf_in h1 h2 a (j - by_)]
  unfold HasT turn1
  rw [show max C 1 = C by omega]
  simp only
  have : (j - ((normOf C a).1 + by_ % C)) % C = (j - by_ - (normOf C a).1) % C := by
    rw [show j - ((normOf C a).1 + by_ % C) = j - (normOf C a).1 - by_ % C by omega, Int.sub_emod_emod]
    congr 1; omega
  rw [this]
theorem turn_ts {C : Int} (h1 : 1 ≤ C) (h2 : C ≤ 6000) (by_ : Int) (l : List (Int × Int)) (j : Int) : TS C (l.map (turn1 C by_)) j ↔ TS C l (j - by_) := by
  simp only [TS, List.mem_map]
  constructor
  · rintro ⟨_, ⟨a, ha, rfl⟩, h⟩; exact ⟨a, ha, (turn1_has h1 h2 by_ a j).1 h⟩
  · rintro ⟨a, ha, h⟩; exact ⟨_, ⟨a, ha, rfl⟩, (turn1_has h1 h2 by_ a j).2 h⟩
theorem turnOf_arcs {C : Int} (h1 : 1 ≤ C) (h2 : C ≤ 6000) (l : List (Int × Int)) (by_ : Int) : Arcs C (fun j => TS C l (j - by_)) (turnOf C l by_) :=
  (setOf_arcs h1 h2 _).congr h1 fun j _ _ => turn_ts h1 h2 by_ l j
theorem turnOf_ts {C : Int} (h1 : 1 ≤ C) (h2 : C ≤ 6000) (l : List (Int × Int)) (by_ : Int) {j : Int} (hj : 0 ≤ j) (hj' : j < C) : TS C (turnOf C l by_) j ↔ TS C l (j - by_) :=
  (setOf_ts h1 h2 _ hj hj').trans (turn_ts h1 h2 by_ l j)
theorem turnOf_out {C : Int} (h : C < 1 ∨ 6000 < C) (l : List (Int × Int)) (by_ : Int) : turnOf C l by_ = [] := setOf_out h _
theorem turnOf_len (C : Int) (l : List (Int × Int)) (by_ : Int) : (turnOf C l by_).length ≤ 2 * l.length := by
  have := setOf_len C (l.map (turn1 C by_)); unfold turnOf; simpa using this
theorem HasT.mod (C : Int) (a : Int × Int) (j : Int) : HasT C a (j % C) ↔ HasT C a j := by unfold HasT; rw [Int.emod_sub_emod]
theorem TS.mod (C : Int) (l : List (Int × Int)) (j : Int) : TS C l (j % C) ↔ TS C l j := by simp only [TS, HasT.mod]
/-! ### Totals -/
theorem total_take (P : List (Int × Int)) (i : Nat) (h : i < P.length) : totalOf (P.take (i + 1)) = totalOf (P.take i) + ((P.getD i (0, 0)).2 - (P.getD i (0, 0)).1) := by
  rw [take_snoc P i (0, 0) h]; simp [totalOf]
theorem total_bound {P : List (Int × Int)} (hb : ∀ p ∈ P, 0 ≤ p.2 - p.1 ∧ p.2 - p.1 ≤ 6000) : 0 ≤ totalOf P ∧ totalOf P ≤ 6000 * P.length := by
  induction P with
  | nil => simp [totalOf]
  | cons p P ih =>
    have := hb p (by simp)
    have := ih fun q hq => hb q (by simp [hq])
    simp only [totalOf, List.map_cons, List.sum_cons, List.length_cons] at *
    omega
theorem totalfn_ (C : Int) (l : List (Int × Int)) (hl : l.length ≤ 1000) : Ev (fun n => circle_Total n (C, l)) (totalOf (piecesOf C l)) := by
  unfold circle_Total
  refine Ev.bind (pieces_ C l hl) ?_
  have h3 := piecesOf_len C l
  have hb : ∀ p ∈ piecesOf C l, (0 ≤ p.1 ∧ p.2 ≤ 6000) ∧ 0 ≤ p.2 - p.1 ∧ p.2 - p.1 ≤ 6000 := by
    by_cases h : 1 ≤ C ∧ C ≤ 6000
    · intro p hp; have := (piecesOf_good C l).all p hp; omega
    · rw [piecesOf_out (by omega)]; intro p hp; cases hp
  generalize piecesOf C l = P at *
  refine Ev.loopB (st := fun i => (totalOf (P.take i), (P.length : Int), (i : Int), P)) P.length (totalOf P) (by simp [totalOf]) (fun i hi => ?_) ?_ ?_
  · refine Ev.const fun n => ?_
    have hp := hb (P.getD i (0, 0)) (by rw [getD_lt _ _ _ hi]; exact List.getElem_mem hi)
    have ht := total_bound (P := P.take i) fun p hp => (hb p (List.mem_of_mem_take hp)).2
    simp only [List.length_take] at ht
    simp only [Int.ofNat_lt, hi, decide_true, cond_true, inB_nat, atI_nat, wrap_succ (show i < 9223372036854775807 by omega), total_take P i hi]
    generalize P.getD i (0, 0) = p at *
    rw [wrap64_id (n := p.2 - p.1) (by omega) (by omega), wrap64_id (by omega) (by omega)]
  · exact Ev.const fun n => by simp
  · exact Ev.ret _
/-! ### The widest arc -/
def wide (m x : Int × Int) : Int × Int := if m.2 < x.2 then x else m
def widestOf : List (Int × Int) → Int × Int
  | [] => (0, 0)
  | a :: r => r.foldl wide a
theorem cmpfn_ (n : Nat) (a b : Int) : cmp_Compare n (a, b) = some (if a < b then -1 else if b < a then 1 else 0) := by
  unfold cmp_Compare cmp_isNaN
  simp only [beq_self_eq_true, Bool.not_true, Option.bind_some, cond_false]
  by_cases h : a < b
  · simp [h]
  · by_cases h' : b < a <;> simp [h, h']
theorem maxfn_ (a : Int × Int) (r : List (Int × Int)) (hl : r.length ≤ 100000) : Ev (fun n => slices_MaxFunc n (a :: r)) (widestOf (a :: r)) := by
  unfold slices_MaxFunc
  have c1 : decide ((((a :: r).length : Nat) : Int) < 1) = false := decide_eq_false (by simp only [List.length_cons]; omega)
  have c2 : inB 0 (a :: r).length = true := by rw [inB_zero]; simp
  simp only [c1, c2, cond_true, cond_false]
  refine Ev.loopB (st := fun i => (a :: r, ((i + 1 : Nat) : Int), (0 : Int), (0 : Int), (r.take i).foldl wide a)) r.length (0, 0, r.foldl wide a) (by simp [atI_zero]) (fun i hi => ?_) ?_ ?_
  · refine Ev.const fun n => ?_
    have hlt : i + 1 < (a :: r).length := by simp only [List.length_cons]; omega
    have hg : (a :: r).getD (i + 1) (0, 0) = r.getD i (0, 0) := by simp
    simp only [Int.ofNat_lt, hlt, decide_true, cond_true, inB_nat, atI_nat, hg, wrap_succ (show i + 1 < 9223372036854775807 by omega), circle_Widest_1, cmpfn_, Option.bind_some, take_snoc r i (0, 0) hi, List.foldl_append, List.foldl_cons, List.foldl_nil]
    generalize r.getD i (0, 0) = x
    generalize (r.take i).foldl wide a = m
    unfold wide
    by_cases h1 : m.2 < x.2
    · rw [if_neg (by omega), if_pos h1, if_pos h1]; rfl
    · rw [if_neg h1, if_neg h1]
      split <;> rfl
  · refine Ev.const fun n => ?_
    have : ¬ (((r.length + 1 : Nat) : Int) < (((a :: r).length : Nat) : Int)) := by simp only [List.length_cons]; omega
    simp [this]
  · exact Ev.ret _
theorem widest_ (C : Int) (l : List (Int × Int)) (hl : l.length ≤ 1000) : Ev (fun n => circle_Widest n (C, l)) (widestOf (setOf C l)) := by
  unfold circle_Widest
  refine Ev.bind (set_ C l hl) ?_
  have h3 := setOf_len C l
  generalize setOf C l = f at *
  cases f with
  | nil => exact Ev.const fun n => rfl
  | cons a r =>
    have c : ((((a :: r).length : Nat) : Int) == 0) = false := by simp only [List.length_cons, beq_eq_false_iff_ne]; omega
    simp only [c, cond_false]
    exact Ev.bind (maxfn_ a r (by simp only [List.length_cons] at h3; omega)) (Ev.ret _)
/-! ### Gaps -/
def gapOf (C : Int) (a b : Int × Int) : Int := if (normOf C a).2 = 0 ∨ (normOf C b).2 = 0 ∨ (normOf C a).2 = C ∨ (normOf C b).2 = C then 0 else ((normOf C b).1 - (normOf C a).1 - (normOf C a).2) % C
theorem gap_ (n : Nat) (C : Int) (a b : Int × Int) : circle_Gap n (C, a.1, a.2, b) = some (gapOf C a b) := by
  unfold circle_Gap gapOf
  simp only [letJ, norm_, Option.bind_some]
  by_cases hc : 1 ≤ C ∧ C ≤ 6000
  · have hA := normOf_at hc.1 a
    have hB := normOf_at hc.1 b
    show (bif (normOf C a).2 == 0 then _ else _) = _
    have e : normOf C (a.1, a.2) = normOf C a := rfl
    simp only [e]
    generalize normOf C a = A at *
    generalize normOf C b = B at *
    by_cases h1 : A.2 = 0
    · simp [h1]
    · by_cases h2 : B.2 = 0
      · simp [h1, h2]
      · by_cases h3 : A.2 = C
        · simp [h1, h2, h3]
        · by_cases h4 : B.2 = C
          · simp [h1, h2, h3, h4]
          · simp only [beq_eq_false_iff_ne.2 h1, beq_eq_false_iff_ne.2 h2, beq_eq_false_iff_ne.2 h3, beq_eq_false_iff_ne.2 h4, cond_false]
            rw [wrap64_id (n := B.1 - A.1) (by omega) (by omega), wrap64_id (by omega) (by omega), modulo_ n _ _ hc.1 (by omega), if_neg (by omega)]
            rfl
  · have e1 : normOf C (a.1, a.2) = (0, 0) := by unfold normOf; rw [if_pos (by omega)]
    have e2 : normOf C a = (0, 0) := by unfold normOf; rw [if_pos (by omega)]
    simp [e1, e2]
end Go.Proofs.Ytemhdliapelleaa.Fn
