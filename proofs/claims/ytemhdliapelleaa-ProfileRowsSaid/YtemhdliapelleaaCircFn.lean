/- Chapter 3's functions, of the program and of the document: what each computes. -/
import Derived.Test.YtemhdliapelleaaFn2
import Derived.Test.YtemhdliapelleaaDenAF
import Derived.Test.YtemhdliapelleaaCirc2
namespace Go.Proofs.Ytemhdliapelleaa.Fn
open Go Go.RowKit Go.Den Go.Circ
set_option linter.unusedVariables false

/-! ### Numbers -/
theorem cycle_ (n : Nat) (C : Int) : circle_cycle n C = some (decide (1 ≤ C ∧ C ≤ 6000)) := by
  unfold circle_cycle; by_cases h : 1 ≤ C <;> simp [h]
theorem rcycle_ (n : Nat) (C : Int) : ref03_Cycle n C = some (decide (1 ≤ C ∧ C ≤ 6000)) := by
  unfold ref03_Cycle; by_cases h : 1 ≤ C <;> simp [h]
theorem rmod_ (n : Nat) (t C : Int) (h1 : 1 ≤ C) (h2 : C ≤ 1000000000) : ref03_Mod n (t, C) = some (t % C) := by
  unfold ref03_Mod
  have m1 := Int.emod_nonneg t (b := C) (by omega)
  have m2 := Int.emod_lt_of_pos t (b := C) (by omega)
  have c2 : (C == 0) = false := by simp; omega
  simp only [tmod_pos (show 0 < C by omega), c2, Bool.not_false, cond_true]
  by_cases h : 0 ≤ t
  · rw [if_pos h, decide_eq_false (by omega)]; rfl
  · rw [if_neg h]
    by_cases h0 : t % C = 0
    · rw [if_pos h0, h0]; rfl
    · rw [if_neg h0, decide_eq_true (by omega)]
      simp only [cond_true]
      rw [show t % C - C + C = t % C by omega, wrap64_id (by omega) (by omega)]
theorem wmod_ (n : Nat) (t C : Int) (h1 : 1 ≤ C) (h2 : C ≤ 9223372036854775807) : whole_Mod n (t, C) = some (t % C, 0) := by
  unfold whole_Mod
  have m1 := Int.emod_nonneg t (b := C) (by omega)
  have m2 := Int.emod_lt_of_pos t (b := C) (by omega)
  have c1 : decide (C < 1) = false := by simp; omega
  have c2 : (C == 0) = false := by simp; omega
  simp only [tmod_pos (show 0 < C by omega), c1, c2, Bool.not_false, cond_true, cond_false]
  by_cases h : 0 ≤ t
  · rw [if_pos h, decide_eq_false (by omega)]; rfl
  · rw [if_neg h]
    by_cases h0 : t % C = 0
    · rw [if_pos h0, h0]; rfl
    · rw [if_neg h0, decide_eq_true (by omega)]
      simp only [cond_true]
      rw [show t % C - C + C = t % C by omega, wrap64_id (by omega) (by omega)]
theorem modulo_ (n : Nat) (t C : Int) (h1 : 1 ≤ C) (h2 : C ≤ 9223372036854775807) : circle_modulo n (t, C) = some (t % C) := by
  unfold circle_modulo; rw [wmod_ n t C h1 h2]; rfl
/-! ### One arc -/
theorem norm_ (n : Nat) (C : Int) (a : Int × Int) : circle_Norm n (C, a) = some (normOf C a) := by
  unfold circle_Norm normOf
  simp only [letJ, cycle_, Option.bind_some]
  by_cases hc : 1 ≤ C ∧ C ≤ 6000
  · rw [decide_eq_true hc]
    simp only [Bool.not_true, cond_false]
    by_cases h : a.2 < 1
    · rw [decide_eq_true h, if_pos (.inr (.inr h))]; rfl
    · rw [decide_eq_false h, if_neg (by omega)]
      simp only [cond_false]
      by_cases h' : C ≤ a.2
      · rw [decide_eq_true h', if_pos h']; rfl
      · rw [decide_eq_false h', if_neg h']
        simp only [cond_false]
        rw [modulo_ n _ _ (by omega) (by omega)]; rfl
  · rw [decide_eq_false hc, if_pos (by omega)]; rfl
theorem in_ (n : Nat) (C : Int) (a : Int × Int) (t : Int) : circle_In n (C, a.1, a.2, t) = some (decide (1 ≤ C ∧ C ≤ 6000 ∧ HasT C a t)) := by
  have e0 : circle_In n (C, a.1, a.2, t) = (circle_Norm n (C, a)).bind fun y1 => bif decide (0 < y1.2) then (circle_modulo n (t, C)).bind fun y2 => (circle_modulo n (wrap64 (y2 - y1.1), C)).bind fun y3 => some (decide (y3 < y1.2)) else some false := rfl
  rw [e0, norm_, Option.bind_some]
  by_cases hc : 1 ≤ C ∧ C ≤ 6000
  · have hN := normOf_at hc.1 a
    have hi := normOf_in hc.1 hc.2 a t
    have he : (1 ≤ C ∧ C ≤ 6000 ∧ HasT C a t) ↔ HasT C (normOf C a) t := ⟨fun h => hi.2 h.2.2, fun h => ⟨hc.1, hc.2, hi.1 h⟩⟩
    rw [decide_eq_decide.2 he]
    have key : ∀ N : Int × Int, (0 ≤ N.1 ∧ N.1 < C ∧ 0 ≤ N.2 ∧ N.2 ≤ C) → (bif decide (0 < N.2) then (circle_modulo n (t, C)).bind fun y2 => (circle_modulo n (wrap64 (y2 - N.1), C)).bind fun y3 => some (decide (y3 < N.2)) else some false) = some (decide (HasT C N t)) := by
      intro N hN
      by_cases h0 : 0 < N.2
      · rw [decide_eq_true h0]
        simp only [cond_true]
        have m1 := Int.emod_nonneg t (b := C) (by omega)
        have m2 := Int.emod_lt_of_pos t (b := C) (by omega)
        have q1 := Int.emod_nonneg (t - N.1) (b := C) (by omega)
        have q2 := Int.emod_lt_of_pos (t - N.1) (b := C) (by omega)
        rw [modulo_ n _ _ hc.1 (by omega)]
        simp only [Option.bind_some]
        rw [wrap64_id (by omega) (by omega), modulo_ n _ _ hc.1 (by omega)]
        simp only [Option.bind_some, Int.emod_sub_emod]
        congr 1
        apply decide_eq_decide.2
        unfold HasT
        omega
      · rw [decide_eq_false h0, decide_eq_false (p := HasT C N t) (by unfold HasT; omega)]; rfl
    exact key _ hN
  · have : normOf C a = (0, 0) := by unfold normOf; rw [if_pos (by omega)]
    rw [this, decide_eq_false (p := 1 ≤ C ∧ C ≤ 6000 ∧ HasT C a t) (fun h => hc ⟨h.1, h.2.1⟩)]
    rfl
theorem rin_ (n : Nat) (C : Int) (a : Int × Int) (t : Int) : ref03_In n (C, a.1, a.2, t) = some (decide (1 ≤ C ∧ C ≤ 6000 ∧ HasT C a t)) := by
  unfold ref03_In
  simp only [letJ, rcycle_, Option.bind_some]
  by_cases hc : 1 ≤ C ∧ C ≤ 6000
  · rw [decide_eq_true hc]
    have he : (1 ≤ C ∧ C ≤ 6000 ∧ HasT C a t) ↔ HasT C a t := ⟨fun h => h.2.2, fun h => ⟨hc.1, hc.2, h⟩⟩
    rw [decide_eq_decide.2 he]
    simp only [Bool.not_true, cond_false]
    by_cases h : a.2 < 1
    · rw [decide_eq_true h, decide_eq_false (p := HasT C a t) (by unfold HasT; omega)]; rfl
    · rw [decide_eq_false h]
      simp only [cond_false]
      by_cases h' : C ≤ a.2
      · rw [decide_eq_true h', decide_eq_true (p := HasT C a t) (by unfold HasT; omega)]; rfl
      · rw [decide_eq_false h']
        simp only [cond_false]
        have m1 := Int.emod_nonneg t (b := C) (by omega)
        have m2 := Int.emod_lt_of_pos t (b := C) (by omega)
        have p1 := Int.emod_nonneg a.1 (b := C) (by omega)
        have p2 := Int.emod_lt_of_pos a.1 (b := C) (by omega)
        rw [rmod_ n _ _ hc.1 (by omega), rmod_ n _ _ hc.1 (by omega)]
        simp only [Option.bind_some]
        rw [wrap64_id (by omega) (by omega), rmod_ n _ _ hc.1 (by omega)]
        simp only [Option.bind_some, Int.emod_sub_emod, Int.sub_emod_emod]
        congr 1
        apply decide_eq_decide.2
        unfold HasT
        omega
  · rw [decide_eq_false (p := 1 ≤ C ∧ C ≤ 6000) hc, decide_eq_false (p := 1 ≤ C ∧ C ≤ 6000 ∧ HasT C a t) (fun h => hc ⟨h.1, h.2.1⟩)]; rfl
/-! ### Pieces -/
theorem round_ (n : Nat) (p q : Int) (l : List (Int × Int)) (hl : l.length ≤ 1000000) : circle_pieces_round n (p, q, l) = some (true, l ++ [(p, q)]) := by
  unfold circle_pieces_round
  simp only [List.length_cons, List.length_nil]
  rw [fitB_ok (by omega)]; rfl
theorem cutOf_snoc (C : Int) (l : List (Int × Int)) (i : Nat) (h : i < l.length) : cutOf C (l.take (i + 1)) = cutOf C (l.take i) ++ cut1 C (l.getD i (0, 0)) := by
  rw [take_snoc l i (0, 0) h]; simp [cutOf]
theorem cut1_len (C : Int) (a : Int × Int) : (cut1 C a).length ≤ 2 := by
  unfold cut1
  split
  · simp
  · split <;> simp
theorem cutOf_len (C : Int) (l : List (Int × Int)) : (cutOf C l).length ≤ 2 * l.length := by
  induction l with
  | nil => simp [cutOf]
  | cons a l ih =>
    have := cut1_len C a
    simp only [cutOf, List.flatMap_cons, List.length_append, List.length_cons] at *
    omega
theorem cutfn_ (C : Int) (l : List (Int × Int)) (hl : l.length ≤ 1000) : Ev (fun n => circle_cut_1 n (l, C, [])) (l, C, cutOf C l) := by
  unfold circle_cut_1
  refine Ev.loopB (st := fun i => (l, (l.length : Int), (i : Int), l, C, cutOf C (l.take i))) l.length (.inr (l, C, cutOf C l)) (by simp [cutOf]) (fun i hi => ?_) ?_ ?_
  · refine Ev.const fun n => ?_
    have hlen : (cutOf C (l.take i)).length ≤ 1000000 := by have := cutOf_len C (l.take i); simp at this; omega
    simp only [Int.ofNat_lt, hi, decide_true, cond_true, inB_nat, atI_nat, norm_, Option.bind_some, letJ, cutOf_snoc C l i hi, wrap_succ (show i < 9223372036854775807 by omega)]
    generalize l.getD i (0, 0) = a
    by_cases h0 : (normOf C a).2 = 0
    · have : cut1 C a = [] := by unfold cut1; rw [if_pos h0]
      simp [h0, this]
    · have hc : 1 ≤ C ∧ C ≤ 6000 := by
        refine Classical.byContradiction fun h => h0 ?_
        unfold normOf; rw [if_pos (by omega)]
      obtain ⟨n1, n2, n3, n4⟩ := normOf_at hc.1 a
      have hb : ((normOf C a).2 == 0) = false := by simp [h0]
      rw [hb, wrap64_id (by omega) (by omega)]
      simp only [cond_false]
      rw [round_ n _ _ _ hlen]
      simp only [Option.bind_some, Bool.not_true, cond_false]
      by_cases h1 : (normOf C a).1 + (normOf C a).2 ≤ C
      · have : cut1 C a = [((normOf C a).1, (normOf C a).1 + (normOf C a).2)] := by unfold cut1; rw [if_neg h0, if_pos h1]
        rw [decide_eq_false (by omega), this, mn_eq, show min ((normOf C a).1 + (normOf C a).2) C = (normOf C a).1 + (normOf C a).2 by omega]
        rfl
      · have : cut1 C a = [((normOf C a).1, C), (0, (normOf C a).1 + (normOf C a).2 - C)] := by unfold cut1; rw [if_neg h0, if_neg h1]
        rw [decide_eq_true (by omega), this, mn_eq, show min ((normOf C a).1 + (normOf C a).2) C = C by omega]
        simp only [cond_true]
        rw [wrap64_id (by omega) (by omega), round_ n _ _ _ (by have := cutOf_len C (l.take i); simp at this ⊢; omega)]
        simp
  · exact Ev.const fun n => by simp
  · exact Ev.ret _
def pcCmp (a b : Int × Int) : Int := Go.Lib.compareInt a.1 b.1
/-- The pieces of arcs, in form. -/
def piecesOf (C : Int) (l : List (Int × Int)) : List (Int × Int) := mergeOf (sortL (0, 0) pcCmp (cutOf C l))
theorem swoC : Go.Sort.SWO (Go.Proofs.ltOf pcCmp) := swoPc
theorem cmp_nonneg {a b : Int × Int} (h : 0 ≤ pcCmp a b) : b.1 ≤ a.1 := by
  unfold pcCmp Go.Lib.compareInt at h
  split at h
  · omega
  · omega
theorem sorted_ (x : List (Int × Int)) : (sortL (0, 0) pcCmp x).Perm x ∧ (sortL (0, 0) pcCmp x).Pairwise fun p q => p.1 ≤ q.1 := by
  obtain ⟨h1, h2⟩ := sortL_spec (0, 0) pcCmp swoC x
  refine ⟨h1, List.pairwise_iff_getElem.2 fun i j hi hj hij => cmp_nonneg (h2 i j hij hj)⟩
theorem piecesOf_ok {C : Int} (h1 : 1 ≤ C) (l : List (Int × Int)) : PGood C (piecesOf C l) ∧ ∀ j, Cov (piecesOf C l) j ↔ Cov (cutOf C l) j := by
  obtain ⟨s1, s2⟩ := sorted_ (cutOf C l)
  obtain ⟨m1, m2⟩ := mergeOf_ok s2 (C := C) (fun p hp => cutOf_all h1 l p (s1.mem_iff.1 hp))
  exact ⟨m1, fun j => (m2 j).trans (Cov.perm s1)⟩
theorem piecesOf_cov {C : Int} (h1 : 1 ≤ C) (h2 : C ≤ 6000) (l : List (Int × Int)) {j : Int} (hj : 0 ≤ j) (hj' : j < C) : Cov (piecesOf C l) j ↔ TS C l j :=
  ((piecesOf_ok h1 l).2 j).trans (cutOf_cov h1 h2 l hj hj')
theorem piecesOf_len (C : Int) (l : List (Int × Int)) : (piecesOf C l).length ≤ 2 * l.length := by
  have h1 := merge_len (sortL (0, 0) pcCmp (cutOf C l)) []
  have h2 := sortL_len (0, 0) pcCmp swoC (cutOf C l)
  have h3 := cutOf_len C l
  unfold piecesOf mergeOf
  simp at h1
  omega
theorem piecesOf_out {C : Int} (h : C < 1 ∨ 6000 < C) (l : List (Int × Int)) : piecesOf C l = [] := by
  have h3 := sortL_len (0, 0) pcCmp swoC (cutOf C l)
  rw [cutOf_out h] at h3
  unfold piecesOf
  rw [cutOf_out h, List.eq_nil_of_length_eq_zero (l := sortL (0, 0) pcCmp []) h3]
  rfl
theorem sort_ (n : Nat) (x : List (Int × Int)) (h : x.length ≤ 1000000) : slices_SortFunc n x = some (sortL (0, 0) pcCmp x) := by
  unfold slices_SortFunc sortF
  rw [if_pos (by omega)]
  rfl
end Go.Proofs.Ytemhdliapelleaa.Fn
