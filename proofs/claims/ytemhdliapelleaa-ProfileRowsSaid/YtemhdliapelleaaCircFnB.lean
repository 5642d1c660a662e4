/- Chapter 3's functions, of the program: pieces, arcs in form, sets of ticks. -/
import Derived.Test.YtemhdliapelleaaCircFn
namespace Go.Proofs.Ytemhdliapelleaa.Fn
open Go Go.RowKit Go.Den Go.Circ
set_option linter.unusedVariables false

theorem mstep_nil (p : Int × Int) : mstep [] p = [p] := rfl
theorem mstep_snoc (init : List (Int × Int)) (q p : Int × Int) : mstep (init ++ [q]) p = if p.1 ≤ q.2 then init ++ [(q.1, max q.2 p.2)] else init ++ [q] ++ [p] := by simp [mstep]
theorem fold_snoc (S : List (Int × Int)) (i : Nat) (h : i < S.length) : (S.take (i + 1)).foldl mstep [] = mstep ((S.take i).foldl mstep []) (S.getD i (0, 0)) := by
  rw [take_snoc S i (0, 0) h]; simp
theorem set_snoc {A : Type} (init : List A) (q v : A) : List.set (init ++ [q]) init.length v = init ++ [v] := by simp
theorem getD_snoc {A : Type} (init : List A) (q d : A) : (init ++ [q]).getD init.length d = q := by simp
theorem pieces_ (C : Int) (l : List (Int × Int)) (hl : l.length ≤ 1000) : Ev (fun n => circle_pieces n (C, l)) (piecesOf C l) := by
  unfold circle_pieces
  refine Ev.bindS (a := (l, C)) (fun n => rfl) ?_
  simp only [ifY_yes yokT_540]
  refine Ev.bind (cutfn_ C l hl) ?_
  have hcl := cutOf_len C l
  refine Ev.bindS (fun n => sort_ n (cutOf C l) (by omega)) ?_
  have hSl := sortL_len (0, 0) pcCmp swoC (cutOf C l)
  unfold piecesOf
  generalize sortL (0, 0) pcCmp (cutOf C l) = S at *
  refine Ev.loopB (st := fun i => ((S.length : Int), (i : Int), (S.take i).foldl mstep [], S)) S.length (mergeOf S) (by simp) (fun i hi => ?_) ?_ ?_
  · refine Ev.const fun n => ?_
    have hlen := merge_len (S.take i) []
    simp only [List.length_nil, List.length_take, Nat.zero_add] at hlen
    simp only [Int.ofNat_lt, hi, decide_true, cond_true, inB_nat, atI_nat, fold_snoc S i hi, letJ, wrap_succ (show i < 9223372036854775807 by omega)]
    generalize S.getD i (0, 0) = p
    generalize (S.take i).foldl mstep [] = out at *
    rcases List.eq_nil_or_concat out with rfl | ⟨init, q, rfl⟩
    · simp [fitB, mstep_nil]
    · rw [List.concat_eq_append] at *
      rw [List.length_append] at *
      simp only [List.length_cons, List.length_nil, Nat.zero_add] at *
      have w : wrap64 (((init.length + 1 : Nat) : Int) - 1) = (init.length : Int) := by rw [wrap64_id (by omega) (by omega)]; omega
      have hpos : decide ((0 : Int) < ((init.length + 1 : Nat) : Int)) = true := decide_eq_true (by omega)
      rw [hpos, w]
      simp only [cond_true, inB_nat, atI_nat, getD_snoc, Int.toNat_natCast, set_snoc, mstep_snoc, show init.length < init.length + 1 from Nat.lt_succ_self _, decide_true, mx_eq]
      by_cases h : p.1 ≤ q.2
      · simp [h]
      · have hf : fitB (init.length + 1 + 1) 16 = true := fitB_ok (by omega)
        simp [h, hf]
  · exact Ev.const fun n => by simp [mergeOf]
  · exact Ev.ret _
theorem clone_ (n : Nat) (x : List (Int × Int)) (h : x.length ≤ 1000000) : slices_Clone n x = some x := by
  unfold slices_Clone
  simp only [fitB_ok (show x.length * 16 ≤ 140737488355328 by omega), cond_true]
  cases x with
  | nil => simp [both_self]
  | cons a x => rfl
/-- The loop that puts pieces in form. -/
theorem arcs_loop (J : List (Int × Int)) (hJ : J.length ≤ 1000000) (hb : ∀ p ∈ J, 0 ≤ p.1 ∧ p.1 ≤ 1000000 ∧ 0 ≤ p.2 ∧ p.2 ≤ 1000000) :
    Ev (fun n => (iterL (Y := (List (Int × Int))) n (fun (x7 : (List (Int × Int)) × Int × Int × List (Int × Int)) =>
      let e3 := atI (0, 0) x7.1 x7.2.2.1
      let e4 := e3.1
      let e5 := (e4, wrap64 (e3.2 - e4)) :: []
      bif decide (x7.2.2.1 < x7.2.1) then
        bif inB x7.2.2.1 x7.1.length then
          bif fitB (x7.2.2.2.length + e5.length) 16 then
            some (.inl (x7.1, x7.2.1, wrap64 (x7.2.2.1 + 1), x7.2.2.2 ++ e5))
          else
          none
        else
        none
      else
      some (.inr x7.2.2.2)) (J, ((J.length : Nat) : Int), 0, [])).bind fun (z8 : List (Int × Int)) =>
      some z8) (J.map fun p => (p.1, p.2 - p.1)) := by
  refine Ev.loopB (st := fun i => (J, (J.length : Int), (i : Int), (J.take i).map fun p => (p.1, p.2 - p.1))) J.length (J.map fun p => (p.1, p.2 - p.1)) (by simp) (fun i hi => ?_) ?_ ?_
  · refine Ev.const fun n => ?_
    have hf : fitB (min i J.length + 1) 16 = true := fitB_ok (by omega)
    simp only [Int.ofNat_lt, hi, decide_true, cond_true, inB_nat, atI_nat, take_snoc J i (0, 0) hi, wrap_succ (show i < 9223372036854775807 by omega), List.map_append, List.length_map, List.length_take, List.length_cons, List.length_nil, Nat.zero_add, hf]
    have := hb (J.getD i (0, 0)) (by rw [getD_lt _ _ _ hi]; exact List.getElem_mem hi)
    rw [wrap64_id (by omega) (by omega)]
    rfl
  · exact Ev.const fun n => by simp
  · exact Ev.ret _
theorem arcs_ {C : Int} (hC : C ≤ 6000) {P : List (Int × Int)} (hg : PGood C P) (hl : P.length ≤ 100000) : Ev (fun n => circle_arcs n (C, P)) (arcsOf C P) := by
  unfold circle_arcs
  simp only [letJ]
  have hJ : ∀ J : List (Int × Int), J.length ≤ P.length → (∀ p ∈ J, 0 ≤ p.1 ∧ p.1 ≤ 1000000 ∧ 0 ≤ p.2 ∧ p.2 ≤ 1000000) → _ := fun J h1 h2 => arcs_loop J (by omega) h2
  have hbd : ∀ p ∈ P, 0 ≤ p.1 ∧ p.1 ≤ 1000000 ∧ 0 ≤ p.2 ∧ p.2 ≤ 1000000 := fun p hp => by have := hg.all p hp; omega
  unfold arcsOf
  cases P with
  | nil => exact Ev.const fun n => by simp [joinP]
  | cons p r =>
    have hp0 := hg.all p (by simp)
    rcases List.eq_nil_or_concat r with rfl | ⟨mid, q, rfl⟩
    · have := hJ [p] (by simp) hbd
      refine Ev.congr (F := _) this fun n => ?_
      have w : wrap64 (((([p] : List (Int × Int)).length : Nat) : Int) - 1) = 0 := by rw [wrap64_id] <;> simp
      rw [w]
      simp [joinP]
    · rw [List.concat_eq_append] at *
      have hq0 := hg.all q (by simp)
      have hlen : (p :: (mid ++ [q])).length = mid.length + 2 := by simp
      have w : wrap64 ((((p :: (mid ++ [q])).length : Nat) : Int) - 1) = ((mid.length + 1 : Nat) : Int) := by rw [hlen, wrap64_id (by rw [hlen] at hl; omega) (by rw [hlen] at hl; omega)]; omega
      have g0 : (p :: (mid ++ [q])).getD 0 (0, 0) = p := rfl
      have gl : (p :: (mid ++ [q])).getD (mid.length + 1) (0, 0) = q := by simp
      have ej : joinP C (p :: (mid ++ [q])) = if p.1 = 0 ∧ q.2 = C then mid ++ [(q.1, C + p.2)] else p :: (mid ++ [q]) := by simp [joinP]
      have hne : ((((p :: (mid ++ [q])).length : Nat) : Int) == 0) = false := by rw [hlen]; simp; omega
      rw [hlen] at hl
      rw [w, ej]
      simp only [hne, cond_false, inB_zero, inB_nat, atI_zero, atI_nat, g0, gl, hlen, show 0 < mid.length + 2 by omega, show mid.length + 1 < mid.length + 2 by omega, decide_true, cond_true, decide_eq_true (show (0 : Int) < ((mid.length + 1 : Nat) : Int) by omega)]
      have hno := hJ (p :: (mid ++ [q])) (Nat.le_refl _) hbd
      rw [hlen] at hno
      by_cases hp : p.1 = 0
      · rw [hp]
        simp only [beq_self_eq_true, cond_true]
        by_cases hq : q.2 = C
        · have hb : (q.2 == C) = true := by simp [hq]
          have hcut : cutOk (some 1) (some ((mid.length + 1 : Nat) : Int)) (mid.length + 2) = true := by simp [cutOk]; omega
          have hcl : cutList (some 1) (some ((mid.length + 1 : Nat) : Int)) (p :: (mid ++ [q])) = mid := by simp [cutList]
          rw [hb, hcut, hcl]
          simp only [cond_true]
          refine Ev.bindS (fun n => clone_ n mid (by omega)) ?_
          have hf : fitB (mid.length + 1) 16 = true := fitB_ok (by omega)
          simp only [List.length_cons, List.length_nil, Nat.zero_add, hf, cond_true]
          rw [wrap64_id (by omega) (by omega), if_pos ⟨trivial, hq⟩]
          have := hJ (mid ++ [(q.1, C + p.2)]) (by simp) (fun r hr => by
            rw [List.mem_append, List.mem_singleton] at hr
            rcases hr with hr | rfl
            · exact hbd r (by simp [hr])
            · simp only; omega)
          simpa using this
        · have hb : (q.2 == C) = false := by simp [hq]
          rw [hb, if_neg (fun h => hq h.2)]
          simp only [cond_false]
          exact hno
      · have hb : (p.1 == 0) = false := by simp [hp]
        rw [hb, if_neg (fun h => hp h.1)]
        simp only [cond_false]
        exact hno
theorem arcs_nil (C : Int) : Ev (fun n => circle_arcs n (C, [])) [] := Ev.const fun n => rfl
/-- Arcs in form, of any arcs. -/
def setOf (C : Int) (l : List (Int × Int)) : List (Int × Int) := arcsOf C (piecesOf C l)
theorem piecesOf_good (C : Int) (l : List (Int × Int)) : PGood C (piecesOf C l) := by
  by_cases h : 1 ≤ C
  · exact (piecesOf_ok h l).1
  · rw [piecesOf_out (.inl (by omega))]; exact PGood.nil C
theorem arcs_pieces (C : Int) (l : List (Int × Int)) (hl : l.length ≤ 1000) : Ev (fun n => circle_arcs n (C, piecesOf C l)) (setOf C l) := by
  have h3 := piecesOf_len C l
  unfold setOf
  by_cases h2 : C ≤ 6000
  · exact arcs_ h2 (piecesOf_good C l) (by omega)
  · rw [piecesOf_out (.inr (by omega))]; exact arcs_nil C
theorem set_ (C : Int) (l : List (Int × Int)) (hl : l.length ≤ 1000) : Ev (fun n => circle_Set n (C, l)) (setOf C l) := by
  unfold circle_Set
  refine Ev.bind (pieces_ C l hl) ?_
  exact Ev.bind (arcs_pieces C l hl) (Ev.ret _)
theorem setOf_len (C : Int) (l : List (Int × Int)) : (setOf C l).length ≤ 2 * l.length := by
  have h1 := piecesOf_len C l
  have h2 := arcsOf_len C (piecesOf C l)
  unfold setOf; omega
theorem setOf_arcs {C : Int} (h1 : 1 ≤ C) (h2 : C ≤ 6000) (l : List (Int × Int)) : Arcs C (TS C l) (setOf C l) :=
  (arcsOf_ok (piecesOf_good C l)).congr h1 fun j hj hj' => piecesOf_cov h1 h2 l hj hj'
theorem setOf_ts {C : Int} (h1 : 1 ≤ C) (h2 : C ≤ 6000) (l : List (Int × Int)) {j : Int} (hj : 0 ≤ j) (hj' : j < C) : TS C (setOf C l) j ↔ TS C l j :=
  (arcsOf_ts (piecesOf_good C l) hj hj').trans (piecesOf_cov h1 h2 l hj hj')
theorem setOf_out {C : Int} (h : C < 1 ∨ 6000 < C) (l : List (Int × Int)) : setOf C l = [] := by unfold setOf; rw [piecesOf_out h]; rfl

/-! ### The ticks that are not there; those of both -/
theorem between_snoc (C : Int) : ∀ (P : List (Int × Int)) (at_ : Int), between C at_ P = (P.foldl (fun (s : Int × List (Int × Int)) p => (p.2, s.2 ++ if p.1 > s.1 then [(s.1, p.1)] else [])) (at_, [])).2 ++ (if (P.foldl (fun (s : Int × List (Int × Int)) p => (p.2, s.2 ++ if p.1 > s.1 then [(s.1, p.1)] else [])) (at_, [])).1 < C then [((P.foldl (fun (s : Int × List (Int × Int)) p => (p.2, s.2 ++ if p.1 > s.1 then [(s.1, p.1)] else [])) (at_, [])).1, C)] else []) := by
  have gen : ∀ (P : List (Int × Int)) (at_ : Int) (out : List (Int × Int)), P.foldl (fun (s : Int × List (Int × Int)) p => (p.2, s.2 ++ if p.1 > s.1 then [(s.1, p.1)] else [])) (at_, out) = ((P.foldl (fun (s : Int × List (Int × Int)) p => (p.2, s.2 ++ if p.1 > s.1 then [(s.1, p.1)] else [])) (at_, [])).1, out ++ (P.foldl (fun (s : Int × List (Int × Int)) p => (p.2, s.2 ++ if p.1 > s.1 then [(s.1, p.1)] else [])) (at_, [])).2) := by
    intro P
    induction P with
    | nil => intro at_ out; simp
    | cons p P ih =>
      intro at_ out
      simp only [List.foldl_cons]
      rw [ih p.2 (out ++ _), ih p.2 ([] ++ _)]
      simp [List.append_assoc]
  intro P
  induction P with
  | nil => intro at_; simp [between]
  | cons p P ih =>
    intro at_
    simp only [List.foldl_cons, between]
    rw [gen P p.2 ([] ++ _), ih p.2]
    simp [List.append_assoc]
theorem between_ (C : Int) (P : List (Int × Int)) (hl : P.length ≤ 100000) : Ev (fun n => circle_between n (C, P)) (between C 0 P) := by
  unfold circle_between
  let F := fun (s : Int × List (Int × Int)) (p : Int × Int) => (p.2, s.2 ++ if p.1 > s.1 then [(s.1, p.1)] else [])
  have hlenF : ∀ (Q : List (Int × Int)) (s : Int × List (Int × Int)), (Q.foldl F s).2.length ≤ s.2.length + Q.length := by
    intro Q
    induction Q with
    | nil => intro s; simp
    | cons p Q ih =>
      intro s
      have := ih (F s p)
      have h2 : (F s p).2.length ≤ s.2.length + 1 := by simp only [F, List.length_append]; split <;> simp
      simp only [List.foldl_cons, List.length_cons]
      omega
  refine Ev.loopB (st := fun i => (C, ((P.take i).foldl F (0, [])).1, P, (P.length : Int), (i : Int), ((P.take i).foldl F (0, [])).2)) P.length (C, (P.foldl F (0, [])).1, (P.foldl F (0, [])).2) (by simp) (fun i hi => ?_) ?_ ?_
  · refine Ev.const fun n => ?_
    have hlen := hlenF (P.take i) (0, [])
    have htk : (P.take (i + 1)).foldl F (0, []) = F ((P.take i).foldl F (0, [])) (P.getD i (0, 0)) := by rw [take_snoc P i (0, 0) hi]; simp
    simp only [List.length_nil, List.length_take, Nat.zero_add] at hlen
    simp only [Int.ofNat_lt, hi, decide_true, cond_true, inB_nat, atI_nat, htk, wrap_succ (show i < 9223372036854775807 by omega)]
    generalize P.getD i (0, 0) = p
    generalize (P.take i).foldl F (0, []) = s at *
    have hf : fitB (s.2.length + 1) 16 = true := fitB_ok (by omega)
    by_cases h : s.1 < p.1
    · simp [F, h, hf]
    · simp [F, h]
  · exact Ev.const fun n => by simp
  · refine Ev.const fun n => ?_
    have hlen := hlenF P (0, [])
    have hb := between_snoc C P 0
    simp only [List.length_nil, Nat.zero_add] at hlen
    change between C 0 P = (P.foldl F (0, [])).2 ++ (if (P.foldl F (0, [])).1 < C then [((P.foldl F (0, [])).1, C)] else []) at hb
    rw [hb]
    generalize P.foldl F (0, []) = s at *
    have hf : fitB (s.2.length + 1) 16 = true := fitB_ok (by omega)
    by_cases h : s.1 < C
    · simp [h, hf]
    · simp [h]
/-- One round of the search for what both have. -/
def cstep (s : List (Int × Int) × List (Int × Int) × List (Int × Int)) : List (Int × Int) × List (Int × Int) × List (Int × Int) := match s with
  | (a :: ar, b :: bs, out) => (if a.2 < b.2 then (ar, b :: bs, out ++ if max a.1 b.1 < min a.2 b.2 then [(max a.1 b.1, min a.2 b.2)] else []) else (a :: ar, bs, out ++ if max a.1 b.1 < min a.2 b.2 then [(max a.1 b.1, min a.2 b.2)] else []))
  | s => s
theorem common_ (a b : List (Int × Int)) (ha : a.length ≤ 100000) (hb : b.length ≤ 100000) : Ev (fun n => circle_common n (a, b)) (common a b) := by
  unfold circle_common
  refine Ev.bind (a := common a b) ?_ (Ev.ret _)
  refine Ev.iter (fun s => s.1.length + s.2.1.length + s.2.2.length ≤ 200000) (fun s => s.1.length + s.2.1.length) (fun s => s.2.2 ++ common s.1 s.2.1) ?_ (a, b, []) (by simp; omega)
  rintro ⟨a, b, out⟩ hs
  simp only at hs
  simp only [letJ]
  cases a with
  | nil =>
    right
    refine ⟨out, Ev.const fun n => by simp, by simp [common]⟩
  | cons a ar =>
    cases b with
    | nil =>
      right
      refine ⟨out, Ev.const fun n => by simp, by simp [common]⟩
    | cons b bs =>
      left
      simp only [List.length_cons] at hs
      have p1 : decide ((0 : Int) < (((a :: ar).length : Nat) : Int)) = true := decide_eq_true (by simp only [List.length_cons]; omega)
      have p2 : decide ((0 : Int) < (((b :: bs).length : Nat) : Int)) = true := decide_eq_true (by simp only [List.length_cons]; omega)
      have i1 : inB 0 (a :: ar).length = true := by rw [inB_zero]; simp
      have i2 : inB 0 (b :: bs).length = true := by rw [inB_zero]; simp
      have c1 : cutOk (some 1) none (a :: ar).length = true := by simp only [cutOk, List.length_cons, Bool.and_eq_true, decide_eq_true_eq]; omega
      have c2 : cutOk (some 1) none (b :: bs).length = true := by simp only [cutOk, List.length_cons, Bool.and_eq_true, decide_eq_true_eq]; omega
      have hf : fitB (out.length + 1) 16 = true := fitB_ok (by omega)
      have l1 : cutList (some 1) none (a :: ar) = ar := by simp [cutList]
      have l2 : cutList (some 1) none (b :: bs) = bs := by simp [cutList]
      refine ⟨cstep (a :: ar, b :: bs, out), Ev.const fun n => ?_, ?_, ?_, ?_⟩
      · simp only [p1, p2, i1, i2, c1, c2, l1, l2, cond_true, atI_zero, List.getD_cons_zero, mx_eq, mn_eq, cstep]
        by_cases h1 : max a.1 b.1 < min a.2 b.2 <;> by_cases h2 : a.2 < b.2 <;> simp [h1, h2, hf]
      · simp only [cstep]
        by_cases h1 : max a.1 b.1 < min a.2 b.2 <;> by_cases h2 : a.2 < b.2 <;> simp [h1, h2] <;> omega
      · simp only [cstep]
        by_cases h2 : a.2 < b.2 <;> simp [h2]
      · simp only [cstep]
        rw [common]
        by_cases h2 : a.2 < b.2 <;> simp [h2]
end Go.Proofs.Ytemhdliapelleaa.Fn
