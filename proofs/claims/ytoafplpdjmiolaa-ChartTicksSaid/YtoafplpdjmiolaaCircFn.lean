/- Plain texts: what functions compute. -/
import Derived.Test.YtoafplpdjmiolaaFnT0
import Derived.Test.YtoafplpdjmiolaaCirc2
namespace Go.Proofs.Ytoafplpdjmiolaa.Fn
open Go Go.RowKit Go.Den Go.Circ
set_option linter.unusedVariables false
set_option linter.unusedVariables false
/-! ### Numbers -/
theorem cycle_ (n : Nat) (C : Int) : circle_cycle n C = some (decide (1 ≤ C ∧ C ≤ 6000)) := by
  unfold circle_cycle; by_cases h : 1 ≤ C <;> simp [h]
theorem rcycle_ (n : Nat) (C : Int) : ref03_Cycle n C = some (decide (1 ≤ C ∧ C ≤ 6000)) := by
  unfold ref03_Cycle; by_cases h : 1 ≤ C <;> simp [h]
theorem rmod_ (n : Nat) (t C : Int) (h1 : 1 ≤ C) (h2 : C ≤ 1000000000) : ref03_Mod n (t, C) = some (t % C) := by
  unfold ref03_Mod
  have m1 := Int.emod_nonneg t (b := C) (by omega)
  have m2 := Int.emod_lt_of_pos t (b := C) (by omega)
  have c2 : (C == 0) = false := by simp; omega
  simp only [tmod_pos (show 0 < C by omega), c2, Bool.not_false, cond_true]
  by_cases h : 0 ≤ t
  · rw [if_pos h, decide_eq_false (by omega)]; rfl
  · rw [if_neg h]
    by_cases h0 : t % C = 0
    · rw [if_pos h0, h0]; rfl
    · rw [if_neg h0, decide_eq_true (by omega)]
      simp only [cond_true]
      rw [show t % C - C + C = t % C by omega, wrap64_id (by omega) (by omega)]
theorem wmod_ (n : Nat) (t C : Int) (h1 : 1 ≤ C) (h2 : C ≤ 9223372036854775807) : whole_Mod n (t, C) = some (t % C, 0) := by
  unfold whole_Mod
  have m1 := Int.emod_nonneg t (b := C) (by omega)
  have m2 := Int.emod_lt_of_pos t (b := C) (by omega)
  have c1 : decide (C < 1) = false := by simp; omega
  have c2 : (C == 0) = false := by simp; omega
  simp only [tmod_pos (show 0 < C by omega), c1, c2, Bool.not_false, cond_true, cond_false]
  by_cases h : 0 ≤ t
  · rw [if_pos h, decide_eq_false (by omega)]; rfl
  · rw [if_neg h]
    by_cases h0 : t % C = 0
    · rw [if_pos h0, h0]; rfl
    · rw [if_neg h0, decide_eq_true (by omega)]
      simp only [cond_true]
      rw [show t % C - C + C = t % C by omega, wrap64_id (by omega) (by omega)]
theorem modulo_ (n : Nat) (t C : Int) (h1 : 1 ≤ C) (h2 : C ≤ 9223372036854775807) : circle_modulo n (t, C) = some (t % C) := by
  unfold circle_modulo; rw [wmod_ n t C h1 h2]; rfl
/-! ### One arc -/
theorem norm_ (n : Nat) (C : Int) (a : Int × Int) : circle_Norm n (C, a) = some (normOf C a) := by
  unfold circle_Norm normOf
  simp only [letJ, cycle_, Option.bind_some]
  by_cases hc : 1 ≤ C ∧ C ≤ 6000
  · rw [decide_eq_true hc]
    simp only [Bool.not_true, cond_false]
    by_cases h : a.2 < 1
    · rw [decide_eq_true h, if_pos (.inr (.inr h))]; rfl
    · rw [decide_eq_false h, if_neg (by omega)]
      simp only [cond_false]
      by_cases h' : C ≤ a.2
      · rw [decide_eq_true h', if_pos h']; rfl
      · rw [decide_eq_false h', if_neg h']
        simp only [cond_false]
        rw [modulo_ n _ _ (by omega) (by omega)]; rfl
  · rw [decide_eq_false hc, if_pos (by omega)]; rfl
theorem rin_ (n : Nat) (C : Int) (a : Int × Int) (t : Int) : ref03_In n (C, a.1, a.2, t) = some (decide (1 ≤ C ∧ C ≤ 6000 ∧ HasT C a t)) := by
  unfold ref03_In
  simp only [letJ, rcycle_, Option.bind_some]
  by_cases hc : 1 ≤ C ∧ C ≤ 6000
  · rw [decide_eq_true hc]
    have he : (1 ≤ C ∧ C ≤ 6000 ∧ HasT C a t) ↔ HasT C a t := ⟨fun h => h.2.2, fun h => ⟨hc.1, hc.2, h⟩⟩
    rw [decide_eq_decide.2 he]
    simp only [Bool.not_true, cond_false]
    by_cases h : a.2 < 1
    · rw [decide_eq_true h, decide_eq_false (p := HasT C a t) (by unfold HasT; omega)]; rfl
    · rw [decide_eq_false h]
      simp only [cond_false]
      by_cases h' : C ≤ a.2
      · rw [decide_eq_true h', decide_eq_true (p := HasT C a t) (by unfold HasT; omega)]; rfl
      · rw [decide_eq_false h']
        simp only [cond_false]
        have m1 := Int.emod_nonneg t (b := C) (by omega)
        have m2 := Int.emod_lt_of_pos t (b := C) (by omega)
        have p1 := Int.emod_nonneg a.1 (b := C) (by omega)
        have p2 := Int.emod_lt_of_pos a.1 (b := C) (by omega)
        rw [rmod_ n _ _ hc.1 (by omega), rmod_ n _ _ hc.1 (by omega)]
        simp only [Option.bind_some]
        rw [wrap64_id (by omega) (by omega), rmod_ n _ _ hc.1 (by omega)]
        simp only [Option.bind_some, Int.emod_sub_emod, Int.sub_emod_emod]
        congr 1
        apply decide_eq_decide.2
        unfold HasT
        omega
  · rw [decide_eq_false (p := 1 ≤ C ∧ C ≤ 6000) hc, decide_eq_false (p := 1 ≤ C ∧ C ≤ 6000 ∧ HasT C a t) (fun h => hc ⟨h.1, h.2.1⟩)]; rfl
/-! ### Pieces -/
theorem round_ (n : Nat) (p q : Int) (l : List (Int × Int)) (hl : l.length ≤ 1000000) : circle_pieces_round n (p, q, l) = some (true, l ++ [(p, q)]) := by
  unfold circle_pieces_round
  simp only [List.length_cons, List.length_nil]
  rw [fitB_ok (by omega)]; rfl
theorem cutOf_snoc (C : Int) (l : List (Int × Int)) (i : Nat) (h : i < l.length) : cutOf C (l.take (i + 1)) = cutOf C (l.take i) ++ cut1 C (l.getD i (0, 0)) := by
  rw [take_snoc l i (0, 0) h]; simp [cutOf]
theorem cut1_len (C : Int) (a : Int × Int) : (cut1 C a).length ≤ 2 := by
  unfold cut1
  split
  · simp
  · split <;> simp
theorem cutOf_len (C : Int) (l : List (Int × Int)) : (cutOf C l).length ≤ 2 * l.length := by
  induction l with
  | nil => simp [cutOf]
  | cons a l ih =>
    have := cut1_len C a
    simp only [cutOf, List.flatMap_cons, List.length_append, List.length_cons] at *
    omega
theorem cutfn_ (C : Int) (l : List (Int × Int)) (hl : l.length ≤ 1000) : Ev (fun n => circle_cut_1 n (l, C, [])) (l, C, cutOf C l) := by
  unfold circle_cut_1
  refine Ev.loopB (st := fun i => (l, (l.length : Int), (i : Int), l, C, cutOf C (l.take i))) l.length (.inr (l, C, cutOf C l)) (by simp [cutOf]) (fun i hi => ?_) ?_ ?_
  · refine Ev.const fun n => ?_
    have hlen : (cutOf C (l.take i)).length ≤ 1000000 := by have := cutOf_len C (l.take i); simp at this; omega
    simp only [Int.ofNat_lt, hi, decide_true, cond_true, inB_nat, atI_nat, norm_, Option.bind_some, letJ, cutOf_snoc C l i hi, wrap_succ (show i < 9223372036854775807 by omega)]
    generalize l.getD i (0, 0) = a
    by_cases h0 : (normOf C a).2 = 0
    · have : cut1 C a = [] := by unfold cut1; rw [if_pos h0]
      simp [h0, this]
    · have hc : 1 ≤ C ∧ C ≤ 6000 := by
        refine Classical.byContradiction fun h => h0 ?_
        unfold normOf; rw [if_pos (by omega)]
      obtain ⟨n1, n2, n3, n4⟩ := normOf_at hc.1 a
      have hb : ((normOf C a).2 == 0) = false := by simp [h0]
      rw [hb, wrap64_id (by omega) (by omega)]
      simp only [cond_false]
      rw [round_ n _ _ _ hlen]
      simp only [Option.bind_some, Bool.not_true, cond_false]
      by_cases h1 : (normOf C a).1 + (normOf C a).2 ≤ C
      · have : cut1 C a = [((normOf C a).1, (normOf C a).1 + (normOf C a).2)] := by unfold cut1; rw [if_neg h0, if_pos h1]
        rw [decide_eq_false (by omega), this, mn_eq, show min ((normOf C a).1 + (normOf C a).2) C = (normOf C a).1 + (normOf C a).2 by omega]
        rfl
      · have : cut1 C a = [((normOf C a).1, C), (0, (normOf C a).1 + (normOf C a).2 - C)] := by unfold cut1; rw [if_neg h0, if_neg h1]
        rw [decide_eq_true (by omega), this, mn_eq, show min ((normOf C a).1 + (normOf C a).2) C = C by omega]
        simp only [cond_true]
        rw [wrap64_id (by omega) (by omega), round_ n _ _ _ (by have := cutOf_len C (l.take i); simp at this ⊢; omega)]
        simp
  · exact Ev.const fun n => by simp
  · exact Ev.ret _
def pcCmp (a b : Int × Int) : Int := Go.Lib.compareInt a.1 b.1
/-- The pieces of arcs, in form. -/
def piecesOf (C : Int) (l : List (Int × Int)) : List (Int × Int) := mergeOf (sortL (0, 0) pcCmp (cutOf C l))
theorem swoC : Go.Sort.SWO (Go.Proofs.ltOf pcCmp) := swoPc
theorem cmp_nonneg {a b : Int × Int} (h : 0 ≤ pcCmp a b) : b.1 ≤ a.1 := by
  unfold pcCmp Go.Lib.compareInt at h
  split at h
  · omega
  · omega
theorem sorted_ (x : List (Int × Int)) : (sortL (0, 0) pcCmp x).Perm x ∧ (sortL (0, 0) pcCmp x).Pairwise fun p q => p.1 ≤ q.1 := by
  obtain ⟨h1, h2⟩ := sortL_spec (0, 0) pcCmp swoC x
  refine ⟨h1, List.pairwise_iff_getElem.2 fun i j hi hj hij => cmp_nonneg (h2 i j hij hj)⟩
theorem piecesOf_ok {C : Int} (h1 : 1 ≤ C) (l : List (Int × Int)) : PGood C (piecesOf C l) ∧ ∀ j, Cov (piecesOf C l) j ↔ Cov (cutOf C l) j := by
  obtain ⟨s1, s2⟩ := sorted_ (cutOf C l)
  obtain ⟨m1, m2⟩ := mergeOf_ok s2 (C := C) (fun p hp => cutOf_all h1 l p (s1.mem_iff.1 hp))
  exact ⟨m1, fun j => (m2 j).trans (Cov.perm s1)⟩
theorem piecesOf_cov {C : Int} (h1 : 1 ≤ C) (h2 : C ≤ 6000) (l : List (Int × Int)) {j : Int} (hj : 0 ≤ j) (hj' : j < C) : Cov (piecesOf C l) j ↔ TS C l j :=
  ((piecesOf_ok h1 l).2 j).trans (cutOf_cov h1 h2 l hj hj')
theorem piecesOf_len (C : Int) (l : List (Int × Int)) : (piecesOf C l).length ≤ 2 * l.length := by
  have h1 := merge_len (sortL (0, 0) pcCmp (cutOf C l)) []
  have h2 := sortL_len (0, 0) pcCmp swoC (cutOf C l)
  have h3 := cutOf_len C l
  unfold piecesOf mergeOf
  simp at h1
  omega
theorem piecesOf_out {C : Int} (h : C < 1 ∨ 6000 < C) (l : List (Int × Int)) : piecesOf C l = [] := by
  have h3 := sortL_len (0, 0) pcCmp swoC (cutOf C l)
  rw [cutOf_out h] at h3
  unfold piecesOf
  rw [cutOf_out h, List.eq_nil_of_length_eq_zero (l := sortL (0, 0) pcCmp []) h3]
  rfl
theorem sort_ (n : Nat) (x : List (Int × Int)) (h : x.length ≤ 1000000) : slices_SortFunc_circle_pieces_1 n x = some (sortL (0, 0) pcCmp x) := by
  unfold slices_SortFunc_circle_pieces_1 sortF
  rw [if_pos (by omega)]
  rfl
set_option linter.unusedVariables false
theorem mstep_nil (p : Int × Int) : mstep [] p = [p] := rfl
theorem mstep_snoc (init : List (Int × Int)) (q p : Int × Int) : mstep (init ++ [q]) p = if p.1 ≤ q.2 then init ++ [(q.1, max q.2 p.2)] else init ++ [q] ++ [p] := by simp [mstep]
theorem fold_snoc (S : List (Int × Int)) (i : Nat) (h : i < S.length) : (S.take (i + 1)).foldl mstep [] = mstep ((S.take i).foldl mstep []) (S.getD i (0, 0)) := by
  rw [take_snoc S i (0, 0) h]; simp
theorem set_snoc {A : Type} (init : List A) (q v : A) : List.set (init ++ [q]) init.length v = init ++ [v] := by simp
theorem getD_snoc {A : Type} (init : List A) (q d : A) : (init ++ [q]).getD init.length d = q := by simp
theorem pieces_ (C : Int) (l : List (Int × Int)) (hl : l.length ≤ 1000) : Ev (fun n => circle_pieces n (C, l)) (piecesOf C l) := by
  unfold circle_pieces
  refine Ev.bindS (a := (l, C)) (fun n => rfl) ?_
  simp only [ifY_yes yokT_350]
  refine Ev.bind (cutfn_ C l hl) ?_
  have hcl := cutOf_len C l
  refine Ev.bindS (fun n => sort_ n (cutOf C l) (by omega)) ?_
  have hSl := sortL_len (0, 0) pcCmp swoC (cutOf C l)
  unfold piecesOf
  generalize sortL (0, 0) pcCmp (cutOf C l) = S at *
  refine Ev.loopB (st := fun i => ((S.length : Int), (i : Int), (S.take i).foldl mstep [], S)) S.length (mergeOf S) (by simp) (fun i hi => ?_) ?_ ?_
  · refine Ev.const fun n => ?_
    have hlen := merge_len (S.take i) []
    simp only [List.length_nil, List.length_take, Nat.zero_add] at hlen
    simp only [Int.ofNat_lt, hi, decide_true, cond_true, inB_nat, atI_nat, fold_snoc S i hi, letJ, wrap_succ (show i < 9223372036854775807 by omega)]
    generalize S.getD i (0, 0) = p
    generalize (S.take i).foldl mstep [] = out at *
    rcases List.eq_nil_or_concat out with rfl | ⟨init, q, rfl⟩
    · simp [fitB, mstep_nil]
    · rw [List.concat_eq_append] at *
      rw [List.length_append] at *
      simp only [List.length_cons, List.length_nil, Nat.zero_add] at *
      have w : wrap64 (((init.length + 1 : Nat) : Int) - 1) = (init.length : Int) := by rw [wrap64_id (by omega) (by omega)]; omega
      have hpos : decide ((0 : Int) < ((init.length + 1 : Nat) : Int)) = true := decide_eq_true (by omega)
      rw [hpos, w]
      simp only [cond_true, inB_nat, atI_nat, getD_snoc, Int.toNat_natCast, set_snoc, mstep_snoc, show init.length < init.length + 1 from Nat.lt_succ_self _, decide_true, mx_eq]
      by_cases h : p.1 ≤ q.2
      · simp [h]
      · have hf : fitB (init.length + 1 + 1) 16 = true := fitB_ok (by omega)
        simp [h, hf]
  · exact Ev.const fun n => by simp [mergeOf]
  · exact Ev.ret _
theorem clone_ (n : Nat) (x : List (Int × Int)) (h : x.length ≤ 1000000) : slices_Clone_piece n x = some x := by
  unfold slices_Clone_piece
  simp only [fitB_ok (show x.length * 16 ≤ 140737488355328 by omega), cond_true]
  cases x with
  | nil => simp [both_self]
  | cons a x => rfl
/-- The loop that puts pieces in form. -/
theorem arcs_loop (J : List (Int × Int)) (hJ : J.length ≤ 1000000) (hb : ∀ p ∈ J, 0 ≤ p.1 ∧ p.1 ≤ 1000000 ∧ 0 ≤ p.2 ∧ p.2 ≤ 1000000) :
    Ev (fun n => (iterL (Y := (List (Int × Int))) n (fun (x7 : (List (Int × Int)) × Int × Int × List (Int × Int)) =>
      let e3 := atI (0, 0) x7.1 x7.2.2.1
      let e4 := e3.1
      let e5 := (e4, wrap64 (e3.2 - e4)) :: []
      bif decide (x7.2.2.1 < x7.2.1) then
        bif inB x7.2.2.1 x7.1.length then
          bif fitB (x7.2.2.2.length + e5.length) 16 then
            some (.inl (x7.1, x7.2.1, wrap64 (x7.2.2.1 + 1), x7.2.2.2 ++ e5))
          else
          none
        else
        none
      else
      some (.inr x7.2.2.2)) (J, ((J.length : Nat) : Int), 0, [])).bind fun (z8 : List (Int × Int)) =>
      some z8) (J.map fun p => (p.1, p.2 - p.1)) := by
  refine Ev.loopB (st := fun i => (J, (J.length : Int), (i : Int), (J.take i).map fun p => (p.1, p.2 - p.1))) J.length (J.map fun p => (p.1, p.2 - p.1)) (by simp) (fun i hi => ?_) ?_ ?_
  · refine Ev.const fun n => ?_
    have hf : fitB (min i J.length + 1) 16 = true := fitB_ok (by omega)
    simp only [Int.ofNat_lt, hi, decide_true, cond_true, inB_nat, atI_nat, take_snoc J i (0, 0) hi, wrap_succ (show i < 9223372036854775807 by omega), List.map_append, List.length_map, List.length_take, List.length_cons, List.length_nil, Nat.zero_add, hf]
    have := hb (J.getD i (0, 0)) (by rw [getD_lt _ _ _ hi]; exact List.getElem_mem hi)
    rw [wrap64_id (by omega) (by omega)]
    rfl
  · exact Ev.const fun n => by simp
  · exact Ev.ret _
theorem arcs_ {C : Int} (hC : C ≤ 6000) {P : List (Int × Int)} (hg : PGood C P) (hl : P.length ≤ 100000) : Ev (fun n => circle_arcs n (C, P)) (arcsOf C P) := by
  unfold circle_arcs
  simp only [letJ]
  have hJ : ∀ J : List (Int × Int), J.length ≤ P.length → (∀ p ∈ J, 0 ≤ p.1 ∧ p.1 ≤ 1000000 ∧ 0 ≤ p.2 ∧ p.2 ≤ 1000000) → _ := fun J h1 h2 => arcs_loop J (by omega) h2
  have hbd : ∀ p ∈ P, 0 ≤ p.1 ∧ p.1 ≤ 1000000 ∧ 0 ≤ p.2 ∧ p.2 ≤ 1000000 := fun p hp => by have := hg.all p hp; omega
  unfold arcsOf
  cases P with
  | nil => exact Ev.const fun n => by simp [joinP]
  | cons p r =>
    have hp0 := hg.all p (by simp)
    rcases List.eq_nil_or_concat r with rfl | ⟨mid, q, rfl⟩
    · have := hJ [p] (by simp) hbd
      refine Ev.congr (F := _) this fun n => ?_
      have w : wrap64 (((([p] : List (Int × Int)).length : Nat) : Int) - 1) = 0 := by rw [wrap64_id] <;> simp
      rw [w]
      simp [joinP]
    · rw [List.concat_eq_append] at *
      have hq0 := hg.all q (by simp)
      have hlen : (p :: (mid ++ [q])).length = mid.length + 2 := by simp
      have w : wrap64 ((((p :: (mid ++ [q])).length : Nat) : Int) - 1) = ((mid.length + 1 : Nat) : Int) := by rw [hlen, wrap64_id (by rw [hlen] at hl; omega) (by rw [hlen] at hl; omega)]; omega
      have g0 : (p :: (mid ++ [q])).getD 0 (0, 0) = p := rfl
      have gl : (p :: (mid ++ [q])).getD (mid.length + 1) (0, 0) = q := by simp
      have ej : joinP C (p :: (mid ++ [q])) = if p.1 = 0 ∧ q.2 = C then mid ++ [(q.1, C + p.2)] else p :: (mid ++ [q]) := by simp [joinP]
      have hne : ((((p :: (mid ++ [q])).length : Nat) : Int) == 0) = false := by rw [hlen]; simp; omega
      rw [hlen] at hl
      rw [w, ej]
      simp only [hne, cond_false, inB_zero, inB_nat, atI_zero, atI_nat, g0, gl, hlen, show 0 < mid.length + 2 by omega, show mid.length + 1 < mid.length + 2 by omega, decide_true, cond_true, decide_eq_true (show (0 : Int) < ((mid.length + 1 : Nat) : Int) by omega)]
      have hno := hJ (p :: (mid ++ [q])) (Nat.le_refl _) hbd
      rw [hlen] at hno
      by_cases hp : p.1 = 0
      · rw [hp]
        simp only [beq_self_eq_true, cond_true]
        by_cases hq : q.2 = C
        · have hb : (q.2 == C) = true := by simp [hq]
          have hcut : cutOk (some 1) (some ((mid.length + 1 : Nat) : Int)) (mid.length + 2) = true := by simp [cutOk]; omega
          have hcl : cutList (some 1) (some ((mid.length + 1 : Nat) : Int)) (p :: (mid ++ [q])) = mid := by simp [cutList]
          rw [hb, hcut, hcl]
          simp only [cond_true]
          refine Ev.bindS (fun n => clone_ n mid (by omega)) ?_
          have hf : fitB (mid.length + 1) 16 = true := fitB_ok (by omega)
          simp only [List.length_cons, List.length_nil, Nat.zero_add, hf, cond_true]
          rw [wrap64_id (by omega) (by omega), if_pos ⟨trivial, hq⟩]
          have := hJ (mid ++ [(q.1, C + p.2)]) (by simp) (fun r hr => by
            rw [List.mem_append, List.mem_singleton] at hr
            rcases hr with hr | rfl
            · exact hbd r (by simp [hr])
            · simp only; omega)
          simpa using this
        · have hb : (q.2 == C) = false := by simp [hq]
          rw [hb, if_neg (fun h => hq h.2)]
          simp only [cond_false]
          exact hno
      · have hb : (p.1 == 0) = false := by simp [hp]
        rw [hb, if_neg (fun h => hp h.1)]
        simp only [cond_false]
        exact hno
theorem arcs_nil (C : Int) : Ev (fun n => circle_arcs n (C, [])) [] := Ev.const fun n => rfl
/-- Arcs in form, of any arcs. -/
def setOf (C : Int) (l : List (Int × Int)) : List (Int × Int) := arcsOf C (piecesOf C l)
theorem piecesOf_good (C : Int) (l : List (Int × Int)) : PGood C (piecesOf C l) := by
  by_cases h : 1 ≤ C
  · exact (piecesOf_ok h l).1
  · rw [piecesOf_out (.inl (by omega))]; exact PGood.nil C
theorem arcs_pieces (C : Int) (l : List (Int × Int)) (hl : l.length ≤ 1000) : Ev (fun n => circle_arcs n (C, piecesOf C l)) (setOf C l) := by
  have h3 := piecesOf_len C l
  unfold setOf
  by_cases h2 : C ≤ 6000
  · exact arcs_ h2 (piecesOf_good C l) (by omega)
  · rw [piecesOf_out (.inr (by omega))]; exact arcs_nil C
theorem set_ (C : Int) (l : List (Int × Int)) (hl : l.length ≤ 1000) : Ev (fun n => circle_Set n (C, l)) (setOf C l) := by
  unfold circle_Set
  refine Ev.bind (pieces_ C l hl) ?_
  exact Ev.bind (arcs_pieces C l hl) (Ev.ret _)
theorem setOf_len (C : Int) (l : List (Int × Int)) : (setOf C l).length ≤ 2 * l.length := by
  have h1 := piecesOf_len C l
  have h2 := arcsOf_len C (piecesOf C l)
  unfold setOf; omega
theorem setOf_arcs {C : Int} (h1 : 1 ≤ C) (h2 : C ≤ 6000) (l : List (Int × Int)) : Arcs C (TS C l) (setOf C l) :=
  (arcsOf_ok (piecesOf_good C l)).congr h1 fun j hj hj' => piecesOf_cov h1 h2 l hj hj'
theorem setOf_ts {C : Int} (h1 : 1 ≤ C) (h2 : C ≤ 6000) (l : List (Int × Int)) {j : Int} (hj : 0 ≤ j) (hj' : j < C) : TS C (setOf C l) j ↔ TS C l j :=
  (arcsOf_ts (piecesOf_good C l) hj hj').trans (piecesOf_cov h1 h2 l hj hj')
theorem setOf_out {C : Int} (h : C < 1 ∨ 6000 < C) (l : List (Int × Int)) : setOf C l = [] := by unfold setOf; rw [piecesOf_out h]; rfl

/-! ### The ticks that are not there; those of both -/
theorem between_snoc (C : Int) : ∀ (P : List (Int × Int)) (at_ : Int), between C at_ P = (P.foldl (fun (s : Int × List (Int × Int)) p => (p.2, s.2 ++ if p.1 > s.1 then [(s.1, p.1)] else [])) (at_, [])).2 ++ (if (P.foldl (fun (s : Int × List (Int × Int)) p => (p.2, s.2 ++ if p.1 > s.1 then [(s.1, p.1)] else [])) (at_, [])).1 < C then [((P.foldl (fun (s : Int × List (Int × Int)) p => (p.2, s.2 ++ if p.1 > s.1 then [(s.1, p.1)] else [])) (at_, [])).1, C)] else []) := by
  have gen : ∀ (P : List (Int × Int)) (at_ : Int) (out : List (Int × Int)), P.foldl (fun (s : Int × List (Int × Int)) p => (p.2, s.2 ++ if p.1 > s.1 then [(s.1, p.1)] else [])) (at_, out) = ((P.foldl (fun (s : Int × List (Int × Int)) p => (p.2, s.2 ++ if p.1 > s.1 then [(s.1, p.1)] else [])) (at_, [])).1, out ++ (P.foldl (fun (s : Int × List (Int × Int)) p => (p.2, s.2 ++ if p.1 > s.1 then [(s.1, p.1)] else [])) (at_, [])).2) := by
    intro P
    induction P with
    | nil => intro at_ out; simp
    | cons p P ih =>
      intro at_ out
      simp only [List.foldl_cons]
      rw [ih p.2 (out ++ _), ih p.2 ([] ++ _)]
      simp [List.append_assoc]
  intro P
  induction P with
  | nil => intro at_; simp [between]
  | cons p P ih =>
    intro at_
    simp only [List.foldl_cons, between]
    rw [gen P p.2 ([] ++ _), ih p.2]
    simp [List.append_assoc]
/-- One round of the search for what both have. -/
def cstep (s : List (Int × Int) × List (Int × Int) × List (Int × Int)) : List (Int × Int) × List (Int × Int) × List (Int × Int) := match s with
  | (a :: ar, b :: bs, out) => (if a.2 < b.2 then (ar, b :: bs, out ++ if max a.1 b.1 < min a.2 b.2 then [(max a.1 b.1, min a.2 b.2)] else []) else (a :: ar, bs, out ++ if max a.1 b.1 < min a.2 b.2 then [(max a.1 b.1, min a.2 b.2)] else []))
  | s => s
theorem common_ (a b : List (Int × Int)) (ha : a.length ≤ 100000) (hb : b.length ≤ 100000) : Ev (fun n => circle_common n (a, b)) (common a b) := by
  unfold circle_common
  refine Ev.bind (a := common a b) ?_ (Ev.ret _)
  refine Ev.iter (fun s => s.1.length + s.2.1.length + s.2.2.length ≤ 200000) (fun s => s.1.length + s.2.1.length) (fun s => s.2.2 ++ common s.1 s.2.1) ?_ (a, b, []) (by simp; omega)
  rintro ⟨a, b, out⟩ hs
  simp only at hs
  simp only [letJ]
  cases a with
  | nil =>
    right
    refine ⟨out, Ev.const fun n => by simp, by simp [common]⟩
  | cons a ar =>
    cases b with
    | nil =>
      right
      refine ⟨out, Ev.const fun n => by simp, by simp [common]⟩
    | cons b bs =>
      left
      simp only [List.length_cons] at hs
      have p1 : decide ((0 : Int) < (((a :: ar).length : Nat) : Int)) = true := decide_eq_true (by simp only [List.length_cons]; omega)
      have p2 : decide ((0 : Int) < (((b :: bs).length : Nat) : Int)) = true := decide_eq_true (by simp only [List.length_cons]; omega)
      have i1 : inB 0 (a :: ar).length = true := by rw [inB_zero]; simp
      have i2 : inB 0 (b :: bs).length = true := by rw [inB_zero]; simp
      have c1 : cutOk (some 1) none (a :: ar).length = true := by simp only [cutOk, List.length_cons, Bool.and_eq_true, decide_eq_true_eq]; omega
      have c2 : cutOk (some 1) none (b :: bs).length = true := by simp only [cutOk, List.length_cons, Bool.and_eq_true, decide_eq_true_eq]; omega
      have hf : fitB (out.length + 1) 16 = true := fitB_ok (by omega)
      have l1 : cutList (some 1) none (a :: ar) = ar := by simp [cutList]
      have l2 : cutList (some 1) none (b :: bs) = bs := by simp [cutList]
      refine ⟨cstep (a :: ar, b :: bs, out), Ev.const fun n => ?_, ?_, ?_, ?_⟩
      · simp only [p1, p2, i1, i2, c1, c2, l1, l2, cond_true, atI_zero, List.getD_cons_zero, mx_eq, mn_eq, cstep]
        by_cases h1 : max a.1 b.1 < min a.2 b.2 <;> by_cases h2 : a.2 < b.2 <;> simp [h1, h2, hf]
      · simp only [cstep]
        by_cases h1 : max a.1 b.1 < min a.2 b.2 <;> by_cases h2 : a.2 < b.2 <;> simp [h1, h2] <;> omega
      · simp only [cstep]
        by_cases h2 : a.2 < b.2 <;> simp [h2]
      · simp only [cstep]
        rw [common]
        by_cases h2 : a.2 < b.2 <;> simp [h2]
set_option linter.unusedVariables false
/-! ### Rests, meets -/
def restOf (C : Int) (l : List (Int × Int)) : List (Int × Int) := if 1 ≤ C ∧ C ≤ 6000 then arcsOf C (between C 0 (piecesOf C l)) else []
theorem between_good {C : Int} (h1 : 1 ≤ C) {P : List (Int × Int)} (hg : PGood C P) : PGood C (between C 0 P) ∧ ∀ j, 0 ≤ j → j < C → (Cov (between C 0 P) j ↔ ¬ Cov P j) := by
  obtain ⟨b1, _, b3⟩ := between_ok P 0 hg (by omega) (by omega) (fun p hp => (hg.all p hp).1)
  exact ⟨b1, b3⟩
theorem restOf_len (C : Int) (l : List (Int × Int)) : (restOf C l).length ≤ 2 * l.length + 1 := by
  have h3 := piecesOf_len C l
  have h4 := between_len C (piecesOf C l) 0
  have h5 := arcsOf_len C (between C 0 (piecesOf C l))
  unfold restOf; split
  · omega
  · simp
theorem restOf_arcs {C : Int} (h1 : 1 ≤ C) (h2 : C ≤ 6000) (l : List (Int × Int)) : Arcs C (fun j => ¬ TS C l j) (restOf C l) := by
  unfold restOf; rw [if_pos ⟨h1, h2⟩]
  obtain ⟨b1, b3⟩ := between_good h1 (piecesOf_good C l)
  exact (arcsOf_ok b1).congr h1 fun j hj hj' => (b3 j hj hj').trans (not_congr (piecesOf_cov h1 h2 l hj hj'))
theorem restOf_ts {C : Int} (h1 : 1 ≤ C) (h2 : C ≤ 6000) (l : List (Int × Int)) {j : Int} (hj : 0 ≤ j) (hj' : j < C) : TS C (restOf C l) j ↔ ¬ TS C l j := by
  unfold restOf; rw [if_pos ⟨h1, h2⟩]
  obtain ⟨b1, b3⟩ := between_good h1 (piecesOf_good C l)
  exact (arcsOf_ts b1 hj hj').trans ((b3 j hj hj').trans (not_congr (piecesOf_cov h1 h2 l hj hj')))
theorem restOf_out {C : Int} (h : ¬ (1 ≤ C ∧ C ≤ 6000)) (l : List (Int × Int)) : restOf C l = [] := by unfold restOf; rw [if_neg h]
def meetOf (C : Int) (a b : List (Int × Int)) : List (Int × Int) := arcsOf C (common (piecesOf C a) (piecesOf C b))
theorem meet_ (C : Int) (a b : List (Int × Int)) (ha : a.length ≤ 1000) (hb : b.length ≤ 1000) : Ev (fun n => circle_Meet n (C, a, b)) (meetOf C a b) := by
  unfold circle_Meet meetOf
  have h1 := piecesOf_len C a
  have h2 := piecesOf_len C b
  have h3 := common_len _ (piecesOf C a) (piecesOf C b) rfl
  refine Ev.bind (pieces_ C a ha) (Ev.bind (pieces_ C b hb) (Ev.bind (common_ _ _ (by omega) (by omega)) ?_))
  by_cases hc : C ≤ 6000
  · exact Ev.bind (arcs_ hc (common_ok _ _ _ rfl (piecesOf_good C a) (piecesOf_good C b)).1 (by omega)) (Ev.ret _)
  · rw [piecesOf_out (.inr (by omega)), piecesOf_out (.inr (by omega)), show common [] [] = [] by simp [common]]
    exact Ev.bind (arcs_nil C) (Ev.ret _)
theorem meetOf_len (C : Int) (a b : List (Int × Int)) : (meetOf C a b).length ≤ 2 * a.length + 2 * b.length := by
  have h1 := piecesOf_len C a
  have h2 := piecesOf_len C b
  have h3 := common_len _ (piecesOf C a) (piecesOf C b) rfl
  have h4 := arcsOf_len C (common (piecesOf C a) (piecesOf C b))
  unfold meetOf; omega
theorem meetOf_arcs {C : Int} (h1 : 1 ≤ C) (h2 : C ≤ 6000) (a b : List (Int × Int)) : Arcs C (fun j => TS C a j ∧ TS C b j) (meetOf C a b) := by
  obtain ⟨c1, _, c3⟩ := common_ok _ _ _ rfl (piecesOf_good C a) (piecesOf_good C b)
  exact (arcsOf_ok c1).congr h1 fun j hj hj' => (c3 j).trans (and_congr (piecesOf_cov h1 h2 a hj hj') (piecesOf_cov h1 h2 b hj hj'))
theorem meetOf_ts {C : Int} (h1 : 1 ≤ C) (h2 : C ≤ 6000) (a b : List (Int × Int)) {j : Int} (hj : 0 ≤ j) (hj' : j < C) : TS C (meetOf C a b) j ↔ TS C a j ∧ TS C b j := by
  obtain ⟨c1, _, c3⟩ := common_ok _ _ _ rfl (piecesOf_good C a) (piecesOf_good C b)
  exact (arcsOf_ts c1 hj hj').trans ((c3 j).trans (and_congr (piecesOf_cov h1 h2 a hj hj') (piecesOf_cov h1 h2 b hj hj')))
theorem meetOf_out {C : Int} (h : C < 1 ∨ 6000 < C) (a b : List (Int × Int)) : meetOf C a b = [] := by
  unfold meetOf; rw [piecesOf_out h, piecesOf_out h, show common [] [] = [] by simp [common]]; rfl
def lessOf (C : Int) (a b : List (Int × Int)) : List (Int × Int) := if 1 ≤ C ∧ C ≤ 6000 then arcsOf C (common (piecesOf C a) (between C 0 (piecesOf C b))) else []
theorem lessOf_arcs {C : Int} (h1 : 1 ≤ C) (h2 : C ≤ 6000) (a b : List (Int × Int)) : Arcs C (fun j => TS C a j ∧ ¬ TS C b j) (lessOf C a b) := by
  unfold lessOf; rw [if_pos ⟨h1, h2⟩]
  obtain ⟨b1, b3⟩ := between_good h1 (piecesOf_good C b)
  obtain ⟨c1, _, c3⟩ := common_ok _ _ _ rfl (piecesOf_good C a) b1
  exact (arcsOf_ok c1).congr h1 fun j hj hj' => (c3 j).trans (and_congr (piecesOf_cov h1 h2 a hj hj') ((b3 j hj hj').trans (not_congr (piecesOf_cov h1 h2 b hj hj'))))
theorem lessOf_ts {C : Int} (h1 : 1 ≤ C) (h2 : C ≤ 6000) (a b : List (Int × Int)) {j : Int} (hj : 0 ≤ j) (hj' : j < C) : TS C (lessOf C a b) j ↔ TS C a j ∧ ¬ TS C b j := by
  unfold lessOf; rw [if_pos ⟨h1, h2⟩]
  obtain ⟨b1, b3⟩ := between_good h1 (piecesOf_good C b)
  obtain ⟨c1, _, c3⟩ := common_ok _ _ _ rfl (piecesOf_good C a) b1
  exact (arcsOf_ts c1 hj hj').trans ((c3 j).trans (and_congr (piecesOf_cov h1 h2 a hj hj') ((b3 j hj hj').trans (not_congr (piecesOf_cov h1 h2 b hj hj')))))
theorem lessOf_out {C : Int} (h : ¬ (1 ≤ C ∧ C ≤ 6000)) (a b : List (Int × Int)) : lessOf C a b = [] := by unfold lessOf; rw [if_neg h]
theorem lessOf_len (C : Int) (a b : List (Int × Int)) : (lessOf C a b).length ≤ 2 * a.length + 2 * b.length + 1 := by
  have h1 := piecesOf_len C a
  have h2 := piecesOf_len C b
  have h4 := between_len C (piecesOf C b) 0
  have h3 := common_len _ (piecesOf C a) (between C 0 (piecesOf C b)) rfl
  have h5 := arcsOf_len C (common (piecesOf C a) (between C 0 (piecesOf C b)))
  unfold lessOf; split
  · omega
  · simp
/-! ### Turns -/
/-- Norm, and turned. -/
def turn1 (C by_ : Int) (a : Int × Int) : Int × Int := ((normOf C a).1 + by_ % max C 1, (normOf C a).2)
def turnOf (C : Int) (l : List (Int × Int)) (by_ : Int) : List (Int × Int) := setOf C (l.map (turn1 C by_))
theorem turn1_has {C : Int} (h1 : 1 ≤ C) (h2 : C ≤ 6000) (by_ : Int) (a : Int × Int) (j : Int) : HasT C (turn1 C by_ a) j ↔ HasT C a (j - by_) := by
  rw [← normOf_in h1 h2 a (j - by_)]
  unfold HasT turn1
  rw [show max C 1 = C by omega]
  simp only
  have : (j - ((normOf C a).1 + by_ % C)) % C = (j - by_ - (normOf C a).1) % C := by
    rw [show j - ((normOf C a).1 + by_ % C) = j - (normOf C a).1 - by_ % C by omega, Int.sub_emod_emod]
    congr 1; omega
  rw [this]
theorem turn_ts {C : Int} (h1 : 1 ≤ C) (h2 : C ≤ 6000) (by_ : Int) (l : List (Int × Int)) (j : Int) : TS C (l.map (turn1 C by_)) j ↔ TS C l (j - by_) := by
  simp only [TS, List.mem_map]
  constructor
  · rintro ⟨_, ⟨a, ha, rfl⟩, h⟩; exact ⟨a, ha, (turn1_has h1 h2 by_ a j).1 h⟩
  · rintro ⟨a, ha, h⟩; exact ⟨_, ⟨a, ha, rfl⟩, (turn1_has h1 h2 by_ a j).2 h⟩
theorem turnOf_arcs {C : Int} (h1 : 1 ≤ C) (h2 : C ≤ 6000) (l : List (Int × Int)) (by_ : Int) : Arcs C (fun j => TS C l (j - by_)) (turnOf C l by_) :=
  (setOf_arcs h1 h2 _).congr h1 fun j _ _ => turn_ts h1 h2 by_ l j
theorem turnOf_ts {C : Int} (h1 : 1 ≤ C) (h2 : C ≤ 6000) (l : List (Int × Int)) (by_ : Int) {j : Int} (hj : 0 ≤ j) (hj' : j < C) : TS C (turnOf C l by_) j ↔ TS C l (j - by_) :=
  (setOf_ts h1 h2 _ hj hj').trans (turn_ts h1 h2 by_ l j)
theorem turnOf_out {C : Int} (h : C < 1 ∨ 6000 < C) (l : List (Int × Int)) (by_ : Int) : turnOf C l by_ = [] := setOf_out h _
theorem turnOf_len (C : Int) (l : List (Int × Int)) (by_ : Int) : (turnOf C l by_).length ≤ 2 * l.length := by
  have := setOf_len C (l.map (turn1 C by_)); unfold turnOf; simpa using this
theorem HasT.mod (C : Int) (a : Int × Int) (j : Int) : HasT C a (j % C) ↔ HasT C a j := by unfold HasT; rw [Int.emod_sub_emod]
theorem TS.mod (C : Int) (l : List (Int × Int)) (j : Int) : TS C l (j % C) ↔ TS C l j := by simp only [TS, HasT.mod]
/-! ### Totals -/
theorem total_take (P : List (Int × Int)) (i : Nat) (h : i < P.length) : totalOf (P.take (i + 1)) = totalOf (P.take i) + ((P.getD i (0, 0)).2 - (P.getD i (0, 0)).1) := by
  rw [take_snoc P i (0, 0) h]; simp [totalOf]
theorem total_bound {P : List (Int × Int)} (hb : ∀ p ∈ P, 0 ≤ p.2 - p.1 ∧ p.2 - p.1 ≤ 6000) : 0 ≤ totalOf P ∧ totalOf P ≤ 6000 * P.length := by
  induction P with
  | nil => simp [totalOf]
  | cons p P ih =>
    have := hb p (by simp)
    have := ih fun q hq => hb q (by simp [hq])
    simp only [totalOf, List.map_cons, List.sum_cons, List.length_cons] at *
    omega
/-! ### The widest arc -/
def wide (m x : Int × Int) : Int × Int := if m.2 < x.2 then x else m
def widestOf : List (Int × Int) → Int × Int
  | [] => (0, 0)
  | a :: r => r.foldl wide a
/-! ### Gaps -/
def gapOf (C : Int) (a b : Int × Int) : Int := if (normOf C a).2 = 0 ∨ (normOf C b).2 = 0 ∨ (normOf C a).2 = C ∨ (normOf C b).2 = C then 0 else ((normOf C b).1 - (normOf C a).1 - (normOf C a).2) % C
end Go.Proofs.Ytoafplpdjmiolaa.Fn
