/- The chart's functions: what mark, row and Row come to, and the document's Row. -/
import Derived.Test.YtoafplpdjmiolaaCircRef
import Derived.Test.YtoafplpdjmiolaaSigns
import Derived.Test.YtoafplpdjmiolaaLibF
namespace Go.Proofs.Ytoafplpdjmiolaa.Fn
open Go Go.RowKit Go.Den Go.Circ
set_option linter.unusedVariables false
set_option maxRecDepth 100000
theorem right_ (n : Nat) (c s : Int) : chart_right n (c, s) = some (decide (1 ≤ c ∧ c ≤ 6000 ∧ 1 ≤ s ∧ s ≤ 6000)) := by
  unfold chart_right
  simp only [letJ]
  by_cases h1 : 1 ≤ c <;> by_cases h2 : c ≤ 6000 <;> by_cases h3 : 1 ≤ s <;> by_cases h4 : s ≤ 6000 <;> simp [h1, h2, h3, h4]
/-- What one arc's two stretches come to. -/
theorem two_rows {c s g : Int} {a : Int × Int} {R : List Int} (hc : 1 ≤ c) (hs : 1 ≤ s) (hR : R.length = nSig c s) (h0 : 0 ≤ a.1) (h1 : a.1 < c) (h2 : 1 ≤ a.2) (h3 : a.2 ≤ c) :
    rowk (fun k => if k = 0 then a.1 else a.1 - c) a.2 s g R 2 = mkP (fun j => decide (HasT c a ((j : Int) * s))) g R := by
  simp only [rowk, mkP_or]
  refine mkP_congr fun j hj => ?_
  have ht := (nSig_lt hc hs j).1 (by omega)
  have hz : 0 ≤ (j : Int) * s := Int.mul_nonneg (by omega) (by omega)
  have := two_marks h0 h1 h2 h3 hz ht
  unfold stretch
  simp only [if_true, show ¬ ((1 : Nat) = 0) from by omega, if_false]
  rw [← Bool.decide_or]
  exact decide_eq_decide.2 this
theorem mark_ {c s : Int} (g : Int) (rest : List Int) (hc : 1 ≤ c) (hc' : c ≤ 6000) (hs : 1 ≤ s) (hs' : s ≤ 6000) (l : List (Int × Int)) (hl : l.length ≤ 1000000) (hall : ∀ a ∈ l, 0 ≤ a.1 ∧ a.1 < c ∧ 1 ≤ a.2 ∧ a.2 ≤ c)
    (row : List Int) (hrow : row.length = nSig c s) : Ev (fun n => chart_page_mark n (l, g, c, s, row, rest)) (c, s, mkP (fun j => l.any fun a => decide (HasT c a ((j : Int) * s))) g row, rest) := by
  unfold chart_page_mark
  refine Ev.loopB (fun i => (g, l, (l.length : Int), (i : Int), c, s, mkP (fun j => (l.take i).any fun a => decide (HasT c a ((j : Int) * s))) g row, rest)) l.length (c, s, mkP (fun j => l.any fun a => decide (HasT c a ((j : Int) * s))) g row, rest) ?_ ?_ ?_ (Ev.ret _)
  · simp only [List.take_zero, List.any_nil]
    rw [mkP_none (fun _ _ => rfl)]; rfl
  · intro i hi
    have hm := hall (l.getD i (0, 0)) (by rw [getD_lt _ _ _ hi]; exact List.getElem_mem hi)
    have hst : mkP (fun j => (l.take (i + 1)).any fun a => decide (HasT c a ((j : Int) * s))) g row = mkP (fun j => decide (HasT c (l.getD i (0, 0)) ((j : Int) * s))) g (mkP (fun j => (l.take i).any fun a => decide (HasT c a ((j : Int) * s))) g row) := by
      rw [mkP_or]
      refine mkP_congr fun j _ => ?_
      rw [take_snoc l i (0, 0) hi, List.any_append]
      simp
    rw [hst]
    have hR : (mkP (fun j => (l.take i).any fun a => decide (HasT c a ((j : Int) * s))) g row).length = nSig c s := by rw [mkP_len, hrow]
    generalize mkP (fun j => (l.take i).any fun a => decide (HasT c a ((j : Int) * s))) g row = R at hR ⊢
    dsimp only
    refine Ev.yes (by simp; omega) (Ev.yes (by rw [inB_nat]; simp [hi]) ?_)
    rw [atI_nat]
    generalize l.getD i (0, 0) = a at hm ⊢
    obtain ⟨h0, h1, h2, h3⟩ := hm
    rw [← two_rows hc hs hR h0 h1 h2 h3]
    rw [wrap64_id (n := a.1 - c) (by omega) (by omega)]
    refine Ev.bind (a := (g, l, (l.length : Int), (i : Int), c, s, rowk (fun k => if k = 0 then a.1 else a.1 - c) a.2 s g R 2, rest)) ?_ ?_
    · refine Ev.loop (fun k => (g, l, (l.length : Int), (i : Int), [a.1, a.1 - c], 2, (k : Int), c, s, a.1, a.2, rowk (fun k => if k = 0 then a.1 else a.1 - c) a.2 s g R k, rest)) 2 _ ?_ ?_ ?_
      · rfl
      · intro k hk
        dsimp only
        have hf : atI 0 [a.1, a.1 - c] (k : Int) = if k = 0 then a.1 else a.1 - c := by
          rw [atI_nat]
          match k, hk with
          | 0, _ => rfl
          | 1, _ => rfl
        rw [hf]
        have hfb : -6000 ≤ (if k = 0 then a.1 else a.1 - c) ∧ (if k = 0 then a.1 else a.1 - c) ≤ 6000 := by split <;> omega
        have hrk : rowk (fun k => if k = 0 then a.1 else a.1 - c) a.2 s g R (k + 1) = mkP (stretch (if k = 0 then a.1 else a.1 - c) a.2 s) g (rowk (fun k => if k = 0 then a.1 else a.1 - c) a.2 s g R k) := rfl
        rw [hrk]
        have hRk : (rowk (fun k => if k = 0 then a.1 else a.1 - c) a.2 s g R k).length = nSig c s := by rw [rowk_len, hR]
        generalize rowk (fun k => if k = 0 then a.1 else a.1 - c) a.2 s g R k = Q at hRk ⊢
        generalize (if k = 0 then a.1 else a.1 - c) = f at hfb ⊢
        refine Ev.yes (by simp; omega) (Ev.yes (by rw [inB_nat]; simp [hk]) (Ev.yes (by simp; omega) ?_))
        rw [first_ hfb.1 hfb.2 hs hs']
        refine Ev.bind (a := (g, l, (l.length : Int), (i : Int), [a.1, a.1 - c], 2, (k : Int), c, s, a.1, a.2, mkP (stretch f a.2 s) g Q, rest)) ?_ ?_
        · have hle : ∀ q : Nat, ((fst0 f s + q : Nat) : Int) * s < min (f + a.2) c → ((fst0 f s + q : Nat) : Int) ≤ ((fst0 f s + q : Nat) : Int) * s := fun q _ => by
            have := Int.mul_le_mul_of_nonneg_left hs (Int.natCast_nonneg (fst0 f s + q))
            rwa [Int.mul_one] at this
          refine Ev.loop (fun q => (g, f, ((fst0 f s + q : Nat) : Int) * s, l, (l.length : Int), (i : Int), [a.1, a.1 - c], 2, (k : Int), c, s, a.1, a.2, mkP (fun j => decide (fst0 f s ≤ j) && decide (j < fst0 f s + q)) g Q, rest)) (many f a.2 c s) _ ?_ ?_ ?_
          · simp only [Nat.add_zero]
            rw [mkP_none (fun j _ => by by_cases h : fst0 f s ≤ j <;> simp [h])]
          · intro q hq
            have hlt := (many_lt hs q).1 hq
            have hle1 := hle q hlt
            dsimp only
            have ew : wrap64 (f + a.2) = f + a.2 := wrap64_id (by omega) (by omega)
            have h00 : 0 ≤ ((fst0 f s + q : Nat) : Int) * s := Int.mul_nonneg (by omega) (by omega)
            have ed : wrap64 (Int.tdiv (((fst0 f s + q : Nat) : Int) * s) s) = ((fst0 f s + q : Nat) : Int) := by
              rw [Int.mul_tdiv_cancel _ (by omega : s ≠ 0)]
              exact wrap64_id (by omega) (by omega)
            have hj : fst0 f s + q < nSig c s := (nSig_lt hc hs _).2 (by omega)
            have en : wrap64 (((fst0 f s + q : Nat) : Int) * s + s) = ((fst0 f s + (q + 1) : Nat) : Int) * s := by
              rw [wrap64_id (by omega) (by omega), ← Nat.add_assoc, Int.natCast_add (fst0 f s + q) 1, Int.add_mul]
              simp
            rw [ew, ed, en, mn_eq]
            refine Ev.yes (by simpa using hlt) (Ev.yes (by simp; omega) (Ev.yes (by rw [inB_nat, mkP_len, hRk]; simpa using hj) ?_))
            refine Ev.of_eq (Ev.ret _) ?_
            have ers : List.set (mkP (fun j => decide (fst0 f s ≤ j) && decide (j < fst0 f s + q)) g Q) (Int.toNat ((fst0 f s + q : Nat) : Int)) g = mkP (fun j => decide (fst0 f s ≤ j) && decide (j < fst0 f s + (q + 1))) g Q := by
              rw [Int.toNat_natCast, set_mkP]
              refine mkP_congr fun j _ => ?_
              by_cases e1 : j = fst0 f s + q
              · subst e1; simp
              · have : (j == fst0 f s + q) = false := by simpa using e1
                rw [this, Bool.or_false]
                congr 1
                exact decide_eq_decide.2 (by omega)
            rw [ers]
          · dsimp only
            have hn : ¬ ((fst0 f s + many f a.2 c s : Nat) : Int) * s < min (f + a.2) c := fun e => absurd ((many_lt hs _).2 e) (Nat.lt_irrefl _)
            rw [wrap64_id (n := f + a.2) (by omega) (by omega), mn_eq]
            refine Ev.no (by simpa using hn) (Ev.of_eq (Ev.ret _) ?_)
            rw [mkP_congr (q := stretch f a.2 s) (fun j hj => stretch_eq hc hs (by omega))]
        · dsimp only
          rw [wrap_succ (by omega)]
          exact Ev.ret _
      · dsimp only
        exact Ev.no (by simp) (Ev.ret _)
    · dsimp only
      rw [wrap_succ (by omega)]
      exact Ev.ret _
  · dsimp only
    refine Ev.no (by simp) (Ev.of_eq (Ev.ret _) ?_)
    rw [List.take_length]
/-! ### A row's text -/
def hasB (C : Int) (a : Int × Int) (t : Int) : Bool := decide (HasT C a t)
def rowT (c s : Int) (a b : Int × Int) : ByteArray := if 1 ≤ c ∧ c ≤ 6000 ∧ 1 ≤ s ∧ s ≤ 6000 then ⟨(rowB c s (hasB c a) (hasB c b)).toArray⟩ else ⟨#[]⟩
theorem nSig_pos {c s : Int} (hc : 1 ≤ c) (hs : 1 ≤ s) : 0 < nSig c s := (nSig_lt hc hs 0).2 (by simp; omega)
theorem nSig_le {c s : Int} (hc : 1 ≤ c) (hs : 1 ≤ s) : (nSig c s : Int) ≤ c := by
  have h := nSig_pos hc hs
  have := (nSig_lt hc hs (nSig c s - 1)).1 (by omega)
  have h2 := Int.mul_le_mul_of_nonneg_left hs (Int.natCast_nonneg (nSig c s - 1))
  omega
theorem nSig_int {c s : Int} (hc : 1 ≤ c) (hs : 1 ≤ s) : ((nSig c s : Nat) : Int) = (c + s - 1) / s := Int.toNat_of_nonneg (Int.ediv_nonneg (by omega) (by omega))
theorem rep_dot : ∀ n, (Go.Lib.repeatL [46] n) = List.replicate n 46
  | 0 => rfl
  | n + 1 => by rw [Go.Lib.repeatL, rep_dot n]; rfl
theorem bytes_dots (n : Nat) : bytesN (repS (ByteArray.mk #[46]) n) = List.replicate n 46 := by
  unfold bytesN repS
  rw [show (ByteArray.mk #[46]).data.toList = [46] from rfl, rep_dot]
  simp
theorem arcs_all {C : Int} {T : Int → Prop} {A : List (Int × Int)} (h : Arcs C T A) : ∀ a ∈ A, 0 ≤ a.1 ∧ a.1 < C ∧ 1 ≤ a.2 ∧ a.2 ≤ C := fun a ha => by
  obtain ⟨h0, h1, h2, h3, _⟩ := (h.mem a).1 ha
  exact ⟨h0, h1, h2, h3⟩
theorem any_ts (C : Int) (l : List (Int × Int)) (t : Int) : (l.any fun a => decide (HasT C a t)) = true ↔ TS C l t := by
  simp [TS]
theorem prow_ {c s : Int} (hc : 1 ≤ c) (hc' : c ≤ 6000) (hs : 1 ≤ s) (hs' : s ≤ 6000) (a b : Int × Int) :
    Ev (fun n => chart_page_row n (a.1, a.2, b.1, b.2, c, s, [])) (c, s, rowI c s (hasB c a) (hasB c b)) := by
  unfold chart_page_row
  dsimp only
  have hK : wrap64 (Int.tdiv (wrap64 ((wrap64 (c + s)) - 1)) s) = ((nSig c s : Nat) : Int) := by
    rw [wrap64_id (n := c + s) (by omega) (by omega), wrap64_id (n := c + s - 1) (by omega) (by omega), Int.tdiv_eq_ediv_of_nonneg (by omega), nSig_int hc hs]
    have h1 := nSig_int hc hs
    have h2 := nSig_le hc hs
    exact wrap64_id (by omega) (by omega)
  have hpos := nSig_pos hc hs
  have hle := nSig_le hc hs
  rw [hK]
  refine Ev.yes (by simp; omega) ?_
  refine Ev.bindS (a := repS (ByteArray.mk #[46]) (nSig c s)) (fun n => ?_) ?_
  · rw [strings_Repeat_eq]
    unfold repF
    rw [if_pos ⟨by simp, by simp [show (ByteArray.mk #[46]).size = 1 from rfl], by simp [show (ByteArray.mk #[46]).size = 1 from rfl]; omega⟩]
    simp
  rw [bytes_dots]
  refine Ev.yes (by rw [inB_zero, fitB_ok (by simp; omega)]; simp; omega) ?_
  refine Ev.bind (set_ c [(a.1, a.2)] (by simp)) (Ev.bind (set_ c [(b.1, b.2)] (by simp)) ?_)
  have hA := setOf_arcs (C := c) (by omega) (by omega) [(a.1, a.2)]
  have hB := setOf_arcs (C := c) (by omega) (by omega) [(b.1, b.2)]
  have lA := setOf_len c [(a.1, a.2)]
  have lB := setOf_len c [(b.1, b.2)]
  have hM := meetOf_arcs (C := c) (by omega) (by omega) (setOf c [(a.1, a.2)]) (setOf c [(b.1, b.2)])
  have lM := meetOf_len c (setOf c [(a.1, a.2)]) (setOf c [(b.1, b.2)])
  have tA : ∀ t, 0 ≤ t → t < c → ((setOf c [(a.1, a.2)]).any fun x => decide (HasT c x t)) = hasB c a t := fun t h0 h1 => by
    rw [Bool.eq_iff_iff, any_ts, setOf_ts (by omega) (by omega) _ h0 h1]; simp [TS, hasB]
  have tB : ∀ t, 0 ≤ t → t < c → ((setOf c [(b.1, b.2)]).any fun x => decide (HasT c x t)) = hasB c b t := fun t h0 h1 => by
    rw [Bool.eq_iff_iff, any_ts, setOf_ts (by omega) (by omega) _ h0 h1]; simp [TS, hasB]
  have tM : ∀ t, 0 ≤ t → t < c → ((meetOf c (setOf c [(a.1, a.2)]) (setOf c [(b.1, b.2)])).any fun x => decide (HasT c x t)) = (hasB c a t && hasB c b t) := fun t h0 h1 => by
    rw [← tA t h0 h1, ← tB t h0 h1, Bool.eq_iff_iff, any_ts, meetOf_ts (by omega) (by omega) _ _ h0 h1, Bool.and_eq_true, any_ts, any_ts]
  simp only [List.length_cons, List.length_nil] at lA lB
  refine Ev.bind (mark_ 62 [] hc hc' hs hs' _ (by omega) (arcs_all hA) (List.replicate (nSig c s) 46) (by simp)) ?_
  refine Ev.bind (mark_ 60 [] hc hc' hs hs' _ (by omega) (arcs_all hB) _ (by rw [mkP_len]; simp)) ?_
  refine Ev.bind (meet_ c _ _ (by omega) (by omega)) ?_
  refine Ev.bind (mark_ 35 [] hc hc' hs hs' _ (by omega) (arcs_all hM) _ (by rw [mkP_len, mkP_len]; simp)) ?_
  have hr := marks_row c s (hasB c a) (hasB c b) (fun t => hasB c a t && hasB c b t) (fun j _ => rfl)
  have hin : ∀ j : Nat, j < nSig c s → 0 ≤ (j : Int) * s ∧ (j : Int) * s < c := fun j hj => ⟨Int.mul_nonneg (by omega) (by omega), (nSig_lt hc hs j).1 hj⟩
  have e1 : mkP (fun j => (setOf c [(a.1, a.2)]).any fun x => decide (HasT c x ((j : Int) * s))) 62 (List.replicate (nSig c s) 46) = mkP (fun j => hasB c a ((j : Int) * s)) 62 (List.replicate (nSig c s) 46) :=
    mkP_congr fun j hj => tA _ (hin j (by simpa using hj)).1 (hin j (by simpa using hj)).2
  rw [e1]
  have e2 : mkP (fun j => (setOf c [(b.1, b.2)]).any fun x => decide (HasT c x ((j : Int) * s))) 60 (mkP (fun j => hasB c a ((j : Int) * s)) 62 (List.replicate (nSig c s) 46)) = mkP (fun j => hasB c b ((j : Int) * s)) 60 (mkP (fun j => hasB c a ((j : Int) * s)) 62 (List.replicate (nSig c s) 46)) :=
    mkP_congr fun j hj => tB _ (hin j (by simpa [mkP_len] using hj)).1 (hin j (by simpa [mkP_len] using hj)).2
  rw [e2]
  have e3 : mkP (fun j => (meetOf c (setOf c [(a.1, a.2)]) (setOf c [(b.1, b.2)])).any fun x => decide (HasT c x ((j : Int) * s))) 35 (mkP (fun j => hasB c b ((j : Int) * s)) 60 (mkP (fun j => hasB c a ((j : Int) * s)) 62 (List.replicate (nSig c s) 46))) = rowI c s (hasB c a) (hasB c b) := by
    rw [← hr]
    exact mkP_congr fun j hj => tM _ (hin j (by simpa [mkP_len] using hj)).1 (hin j (by simpa [mkP_len] using hj)).2
  rw [e3]
  have hl : (rowI c s (hasB c a) (hasB c b)).length = nSig c s := by simp [rowI]
  refine Ev.bindS (a := (((rowI c s (hasB c a) (hasB c b)).length : Int), c, s, rowI c s (hasB c a) (hasB c b))) (fun n => ?_) (Ev.ret _)
  unfold strings_Builder_Write
  simp only [strings_Builder_copyCheck_eq, Option.bind_some, List.nil_append]
  rw [fitB_ok (by simp only [List.length_nil]; omega)]
  rfl
theorem row_ (c s : Int) (a b : Int × Int) : Ev (fun n => chart_Row n (c, a.1, a.2, b.1, b.2, s)) (rowT c s a b) := by
  unfold chart_Row rowT
  refine Ev.bindS (fun n => right_ n c s) ?_
  by_cases h : 1 ≤ c ∧ c ≤ 6000 ∧ 1 ≤ s ∧ s ≤ 6000
  · rw [if_pos h]
    obtain ⟨h1, h2, h3, h4⟩ := h
    refine Ev.no (by simp; omega) ?_
    refine Ev.bind (prow_ h1 h2 h3 h4 a b) ?_
    refine Ev.bindS (fun n => ?_) (Ev.ret _)
    rw [strings_Builder_String_eq]
    unfold bstrF
    simp only
    rw [if_pos ⟨by rw [show (rowI c s (hasB c a) (hasB c b)).length = nSig c s by simp [rowI]]; exact nSig_pos h1 h3, row_all c s _ _⟩, row_eq]
  · rw [if_neg h]
    exact Ev.yes (by rw [decide_eq_false h]; rfl) (Ev.ret _)
theorem band_ (c s : Int) (w : Int × Int) : Ev (fun n => chart_Band n (c, w.1, w.2, s)) (rowT c s w w) := by
  unfold chart_Band
  exact Ev.bind (row_ c s w w) (Ev.ret _)
/-! ### The document's row -/
theorem rrow_ (c s : Int) (a b : Int × Int) : Ev (fun n => ref28_Row n (c, a.1, a.2, b.1, b.2, s)) (rowT c s a b) := by
  unfold ref28_Row rowT
  simp only [letJ]
  refine Ev.bindS (fun n => rcycle_ n c) ?_
  by_cases hc' : ¬ (1 ≤ c ∧ c ≤ 6000)
  · have hc := hc'
    rw [if_neg (fun e => hc ⟨e.1, e.2.1⟩)]
    exact Ev.yes (by rw [decide_eq_false hc]; rfl) (Ev.yes rfl (Ev.ret _))
  have hc := Classical.not_not.1 hc'
  clear hc'
  refine Ev.no (by rw [decide_eq_true hc]; rfl) ?_
  by_cases h1 : s < 1
  · rw [if_neg (by omega)]
    exact Ev.yes (by simpa using h1) (Ev.yes rfl (Ev.ret _))
  refine Ev.no (by simpa using h1) ?_
  by_cases h2 : 6000 < s
  · rw [if_neg (by omega)]
    exact Ev.yes (by simpa using h2) (Ev.ret _)
  refine Ev.no (by simpa using h2) ?_
  rw [if_pos (by omega)]
  have hc1 : 1 ≤ c := hc.1
  have hs1 : 1 ≤ s := by omega
  refine Ev.bind (a := (⟨(rowB c s (hasB c a) (hasB c b)).toArray⟩ : ByteArray)) ?_ (Ev.ret _)
  have hle := nSig_le hc1 hs1
  refine Ev.loop (fun i => (c, s, (⟨((List.range i).map fun (j : Nat) => sgB (hasB c a ((j : Int) * s)) (hasB c b ((j : Int) * s))).toArray⟩ : ByteArray), (i : Int) * s, a.1, a.2, b.1, b.2)) (nSig c s) _ ?_ ?_ ?_
  · simp
  · intro i hi
    have hlt := (nSig_lt hc1 hs1 i).1 hi
    have h00 : 0 ≤ (i : Int) * s := Int.mul_nonneg (by omega) (by omega)
    have en : wrap64 ((i : Int) * s + s) = ((i + 1 : Nat) : Int) * s := by
      rw [wrap64_id (by omega) (by omega), Int.natCast_add, Int.add_mul]; simp
    dsimp only
    refine Ev.yes (by simpa using hlt) ?_
    refine Ev.bindS (fun n => rin_ n c a ((i : Int) * s)) (Ev.bindS (fun n => rin_ n c b ((i : Int) * s)) ?_)
    have e1 : decide (1 ≤ c ∧ c ≤ 6000 ∧ HasT c a ((i : Int) * s)) = hasB c a ((i : Int) * s) := by unfold hasB; exact decide_eq_decide.2 ⟨fun h => h.2.2, fun h => ⟨hc.1, hc.2, h⟩⟩
    have e2 : decide (1 ≤ c ∧ c ≤ 6000 ∧ HasT c b ((i : Int) * s)) = hasB c b ((i : Int) * s) := by unfold hasB; exact decide_eq_decide.2 ⟨fun h => h.2.2, fun h => ⟨hc.1, hc.2, h⟩⟩
    rw [e1, e2]
    have ha : ∀ (u : UInt8), u = sgB (hasB c a ((i : Int) * s)) (hasB c b ((i : Int) * s)) → (⟨((List.range i).map fun (j : Nat) => sgB (hasB c a ((j : Int) * s)) (hasB c b ((j : Int) * s))).toArray⟩ : ByteArray) ++ ByteArray.mk #[u] = (⟨((List.range (i + 1)).map fun (j : Nat) => sgB (hasB c a ((j : Int) * s)) (hasB c b ((j : Int) * s))).toArray⟩ : ByteArray) := fun u hu => by
      rw [ByteArray.ext_iff, ByteArray.data_append, List.range_succ, List.map_append, hu]
      simp
    have hsz : ∀ u : UInt8, strFit (⟨((List.range i).map fun (j : Nat) => sgB (hasB c a ((j : Int) * s)) (hasB c b ((j : Int) * s))).toArray⟩ : ByteArray) (ByteArray.mk #[u]) = true := fun u => by
      unfold strFit
      rw [Nat.ble_eq]
      simp only [ByteArray.size, List.size_toArray, List.length_map, List.length_range, List.length_cons, List.length_nil]
      omega
    cases hA : hasB c a ((i : Int) * s) <;> cases hB : hasB c b ((i : Int) * s) <;> rw [hA, hB] at ha
    all_goals simp only [cond_true, cond_false]
    · refine Ev.yes (hsz 46) ?_
      rw [ha 46 rfl, en]; exact Ev.ret _
    · refine Ev.yes (hsz 60) ?_
      rw [ha 60 rfl, en]; exact Ev.ret _
    · refine Ev.yes (hsz 62) ?_
      rw [ha 62 rfl, en]; exact Ev.ret _
    · refine Ev.yes (hsz 35) ?_
      rw [ha 35 rfl, en]; exact Ev.ret _
  · dsimp only
    have hn : ¬ ((nSig c s : Nat) : Int) * s < c := fun e => absurd ((nSig_lt hc1 hs1 _).2 e) (Nat.lt_irrefl _)
    exact Ev.no (by simpa using hn) (Ev.ret _)
theorem rband_ (c s : Int) (w : Int × Int) : Ev (fun n => ref28_Band n (c, w.1, w.2, s)) (rowT c s w w) := by
  unfold ref28_Band
  exact Ev.bind (rrow_ c s w w) (Ev.ret _)
/-! ### Counting -/
theorem bstr_one (g : Int) : bstr [g] = ByteArray.mk #[UInt8.ofNat g.toNat] := rfl
theorem count_ (n : Nat) (t : ByteArray) (g : Int) : chart_Count n (t, g) = some ((t.data.toList.count (UInt8.ofNat g.toNat) : Nat) : Int) := by
  unfold chart_Count
  rw [bstr_one, strings_Count_eq]
  rfl
/-! ### The examples -/
theorem row8 : rowT 8 1 (0, 4) (2, 4) = ByteArray.mk #[62, 62, 35, 35, 60, 60, 46, 46] := by decide
theorem row6 : rowT 6 1 (5, 2) (5, 2) = ByteArray.mk #[35, 46, 46, 46, 46, 35] := by decide
theorem awake28 : Ev (fun n => law28_awake n ()) true := by
  unfold law28_awake
  refine Ev.bind (row_ 8 1 (0, 4) (2, 4)) ?_
  rw [row8]
  refine Ev.yes (by rw [strEq_eq, decide_eq_true rfl]) ?_
  refine Ev.bindS (fun n => count_ n _ 35) ?_
  refine Ev.yes (by decide) ?_
  refine Ev.bind (band_ 6 1 (5, 2)) ?_
  rw [row6]
  exact Ev.of_eq (Ev.ret _) (by rw [strEq_eq, decide_eq_true rfl])
end Go.Proofs.Ytoafplpdjmiolaa.Fn
