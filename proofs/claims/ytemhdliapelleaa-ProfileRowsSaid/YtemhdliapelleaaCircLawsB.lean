/- Two more laws of chapter 3, on plain functions. -/
import Derived.Test.YtemhdliapelleaaCircLaws
namespace Go.Proofs.Ytemhdliapelleaa.Fn
open Go Go.RowKit Go.Den Go.Circ
set_option linter.unusedVariables false

theorem rev_getD {A : Type} (l : List A) (i : Nat) (d : A) (h : i < l.length) : l.reverse.getD i d = l.getD (l.length - 1 - i) d := by
  rw [getD_lt _ _ _ (by simpa using h), getD_lt _ _ _ (by omega)]
  simp
/-- Is a tick one of some arc's? -/
def anyT (C : Int) (l : List (Int × Int)) (t : Int) : Bool := l.any fun a => decide (1 ≤ C ∧ C ≤ 6000 ∧ HasT C a t)
theorem anyT_snoc (C : Int) (l : List (Int × Int)) (t : Int) (i : Nat) (h : i < l.length) : anyT C (l.take (i + 1)) t = (anyT C (l.take i) t || decide (1 ≤ C ∧ C ≤ 6000 ∧ HasT C (l.getD i (0, 0)) t)) := by
  rw [take_snoc l i (0, 0) h]; simp [anyT]
theorem anyT_iff {C : Int} (hc : 1 ≤ C ∧ C ≤ 6000) (l : List (Int × Int)) (t : Int) : anyT C l t = true ↔ TS C l t := by
  simp [anyT, TS, hc.1, hc.2]
theorem anyT_set (C : Int) (l : List (Int × Int)) (t : Int) : anyT C (setOf C l) t = anyT C l t := by
  by_cases hc : 1 ≤ C ∧ C ≤ 6000
  · rw [Bool.eq_iff_iff, anyT_iff hc, anyT_iff hc, ← TS.mod, ← TS.mod C l]
    exact setOf_ts hc.1 hc.2 l (Int.emod_nonneg _ (by omega)) (Int.emod_lt_of_pos _ (by omega))
  · have : ∀ m : List (Int × Int), anyT C m t = false := fun m => by
      unfold anyT
      rw [List.any_eq_false]
      intro a _
      simp only [decide_eq_true_eq]
      exact fun h => hc ⟨h.1, h.2.1⟩
    rw [this, this]
theorem set_elem {C : Int} {l : List (Int × Int)} {i : Nat} (h : i < (setOf C l).length) : (1 ≤ C ∧ C ≤ 6000) ∧ 0 ≤ ((setOf C l).getD i (0, 0)).1 ∧ ((setOf C l).getD i (0, 0)).1 < C ∧ 1 ≤ ((setOf C l).getD i (0, 0)).2 ∧ ((setOf C l).getD i (0, 0)).2 ≤ C ∧
    (0 < i → ((setOf C l).getD (i - 1) (0, 0)).1 + ((setOf C l).getD (i - 1) (0, 0)).2 < ((setOf C l).getD i (0, 0)).1) := by
  by_cases hc : 1 ≤ C ∧ C ≤ 6000
  · have hA := setOf_arcs hc.1 hc.2 l
    have hi := (hA.mem ((setOf C l).getD i (0, 0))).1 (by rw [getD_lt _ _ _ h]; exact List.getElem_mem h)
    refine ⟨hc, hi.1, hi.2.1, hi.2.2.1, hi.2.2.2.1, fun h0 => ?_⟩
    have h' : i - 1 < (setOf C l).length := by omega
    have hj := (hA.mem ((setOf C l).getD (i - 1) (0, 0))).1 (by rw [getD_lt _ _ _ h']; exact List.getElem_mem h')
    refine arcs_apart hj hi ?_
    rw [getD_lt _ _ _ h, getD_lt _ _ _ h']
    exact List.pairwise_iff_getElem.1 hA.sorted _ _ h' h (by omega)
  · rw [setOf_out (by omega)] at h; simp at h
set_option maxHeartbeats 1000000 in
theorem CircleForm_ (C : Int) (l : List (Int × Int)) (t : Int) : Ev (fun n => law03_CircleForm n (C, l, t)) true := by
  unfold law03_CircleForm
  refine Ev.bind (few_ C [l] (by simp)) ?_
  by_cases hf : (∀ m ∈ [l], m.length ≤ 30) ∧ (C ≤ 300 ∨ 6000 < C)
  case neg => rw [decide_eq_false hf]; exact Ev.ret _
  rw [decide_eq_true hf]
  have hl := hf.1 l (by simp)
  have l1 := setOf_len C l
  have l2 := setOf_len C (setOf C l)
  simp only [Bool.not_true, cond_false]
  refine Ev.bind (set_ C l (by omega)) (Ev.bind (set_ C (setOf C l) (by omega)) (Ev.bind (same_ _ _ (by omega)) ?_))
  rw [decide_eq_true (setOf_set C l)]
  simp only [Bool.not_true, cond_false]
  have helem := fun i h => set_elem (C := C) (l := l) (i := i) h
  have hany := anyT_set C l t
  have hback : setOf C l.reverse = setOf C l := setOf_same fun j => by simp [TS]
  have hset := set_ C l.reverse (by simp; omega)
  rw [hback] at hset
  have hsame := same_ (setOf C l) (setOf C l) (by omega)
  generalize setOf C l = f at *
  -- the arcs, the other way round
  refine Ev.loopB (st := fun i => (C, l, t, (l.length : Int) - 1 - i, f, l.reverse.take i)) l.length (C, l, t, f, l.reverse) ?_ (fun i hi => ?_) (Ev.const fun n => ?_) ?_
  · rw [wrap64_id (by omega) (by omega)]; simp
  · refine Ev.const fun n => ?_
    have hidx : ((l.length : Int) - 1 - i) = ((l.length - 1 - i : Nat) : Int) := by omega
    have hlt : l.length - 1 - i < l.length := by omega
    have hge : (0 : Int) ≤ ((l.length - 1 - i : Nat) : Int) := by omega
    have hnx : wrap64 (((l.length - 1 - i : Nat) : Int) - 1) = (l.length : Int) - 1 - ((i + 1 : Nat) : Int) := by rw [wrap64_id (by omega) (by omega)]; omega
    have hfit : fitB (min i l.reverse.length + 1) 16 = true := fitB_ok (by rw [List.length_reverse]; omega)
    simp only [hidx, hge, hlt, decide_true, cond_true, inB_nat, atI_nat, hnx, List.length_take, List.length_cons, List.length_nil, Nat.zero_add, hfit, take_snoc l.reverse i (0, 0) (by rw [List.length_reverse]; exact hi), rev_getD l i (0, 0) hi]
  · have hge : ¬ (0 : Int) ≤ (l.length : Int) - 1 - (l.length : Int) := by omega
    have htk : l.reverse.take l.length = l.reverse := List.take_of_length_le (by simp)
    simp only [hge, decide_false, cond_false, htk]
  -- is the tick one of theirs?
  refine Ev.loopB (st := fun i => (C, l, t, anyT C (l.take i) t, false, (i : Int), f, l.reverse)) l.length (C, t, anyT C l t, false, f, l.reverse) rfl (fun i hi => ?_) (Ev.const fun n => by simp) ?_
  · refine Ev.const fun n => ?_
    simp only [Int.ofNat_lt, hi, decide_true, cond_true, inB_nat, atI_nat, in_, Option.bind_some, wrap_succ (show i < 9223372036854775807 by omega), anyT_snoc C l t i hi]
    cases anyT C (l.take i) t <;> rfl
  -- or one of those in form?
  refine Ev.loopB (st := fun i => (C, t, anyT C l t, anyT C (f.take i) t, (i : Int), f, l.reverse)) f.length (.inr (C, anyT C l t, anyT C f t, f, l.reverse)) rfl (fun i hi => ?_) (Ev.const fun n => by simp) ?_
  · refine Ev.const fun n => ?_
    obtain ⟨hc, e1, e2, e3, e4, e5⟩ := helem i hi
    have c1 : ¬ (f.getD i (0, 0)).1 < 0 := by omega
    have c2 : ¬ C ≤ (f.getD i (0, 0)).1 := by omega
    have c3 : ¬ (f.getD i (0, 0)).2 < 1 := by omega
    have chk : ∀ o : Bool, (bif decide ((0 : Int) < (i : Int)) then
          bif decide (i < f.length) then
            bif inB (wrap64 ((i : Int) - 1)) f.length then
              bif inB (wrap64 ((i : Int) - 1)) f.length then
                bif decide ((f.getD i (0, 0)).1 ≤ wrap64 ((atI (0, 0) f (wrap64 ((i : Int) - 1))).1 + (atI (0, 0) f (wrap64 ((i : Int) - 1))).2)) then
                  (some (.inr (.inl false)) : Option ((Int × Int × Bool × Bool × Int × (List (Int × Int)) × List (Int × Int)) ⊕ (Bool ⊕ (Int × Bool × Bool × (List (Int × Int)) × List (Int × Int)))))
                else some (.inl (C, t, anyT C l t, o, ((i + 1 : Nat) : Int), f, l.reverse))
              else none
            else none
          else none
        else some (.inl (C, t, anyT C l t, o, ((i + 1 : Nat) : Int), f, l.reverse))) = some (.inl (C, t, anyT C l t, o, ((i + 1 : Nat) : Int), f, l.reverse)) := by
      intro o
      by_cases h0 : 0 < i
      · have hp := e5 h0
        obtain ⟨_, p1, p2, p3, p4, _⟩ := helem (i - 1) (by omega)
        have hlt : i - 1 < f.length := by omega
        have w : wrap64 ((f.getD (i - 1) (0, 0)).1 + (f.getD (i - 1) (0, 0)).2) = (f.getD (i - 1) (0, 0)).1 + (f.getD (i - 1) (0, 0)).2 := wrap64_id (by omega) (by omega)
        have c4 : ¬ (f.getD i (0, 0)).1 ≤ (f.getD (i - 1) (0, 0)).1 + (f.getD (i - 1) (0, 0)).2 := by omega
        have h0' : (0 : Int) < (i : Int) := by omega
        simp only [h0', hi, hlt, decide_true, cond_true, wrap_pred (show i < 9223372036854775807 by omega) h0, inB_nat, atI_nat, w, c4, decide_false, cond_false]
      · have h0' : ¬ (0 : Int) < (i : Int) := by omega
        simp only [h0', decide_false, cond_false]
    have key : ∀ o : Bool, (letJ (fun (x15 : Int × Int × Bool × Bool × Int × Bool × (List (Int × Int)) × List (Int × Int)) =>
        bif x15.2.2.2.2.2.1 then
          (some (.inr (.inl false)) : Option ((Int × Int × Bool × Bool × Int × (List (Int × Int)) × List (Int × Int)) ⊕ (Bool ⊕ (Int × Bool × Bool × (List (Int × Int)) × List (Int × Int)))))
        else
        some (.inl (x15.1, x15.2.1, x15.2.2.1, x15.2.2.2.1, wrap64 (x15.2.2.2.2.1 + 1), x15.2.2.2.2.2.2))) fun J16 =>
        bif inB (i : Int) f.length then
          bif decide ((atI (0, 0) f (i : Int)).1 < 0) then
            J16 (C, t, anyT C l t, o, (i : Int), true, f, l.reverse)
          else
          bif inB (i : Int) f.length then
            bif decide (C ≤ (atI (0, 0) f (i : Int)).1) then
              J16 (C, t, anyT C l t, o, (i : Int), true, f, l.reverse)
            else
            bif inB (i : Int) f.length then
              bif decide ((atI (0, 0) f (i : Int)).2 < 1) then
                J16 (C, t, anyT C l t, o, (i : Int), true, f, l.reverse)
              else
              bif decide ((0 : Int) < (i : Int)) then
                bif inB (i : Int) f.length then
                  bif inB (wrap64 ((i : Int) - 1)) f.length then
                    bif inB (wrap64 ((i : Int) - 1)) f.length then
                      J16 (C, t, anyT C l t, o, (i : Int), decide ((atI (0, 0) f (i : Int)).1 ≤ wrap64 ((atI (0, 0) f (wrap64 ((i : Int) - 1))).1 + (atI (0, 0) f (wrap64 ((i : Int) - 1))).2)), f, l.reverse)
                    else
                    none
                  else
                  none
                else
                none
              else
              J16 (C, t, anyT C l t, o, (i : Int), false, f, l.reverse)
            else
            none
          else
          none
        else
        none) = some (.inl (C, t, anyT C l t, o, ((i + 1 : Nat) : Int), f, l.reverse)) := by
      intro o
      have := chk o
      simp only [letJ, inB_nat i, atI_nat, hi, decide_true, cond_true, c1, c2, c3, decide_false, cond_false, wrap_succ (show i < 9223372036854775807 by omega)] at this ⊢
      exact this
    have hlast : anyT C (f.take (i + 1)) t = (anyT C (f.take i) t || decide (1 ≤ C ∧ C ≤ 6000 ∧ HasT C (f.getD i (0, 0)) t)) := anyT_snoc C f t i hi
    rw [hlast]
    have hlt : ((i : Int) < (f.length : Int)) := by omega
    cases ho : anyT C (f.take i) t with
    | true =>
      simp only [hlt, decide_true, cond_true, Bool.true_or]
      exact key true
    | false =>
      have hin : inB (i : Int) f.length = true := by rw [inB_nat]; simp [hi]
      simp only [hlt, decide_true, cond_true, cond_false, Bool.false_or, hin]
      show ((circle_In n (C, (atI (0, 0) f (i : Int)).1, (atI (0, 0) f (i : Int)).2, t)).bind fun y12 => _) = _
      rw [atI_nat, in_, Option.bind_some]
      exact key _
  · rw [hany]
    show Ev (fun n => bif (anyT C l t == anyT C l t) then _ else _) true
    simp only [beq_self_eq_true, cond_true]
    refine Ev.bind hset (Ev.bind hsame ?_)
    simp only [decide_true, cond_true]
    exact Ev.bind awake_ (Ev.ret _)
theorem widest_grows {C : Int} (hc : 1 ≤ C ∧ C ≤ 6000) {l m : List (Int × Int)} (h : ∀ j, TS C l j → TS C m j) : (widestOf (setOf C l)).2 ≤ (widestOf (setOf C m)).2 := by
  by_cases hne : setOf C l = []
  · rw [hne]
    by_cases hm : setOf C m = []
    · rw [hm]; exact Int.le_refl _
    · have := ((setOf_arcs hc.1 hc.2 m).mem _).1 (widest_mem hm)
      have := this.2.2.1
      simp only [widestOf]; simp only [widestOf] at this; omega
  · obtain ⟨b1, b2, b3, b4, b5, _⟩ := ((setOf_arcs hc.1 hc.2 l).mem _).1 (widest_mem hne)
    exact run_le hc b3 b4 (s := (widestOf (setOf C l)).1) fun i h0 h1 => h _ ((TS.mod C l _).1 (b5 i h0 h1))
theorem widest_norm {C : Int} {m : List (Int × Int)} {a : Int × Int} (ha : a ∈ m) : (normOf C a).2 ≤ (widestOf (setOf C m)).2 := by
  by_cases hc : 1 ≤ C ∧ C ≤ 6000
  · obtain ⟨n1, n2, n3, n4⟩ := normOf_at hc.1 a
    by_cases h0 : (normOf C a).2 = 0
    · rw [h0]
      by_cases hm : setOf C m = []
      · rw [hm]; exact Int.le_refl _
      · have := (((setOf_arcs hc.1 hc.2 m).mem _).1 (widest_mem hm)).2.2.1
        omega
    · refine run_le hc (by omega) n4 (s := (normOf C a).1) fun i i0 i1 => ⟨a, ha, (normOf_in hc.1 hc.2 a _).1 ⟨by omega, .inr ?_⟩⟩
      rw [show (normOf C a).1 + i - (normOf C a).1 = i by omega, Int.emod_eq_of_lt i0 (by omega)]
      exact i1
  · rw [setOf_out (by omega)]
    unfold normOf
    rw [if_pos (by omega)]
    exact Int.le_refl _
/-- Has the widest arc been met? -/
def metW (w : Int × Int) (b : Bool) (l : List (Int × Int)) : Bool := b || l.any fun x => (x.1 == w.1) && ((x.2 == w.2) && true)
theorem metW_snoc (w : Int × Int) (b : Bool) (l : List (Int × Int)) (i : Nat) (h : i < l.length) : metW w b (l.take (i + 1)) = (metW w b (l.take i) || ((l.getD i (0, 0)).1 == w.1 && ((l.getD i (0, 0)).2 == w.2 && true))) := by
  rw [take_snoc l i (0, 0) h]; simp [metW, Bool.or_assoc]
set_option maxHeartbeats 1000000 in
theorem CircleWidest_ (C : Int) (l : List (Int × Int)) (a : Int × Int) : Ev (fun n => law03_CircleWidest n (C, l, a)) true := by
  unfold law03_CircleWidest
  refine Ev.bind (few_ C [l] (by simp)) ?_
  by_cases hf : (∀ m ∈ [l], m.length ≤ 30) ∧ (C ≤ 300 ∨ 6000 < C)
  case neg => rw [decide_eq_false hf]; exact Ev.ret _
  rw [decide_eq_true hf]
  have hl := hf.1 l (by simp)
  have l1 := setOf_len C l
  simp only [Bool.not_true, cond_false]
  refine Ev.bind (widest_ C l (by omega)) (Ev.bind (set_ C l (by omega)) ?_)
  have hmore : (widestOf (setOf C l)).2 ≤ (widestOf (setOf C (l ++ [a]))).2 := by
    by_cases hc : 1 ≤ C ∧ C ≤ 6000
    · exact widest_grows hc fun j ⟨x, hx, h⟩ => ⟨x, by simp [hx], h⟩
    · rw [setOf_out (by omega), setOf_out (by omega)]; exact Int.le_refl _
  have hnorm : (normOf C a).2 ≤ (widestOf (setOf C (l ++ [a]))).2 := widest_norm (by simp)
  have hge := fun (x : Int × Int) (h : x ∈ setOf C l) => widest_ge h
  have hfst := fun (x : Int × Int) (h : x ∈ setOf C l) (he : x.2 = (widestOf (setOf C l)).2) => widest_first (by
    by_cases hc : 1 ≤ C ∧ C ≤ 6000
    · exact (setOf_arcs hc.1 hc.2 l).sorted
    · rw [setOf_out (by omega)]; exact .nil) h he
  have hmem : setOf C l ≠ [] → widestOf (setOf C l) ∈ setOf C l := widest_mem
  have hnil : setOf C l = [] → widestOf (setOf C l) = (0, 0) := fun h => by rw [h]; rfl
  have hw' := widest_ C (l ++ [a]) (by simp; omega)
  generalize widestOf (setOf C (l ++ [a])) = w' at *
  generalize widestOf (setOf C l) = w at *
  generalize setOf C l = f at *
  -- the loop, whatever was found ahead of it
  have main : ∀ b : Bool, metW w b f = true → Ev (fun n => (iterL (Y := (Bool) ⊕ (Int × (List (Int × Int)) × Bool × Int × Int × Int × Int)) n (fun (x6 : Int × (List (Int × Int)) × Bool × Int × Int × Int × Int × Int × List (Int × Int)) =>
      let e0 := x6.2.2.2.2.2.2.2.2.length
      let e1 := atI (0, 0) x6.2.2.2.2.2.2.2.2 x6.2.2.2.1
      bif decide (x6.2.2.2.1 < ((e0 : Nat) : Int)) then
        letJ (fun (x7 : Int × (List (Int × Int)) × Bool × Int × Int × Int × Int × Int × List (Int × Int)) =>
          let e2 := inB x7.2.2.2.1 x7.2.2.2.2.2.2.2.2.length
          let e3 := atI (0, 0) x7.2.2.2.2.2.2.2.2 x7.2.2.2.1
          let e4 := e3.2
          letJ (fun (x9 : Int × (List (Int × Int)) × Bool × Int × Bool × Int × Int × Int × Int × List (Int × Int)) =>
            bif x9.2.2.2.2.1 then
              some (.inr (.inl false))
            else
            some (.inl (x9.1, x9.2.1, x9.2.2.1, wrap64 (x9.2.2.2.1 + 1), x9.2.2.2.2.2))) fun J10 =>
          bif e2 then
            bif decide (x7.2.2.2.2.2.2.2.1 < e4) then
              J10 (x7.1, x7.2.1, x7.2.2.1, x7.2.2.2.1, true, x7.2.2.2.2)
            else
            bif e2 then
              bif e4 == x7.2.2.2.2.2.2.2.1 then
                bif e2 then
                  J10 (x7.1, x7.2.1, x7.2.2.1, x7.2.2.2.1, decide (e3.1 < x7.2.2.2.2.2.2.1), x7.2.2.2.2)
                else
                none
              else
              J10 (x7.1, x7.2.1, x7.2.2.1, x7.2.2.2.1, false, x7.2.2.2.2)
            else
            none
          else
          none) fun J8 =>
        bif x6.2.2.1 then
          J8 (x6.1, x6.2.1, true, x6.2.2.2)
        else
        bif inB x6.2.2.2.1 e0 then
          J8 (x6.1, x6.2.1, (e1.1 == x6.2.2.2.2.2.2.1) && ((e1.2 == x6.2.2.2.2.2.2.2.1) && true), x6.2.2.2)
        else
        none
      else
      some (.inr (.inr (x6.1, x6.2.1, x6.2.2.1, x6.2.2.2.2.1, x6.2.2.2.2.2.1, x6.2.2.2.2.2.2.1, x6.2.2.2.2.2.2.2.1)))) (C, l, b, 0, a.1, a.2, w.1, w.2, f)).bind (Sum.elim (fun (z11 : Bool) =>
      some z11) (fun (z12 : Int × (List (Int × Int)) × Bool × Int × Int × Int × Int) =>
      let e5 := z12.2.1.length
      let e6 := (z12.2.2.2.1, z12.2.2.2.2.1) :: []
      bif fitB e5 16 then
        bif fitB (e5 + e6.length) 16 then
          (circle_Widest n (z12.1, z12.2.1 ++ e6)).bind fun y13 =>
          letJ (fun (x16 : Bool) =>
            some x16) fun J17 =>
          bif z12.2.2.1 then
            bif decide (z12.2.2.2.2.2.2 ≤ y13.2) then
              (circle_Norm n (z12.1, z12.2.2.2.1, z12.2.2.2.2.1)).bind fun y14 =>
              bif decide (y14.2 ≤ y13.2) then
                (law03_awake n ()).bind fun y15 =>
                J17 y15
              else
              J17 false
            else
            J17 false
          else
          J17 false
        else
        none
      else
      none))) true := by
    intro b hb
    refine Ev.loopB (st := fun i => (C, l, metW w b (f.take i), (i : Int), a.1, a.2, w.1, w.2, f)) f.length (.inr (C, l, metW w b f, a.1, a.2, w.1, w.2)) (by simp [metW]) (fun i hi => ?_) (Ev.const fun n => by simp) ?_
    · refine Ev.const fun n => ?_
      have hx : f.getD i (0, 0) ∈ f := by rw [getD_lt _ _ _ hi]; exact List.getElem_mem hi
      have g1 := hge _ hx
      have g2 := hfst _ hx
      simp only [Int.ofNat_lt, hi, decide_true, cond_true, inB_nat, atI_nat, letJ, wrap_succ (show i < 9223372036854775807 by omega), metW_snoc w b f i hi]
      generalize f.getD i (0, 0) = x at *
      have c1 : ¬ w.2 < x.2 := by omega
      have c2 : x.2 = w.2 → ¬ x.1 < w.1 := fun h => by have := g2 h; omega
      cases metW w b (f.take i) with
      | true =>
        simp only [cond_true, c1, decide_false, cond_false, Bool.true_or]
        by_cases h : x.2 = w.2
        · simp [h, c2 h]
        · simp [beq_eq_false_iff_ne.2 h]
      | false =>
        simp only [cond_false, c1, decide_false, Bool.false_or]
        by_cases h : x.2 = w.2
        · simp [h, c2 h]
        · simp [beq_eq_false_iff_ne.2 h]
    · have f1 : fitB l.length 16 = true := fitB_ok (by omega)
      have f2 : fitB (l.length + 1) 16 = true := fitB_ok (by omega)
      show Ev (fun n => bif fitB l.length 16 then bif fitB (l.length + 1) 16 then _ else _ else _) true
      simp only [f1, f2, cond_true]
      refine Ev.bind hw' ?_
      show Ev (fun n => bif metW w b f then _ else _) true
      rw [hb]
      simp only [cond_true]
      show Ev (fun n => bif decide (w.2 ≤ w'.2) then _ else _) true
      rw [decide_eq_true hmore]
      simp only [cond_true]
      refine Ev.bindS (fun n => norm_ n C a) ?_
      rw [decide_eq_true hnorm]
      exact Ev.bind awake_ (Ev.ret _)
  simp only [letJ]
  by_cases hne : f = []
  · have e := hnil hne
    subst hne
    have := main true (by simp [metW])
    rw [e] at this ⊢
    exact this
  · have c : (((f.length : Nat) : Int) == 0) = false := by
      rw [beq_eq_false_iff_ne]
      intro h
      exact hne (List.eq_nil_of_length_eq_zero (by omega))
    simp only [c, cond_false]
    refine main false ?_
    simp only [metW, Bool.false_or, List.any_eq_true]
    exact ⟨w, hmem hne, by simp⟩
end Go.Proofs.Ytemhdliapelleaa.Fn
