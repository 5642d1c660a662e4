/- Chapter 3 of the document's answer: what each function computes, the second part. -/
import Derived.Test.YtemhdliapelleaaCircRef
namespace Go.Proofs.Ytemhdliapelleaa.Fn
open Go Go.RowKit Go.Den Go.Circ
set_option linter.unusedVariables false

/-- All are right, or there is a first one that is not. -/
theorem first_bad (P : Nat → Bool) : ∀ n, (∀ i, i < n → P i = true) ∨ ∃ i, i < n ∧ P i = false ∧ ∀ k, k < i → P k = true := by
  intro n
  induction n with
  | zero => exact .inl fun i h => by omega
  | succ n ih =>
    rcases ih with h | ⟨i, h1, h2, h3⟩
    · cases hp : P n with
      | true =>
        refine .inl fun i hi => ?_
        by_cases e : i = n
        · rw [e]; exact hp
        · exact h i (by omega)
      | false => exact .inr ⟨n, by omega, hp, h⟩
    · exact .inr ⟨i, by omega, h2, h3⟩
theorem same_ (a b : List (Int × Int)) (hl : a.length ≤ 1000000000) : Ev (fun n => ref03_Same n (a, b)) (decide (a = b)) := by
  unfold ref03_Same
  by_cases hlen : a.length = b.length
  · have e : (((a.length : Nat) : Int) == ((b.length : Nat) : Int)) = true := by simp [hlen]
    simp only [e, Bool.not_true, cond_false]
    have step : ∀ i, i < a.length → a.getD i (0, 0) = b.getD i (0, 0) → ∀ n : Nat, (fun (n : Nat) (x1 : (List (Int × Int)) × (List (Int × Int)) × Int) =>
        let e0 := x1.1.length
        let e1 := atI (0, 0) x1.1 x1.2.2
        let e2 := atI (0, 0) x1.2.1 x1.2.2
        bif decide (x1.2.2 < ((e0 : Nat) : Int)) then
          bif inB x1.2.2 e0 then
            bif inB x1.2.2 x1.2.1.length then
              bif !((e1.1 == e2.1) && ((e1.2 == e2.2) && true)) then
                (some (.inr (.inl false)) : Option (((List (Int × Int)) × (List (Int × Int)) × Int) ⊕ (Bool ⊕ Unit)))
              else
              some (.inl (x1.1, x1.2.1, wrap64 (x1.2.2 + 1)))
            else
            none
          else
          none
        else
        some (.inr (.inr ()))) n (a, b, (i : Int)) = some (.inl (a, b, ((i + 1 : Nat) : Int))) := by
      intro i hi he n
      have hi' : i < b.length := by omega
      simp only [Int.ofNat_lt, hi, hi', decide_true, cond_true, inB_nat, atI_nat, he, beq_self_eq_true, Bool.and_true, Bool.not_true, cond_false, wrap_succ (show i < 9223372036854775807 by omega)]
    rcases first_bad (fun i => decide (a.getD i (0, 0) = b.getD i (0, 0))) a.length with h | ⟨i, h1, h2, h3⟩
    · have hab : a = b := List.ext_getElem hlen fun i h1 h2 => by
        have := h i h1
        rw [decide_eq_true_eq, getD_lt _ _ _ h1, getD_lt _ _ _ h2] at this
        exact this
      rw [decide_eq_true hab]
      refine Ev.loopB (st := fun i => (a, b, (i : Int))) a.length (.inr ()) rfl (fun i hi => Ev.const fun n => step i hi (of_decide_eq_true (h i hi)) n) (Ev.const fun n => by simp) ?_
      exact Ev.ret _
    · have hab : a ≠ b := fun e => by rw [e] at h2; simp at h2
      rw [decide_eq_false hab]
      refine Ev.loopB (st := fun i => (a, b, (i : Int))) i (.inl false) rfl (fun k hk => Ev.const fun n => step k (by omega) (of_decide_eq_true (h3 k hk)) n) (Ev.const fun n => ?_) ?_
      case refine_2 => exact Ev.ret _
      have hi' : i < b.length := by omega
      have hne : ((a.getD i (0, 0)).1 == (b.getD i (0, 0)).1 && ((a.getD i (0, 0)).2 == (b.getD i (0, 0)).2 && true)) = false := by
        have h4 := of_decide_eq_false h2
        rw [Bool.and_true, Bool.and_eq_false_iff]
        by_cases h5 : (a.getD i (0, 0)).1 = (b.getD i (0, 0)).1
        · right; rw [beq_eq_false_iff_ne]; exact fun h6 => h4 (Prod.ext h5 h6)
        · left; rw [beq_eq_false_iff_ne]; exact h5
      simp only [Int.ofNat_lt, h1, hi', decide_true, cond_true, inB_nat, atI_nat, hne, Bool.not_false]
  · have e : (((a.length : Nat) : Int) == ((b.length : Nat) : Int)) = false := by rw [beq_eq_false_iff_ne]; omega
    rw [decide_eq_false (fun h => hlen (by rw [h]))]
    simp only [e, Bool.not_false, cond_true]
    exact Ev.ret _
theorem few_ (C : Int) (L : List (List (Int × Int))) (hL : L.length ≤ 1000000) : Ev (fun n => law03_few n (C, L)) (decide ((∀ l ∈ L, l.length ≤ 30) ∧ (C ≤ 300 ∨ 6000 < C))) := by
  unfold law03_few
  have tail : (bif decide (C ≤ 300) then some true else some (decide (6000 < C))) = some (decide (C ≤ 300 ∨ 6000 < C)) := by by_cases h : C ≤ 300 <;> simp [h]
  rcases first_bad (fun i => decide ((L.getD i []).length ≤ 30)) L.length with h | ⟨i, h1, h2, h3⟩
  · have hall : ∀ l ∈ L, l.length ≤ 30 := fun l hl => by
      obtain ⟨i, hi, rfl⟩ := List.mem_iff_getElem.1 hl
      have := h i hi
      rw [decide_eq_true_eq, getD_lt _ _ _ hi] at this
      exact this
    have e : decide ((∀ l ∈ L, l.length ≤ 30) ∧ (C ≤ 300 ∨ 6000 < C)) = decide (C ≤ 300 ∨ 6000 < C) := decide_eq_decide.2 ⟨fun h => h.2, fun h => ⟨hall, h⟩⟩
    rw [e]
    refine Ev.loopB (st := fun i => (C, L, (i : Int))) L.length (.inr C) rfl (fun i hi => Ev.const fun n => ?_) (Ev.const fun n => by simp) ?_
    case refine_2 => exact Ev.const fun n => tail
    have := of_decide_eq_true (h i hi)
    have h30 : ¬ (30 < (((L.getD i []).length : Nat) : Int)) := by omega
    simp only [Int.ofNat_lt, hi, decide_true, cond_true, inB_nat, atI_nat, h30, decide_false, cond_false, wrap_succ (show i < 9223372036854775807 by omega)]
  · have hn : ¬ ((∀ l ∈ L, l.length ≤ 30) ∧ (C ≤ 300 ∨ 6000 < C)) := fun h => by
      have := h.1 (L.getD i []) (by rw [getD_lt _ _ _ h1]; exact List.getElem_mem h1)
      exact of_decide_eq_false h2 this
    rw [decide_eq_false hn]
    refine Ev.loopB (st := fun i => (C, L, (i : Int))) i (.inl false) rfl (fun k hk => Ev.const fun n => ?_) (Ev.const fun n => ?_) ?_
    case refine_3 => exact Ev.ret _
    · have := of_decide_eq_true (h3 k hk)
      have h30 : ¬ (30 < (((L.getD k []).length : Nat) : Int)) := by omega
      have hk' : k < L.length := by omega
      simp only [Int.ofNat_lt, hk', decide_true, cond_true, inB_nat, atI_nat, h30, decide_false, cond_false, wrap_succ (show k < 9223372036854775807 by omega)]
    · have := of_decide_eq_false h2
      have h30 : 30 < (((L.getD i []).length : Nat) : Int) := by omega
      simp only [Int.ofNat_lt, h1, decide_true, cond_true, inB_nat, atI_nat, h30]
/-! ### Sets of ticks -/
theorem ticksOf_getD {C : Int} (hc : 1 ≤ C ∧ C ≤ 6000) (l : List (Int × Int)) (i : Nat) (h : (i : Int) < C) : (ticksOf C l).getD i false = true ↔ TS C l i := by
  unfold ticksOf; rw [if_pos hc]
  have := tks_bt C.toNat (TS C l) (j := (i : Int)) (by omega) (by omega)
  simpa [BT, bt] using this
/-- A row of bools, made one by one. -/
def mk (n : Nat) (f : Nat → Bool) : List Bool := (List.range n).map f
theorem mk_len (n : Nat) (f : Nat → Bool) : (mk n f).length = n := by simp [mk]
theorem mk_snoc (n : Nat) (f : Nat → Bool) (i : Nat) (h : i < n) : (mk n f).take (i + 1) = (mk n f).take i ++ [f i] := by
  rw [take_snoc _ i false (by rw [mk_len]; exact h)]
  congr 2
  simp [mk, List.getD_eq_getElem?_getD, h]
theorem mk_tks {C : Int} (hc : 1 ≤ C ∧ C ≤ 6000) {f : Nat → Bool} {T : Int → Prop} (h : ∀ i : Nat, (i : Int) < C → (f i = true ↔ T i)) : mk C.toNat f = tks C.toNat T :=
  bools_ext (mk_len _ _) fun j hj => by
    simp only [bt, mk, List.getD_eq_getElem?_getD, List.getElem?_map, List.getElem?_range hj, Option.map_some, Option.getD_some]
    exact h j (by omega)
theorem form_mk {C : Int} (hc : 1 ≤ C ∧ C ≤ 6000) {f : Nat → Bool} {T : Int → Prop} (h : ∀ i : Nat, (i : Int) < C → (f i = true ↔ T i)) : Ev (fun n => ref03_Form n (mk C.toNat f)) (formOf C T) := by
  rw [mk_tks hc h]
  unfold formOf; rw [if_pos hc]
  exact form_ (by rw [tks_len]; omega)
theorem form_nil : Ev (fun n => ref03_Form n []) [] := by have := form_ (b := []) (by simp); rwa [frm_nil] at this
theorem rmeet_ (C : Int) (a b : List (Int × Int)) (ha : a.length ≤ 1000) (hb : b.length ≤ 1000) : Ev (fun n => ref03_Meet n (C, a, b)) (meetOf C a b) := by
  unfold ref03_Meet
  refine Ev.bind (ticks_ C a ha) (Ev.bind (ticks_ C b hb) ?_)
  by_cases hc : 1 ≤ C ∧ C ≤ 6000
  · have l1 := ticksOf_len C a hc
    have l2 := ticksOf_len C b hc
    have t1 := fun i h => ticksOf_getD hc a i h
    have t2 := fun i h => ticksOf_getD hc b i h
    generalize ticksOf C a = x at *
    generalize ticksOf C b = y at *
    rw [← formOf_eq hc (meetOf_arcs hc.1 hc.2 a b)]
    refine Ev.loopB (st := fun i => ((i : Int), x, y, (mk C.toNat fun i => x.getD i false && y.getD i false).take i)) x.length (mk C.toNat fun i => x.getD i false && y.getD i false) (by simp) (fun i hi => ?_) ?_ ?_
    · refine Ev.const fun n => ?_
      have hy : i < y.length := by omega
      have hf : fitB (min i C.toNat + 1) 1 = true := fitB_ok (by omega)
      simp only [Int.ofNat_lt, hi, hy, decide_true, cond_true, inB_nat, atI_nat, wrap_succ (show i < 9223372036854775807 by omega), mk_snoc C.toNat _ i (by omega), List.length_take, mk_len, List.length_cons, List.length_nil, Nat.zero_add, hf]
      cases x.getD i false <;> rfl
    · refine Ev.const fun n => ?_
      have : (mk C.toNat fun i => x.getD i false && y.getD i false).take x.length = mk C.toNat fun i => x.getD i false && y.getD i false := List.take_of_length_le (by rw [mk_len]; omega)
      simp only [this, Int.lt_irrefl, decide_false, cond_false]
    · refine Ev.bind (form_mk hc fun i h => ?_) (Ev.ret _)
      rw [Bool.and_eq_true, t1 i h, t2 i h]
  · unfold ticksOf
    rw [if_neg hc, if_neg hc, meetOf_out (by omega)]
    refine Ev.loopB (st := fun i => ((i : Int), [], [], [])) 0 [] rfl (fun i hi => by omega) (Ev.const fun n => rfl) (Ev.bind form_nil (Ev.ret _))
theorem rless_ (C : Int) (a b : List (Int × Int)) (ha : a.length ≤ 1000) (hb : b.length ≤ 1000) : Ev (fun n => ref03_Less n (C, a, b)) (lessOf C a b) := by
  unfold ref03_Less
  refine Ev.bind (ticks_ C a ha) (Ev.bind (ticks_ C b hb) ?_)
  by_cases hc : 1 ≤ C ∧ C ≤ 6000
  · have l1 := ticksOf_len C a hc
    have l2 := ticksOf_len C b hc
    have t1 := fun i h => ticksOf_getD hc a i h
    have t2 := fun i h => ticksOf_getD hc b i h
    generalize ticksOf C a = x at *
    generalize ticksOf C b = y at *
    rw [← formOf_eq hc (lessOf_arcs hc.1 hc.2 a b)]
    refine Ev.loopB (st := fun i => ((i : Int), x, y, (mk C.toNat fun i => x.getD i false && !(y.getD i false)).take i)) x.length (mk C.toNat fun i => x.getD i false && !(y.getD i false)) (by simp) (fun i hi => ?_) ?_ ?_
    · refine Ev.const fun n => ?_
      have hy : i < y.length := by omega
      have hf : fitB (min i C.toNat + 1) 1 = true := fitB_ok (by omega)
      simp only [Int.ofNat_lt, hi, hy, decide_true, cond_true, inB_nat, atI_nat, wrap_succ (show i < 9223372036854775807 by omega), mk_snoc C.toNat _ i (by omega), List.length_take, mk_len, List.length_cons, List.length_nil, Nat.zero_add, hf]
      cases x.getD i false <;> rfl
    · refine Ev.const fun n => ?_
      have : (mk C.toNat fun i => x.getD i false && !(y.getD i false)).take x.length = mk C.toNat fun i => x.getD i false && !(y.getD i false) := List.take_of_length_le (by rw [mk_len]; omega)
      simp only [this, Int.lt_irrefl, decide_false, cond_false]
    · refine Ev.bind (form_mk hc fun i h => ?_) (Ev.ret _)
      rw [Bool.and_eq_true, t1 i h, Bool.not_eq_true', ← Bool.not_eq_true, t2 i h]
  · unfold ticksOf
    rw [if_neg hc, if_neg hc, lessOf_out hc]
    refine Ev.loopB (st := fun i => ((i : Int), [], [], [])) 0 [] rfl (fun i hi => by omega) (Ev.const fun n => rfl) (Ev.bind form_nil (Ev.ret _))
theorem rrest_ (C : Int) (a : List (Int × Int)) (ha : a.length ≤ 1000) : Ev (fun n => ref03_Rest n (C, a)) (restOf C a) := by
  unfold ref03_Rest
  refine Ev.bind (ticks_ C a ha) ?_
  by_cases hc : 1 ≤ C ∧ C ≤ 6000
  · have l1 := ticksOf_len C a hc
    have t1 := fun i h => ticksOf_getD hc a i h
    generalize ticksOf C a = x at *
    rw [← formOf_eq hc (restOf_arcs hc.1 hc.2 a)]
    refine Ev.loopB (st := fun i => ((i : Int), x, (mk C.toNat fun i => !(x.getD i false)).take i)) x.length (mk C.toNat fun i => !(x.getD i false)) (by simp) (fun i hi => ?_) ?_ ?_
    · refine Ev.const fun n => ?_
      have hf : fitB (min i C.toNat + 1) 1 = true := fitB_ok (by omega)
      simp only [Int.ofNat_lt, hi, decide_true, cond_true, inB_nat, atI_nat, wrap_succ (show i < 9223372036854775807 by omega), mk_snoc C.toNat _ i (by omega), List.length_take, mk_len, List.length_cons, List.length_nil, Nat.zero_add, hf]
    · refine Ev.const fun n => ?_
      have : (mk C.toNat fun i => !(x.getD i false)).take x.length = mk C.toNat fun i => !(x.getD i false) := List.take_of_length_le (by rw [mk_len]; omega)
      simp only [this, Int.lt_irrefl, decide_false, cond_false]
    · refine Ev.bind (form_mk hc fun i h => ?_) (Ev.ret _)
      rw [Bool.not_eq_true', ← Bool.not_eq_true, t1 i h]
  · unfold ticksOf
    rw [if_neg hc, restOf_out hc]
    refine Ev.loopB (st := fun i => ((i : Int), [], [])) 0 [] rfl (fun i hi => by omega) (Ev.const fun n => rfl) (Ev.bind form_nil (Ev.ret _))
theorem rtotal_ (C : Int) (l : List (Int × Int)) (hl : l.length ≤ 1000) : Ev (fun n => ref03_Total n (C, l)) (totalOf (piecesOf C l)) := by
  unfold ref03_Total
  refine Ev.bind (ticks_ C l hl) ?_
  have hT : totalOf (piecesOf C l) = ((ticksOf C l).count true : Nat) := by
    unfold ticksOf
    split
    · rename_i hc
      have hg := piecesOf_good C l
      have e : ((C.toNat : Nat) : Int) = C := by omega
      rw [← e] at hg
      have := total_ok hg
      rw [e] at this
      rw [this, tks_congr (C := C.toNat) fun j _ hj => piecesOf_cov hc.1 hc.2 l (j := (j : Int)) (by omega) (by omega)]
    · rename_i hc
      rw [piecesOf_out (by omega)]; rfl
  rw [hT]
  have hlen : (ticksOf C l).length ≤ 6000 := by
    unfold ticksOf; split
    · rw [tks_len]; omega
    · simp
  generalize ticksOf C l = b at *
  refine Ev.loopB (st := fun i => (((b.take i).count true : Int), (i : Int), b)) b.length (b.count true : Int) (by simp) (fun i hi => ?_) (Ev.const fun n => by simp) (Ev.ret _)
  refine Ev.const fun n => ?_
  have hle : (b.take i).count true ≤ i := Nat.le_trans List.count_le_length (by simp; omega)
  simp only [Int.ofNat_lt, hi, decide_true, cond_true, inB_nat, atI_nat, wrap_succ (show i < 9223372036854775807 by omega), take_snoc b i false hi, List.count_append]
  cases b.getD i false with
  | true => simp [wrap_succ (show (b.take i).count true < 9223372036854775807 by omega)]
  | false => simp
theorem wide_zero {C : Int} {T : Int → Prop} {f : List (Int × Int)} (hf : Arcs C T f) : f.foldl wide (0, 0) = widestOf f := by
  cases f with
  | nil => rfl
  | cons a r =>
    have := ((hf.mem a).1 (by simp)).2.2.1
    have e : wide (0, 0) a = a := by unfold wide; rw [if_pos (by simp only; omega)]
    simp only [List.foldl_cons, e, widestOf]
theorem rwidest_ (C : Int) (l : List (Int × Int)) (hl : l.length ≤ 1000) : Ev (fun n => ref03_Widest n (C, l)) (widestOf (setOf C l)) := by
  unfold ref03_Widest
  have hs := rset_ C l hl
  rw [formOf_set] at hs
  refine Ev.bind hs ?_
  have hlen := setOf_len C l
  have hw : (setOf C l).foldl wide (0, 0) = widestOf (setOf C l) := by
    by_cases hc : 1 ≤ C ∧ C ≤ 6000
    · exact wide_zero (setOf_arcs hc.1 hc.2 l)
    · rw [setOf_out (by omega)]; rfl
  rw [← hw]
  generalize setOf C l = f at *
  refine Ev.loopB (st := fun i => (f, (i : Int), (0 : Int), (0 : Int), (f.take i).foldl wide (0, 0))) f.length (0, 0, f.foldl wide (0, 0)) (by simp) (fun i hi => ?_) (Ev.const fun n => by simp) (Ev.ret _)
  refine Ev.const fun n => ?_
  simp only [Int.ofNat_lt, hi, decide_true, cond_true, inB_nat, atI_nat, wrap_succ (show i < 9223372036854775807 by omega), take_snoc f i (0, 0) hi, List.foldl_append, List.foldl_cons, List.foldl_nil]
  generalize f.getD i (0, 0) = x
  generalize (f.take i).foldl wide (0, 0) = m
  unfold wide
  by_cases h1 : m.2 < x.2 <;> simp [h1]
theorem tks_setv (C : Nat) (T : Int → Prop) (i : Nat) (v : Bool) : List.set (tks C T) i v = tks C fun j => (j = i ∧ v = true) ∨ (j ≠ i ∧ T j) := by
  refine bools_ext (by simp [tks_len]) fun j hj => ?_
  have := tks_bt C T (j := (j : Int)) (by omega) (by omega)
  simp only [BT, bt, Int.toNat_natCast] at this
  simp only [bt, List.getD_eq_getElem?_getD, List.getElem?_set] at this ⊢
  by_cases h : i = j
  · subst h; simp [tks_len, hj]
  · rw [if_neg h, this]
    constructor
    · exact fun h' => .inr ⟨by omega, h'⟩
    · rintro (h' | h')
      · omega
      · exact h'.2
theorem rturn_ (C : Int) (l : List (Int × Int)) (by_ : Int) (hl : l.length ≤ 1000) : Ev (fun n => ref03_Turn n (C, l, by_)) (turnOf C l by_) := by
  unfold ref03_Turn
  refine Ev.bind (ticks_ C l hl) ?_
  by_cases hc : 1 ≤ C ∧ C ≤ 6000
  · have l1 := ticksOf_len C l hc
    have t1 := fun i h => ticksOf_getD hc l i h
    generalize ticksOf C l = x at *
    have e0 : ((x.length : Nat) : Int) = C := by omega
    have hcc : (C == C && decide (0 ≤ C) && decide (C * 1 ≤ 281474976710656)) = true := by simp; omega
    simp only [e0, hcc, cond_true]
    rw [← formOf_eq hc (turnOf_arcs hc.1 hc.2 l by_)]
    refine Ev.loopB (st := fun i => (C, by_, (i : Int), x, tks C.toNat fun j => (j - by_) % C < i ∧ TS C l ((j - by_) % C))) C.toNat (tks C.toNat fun j => TS C l (j - by_)) ?_ (fun i hi => ?_) ?_ ?_
    · have e : (tks C.toNat fun j => (j - by_) % C < ((0 : Nat) : Int) ∧ TS C l ((j - by_) % C)) = tks C.toNat fun _ => False := tks_congr fun j _ _ => by
        have := Int.emod_nonneg ((j : Int) - by_) (b := C) (by omega)
        constructor
        · rintro ⟨h, _⟩; omega
        · exact fun h => h.elim
      show _ = (C, by_, ((0 : Nat) : Int), x, tks C.toNat fun j => (j - by_) % C < ((0 : Nat) : Int) ∧ TS C l ((j - by_) % C))
      rw [e, ← tks_false]; rfl
    · refine Ev.const fun n => ?_
      have q1 := Int.emod_nonneg by_ (b := C) (by omega)
      have q2 := Int.emod_lt_of_pos by_ (b := C) (by omega)
      have p1 := Int.emod_nonneg ((i : Int) + by_ % C) (b := C) (by omega)
      have p2 := Int.emod_lt_of_pos ((i : Int) + by_ % C) (b := C) (by omega)
      have hix : i < x.length := by omega
      have hlt : (i : Int) < C := by omega
      have hw : wrap64 ((i : Int) + by_ % C) = (i : Int) + by_ % C := wrap64_id (by omega) (by omega)
      have hin2 : inB (((i : Int) + by_ % C) % C) C.toNat = true := by unfold inB; simp only [Bool.and_eq_true, decide_eq_true_eq]; omega
      simp only [Int.ofNat_lt, hix, decide_true, cond_true, inB_nat, atI_nat, rmod_ n by_ C hc.1 (by omega), Option.bind_some, hw, rmod_ n ((i : Int) + by_ % C) C hc.1 (by omega), tks_len, hin2, wrap_succ (show i < 9223372036854775807 by omega), tks_setv]
      refine congrArg some (congrArg Sum.inl ?_)
      simp only [Prod.mk.injEq, true_and]
      refine tks_congr fun j hj hj' => ?_
      rw [t1 i hlt, show ((((i : Int) + by_ % C) % C).toNat : Int) = ((i : Int) + by_ % C) % C by omega, show ((i : Int) + by_ % C) % C = (by_ % C + i) % C by rw [Int.add_comm], emod_add q1 q2 (by omega) (by omega)]
      have e2 : ((j : Int) - by_) % C = if by_ % C ≤ j then (j : Int) - by_ % C else j - by_ % C + C := by
        rw [← Int.sub_emod_emod]; exact emod_sub q1 q2 (by omega) (by omega)
      rw [e2]
      constructor
      · rintro (⟨h1, h2⟩ | ⟨h1, h2, h3⟩)
        · have : (if by_ % C ≤ (j : Int) then (j : Int) - by_ % C else j - by_ % C + C) = i := by split at h1 <;> split <;> omega
          rw [this]
          exact ⟨by omega, h2⟩
        · exact ⟨by omega, h3⟩
      · rintro ⟨h1, h2⟩
        by_cases h4 : (if by_ % C ≤ (j : Int) then (j : Int) - by_ % C else j - by_ % C + C) = i
        · left
          rw [h4] at h2
          refine ⟨?_, h2⟩
          split at h4 <;> split <;> omega
        · right
          refine ⟨?_, by omega, h2⟩
          intro h5
          apply h4
          split at h5 <;> split <;> omega
    · refine Ev.const fun n => ?_
      have hno : ¬ (((C.toNat : Nat) : Int) < C) := by omega
      simp only [hno, e0, decide_false, cond_false]
      congr 2
      refine tks_congr fun j hj hj' => ?_
      have := Int.emod_lt_of_pos ((j : Int) - by_) (b := C) (by omega)
      rw [TS.mod]
      exact ⟨fun h => h.2, fun h => ⟨by omega, h⟩⟩
    · have hf := form_mk hc (f := fun i => (tks C.toNat fun j => TS C l (j - by_)).getD i false) (T := fun j => TS C l (j - by_)) fun i h => by
        have := tks_bt C.toNat (fun j => TS C l (j - by_)) (j := (i : Int)) (by omega) (by omega)
        simpa [BT, bt] using this
      have e : (mk C.toNat fun i => (tks C.toNat fun j => TS C l (j - by_)).getD i false) = tks C.toNat fun j => TS C l (j - by_) := mk_tks hc fun i h => by
        have := tks_bt C.toNat (fun j => TS C l (j - by_)) (j := (i : Int)) (by omega) (by omega)
        simpa [BT, bt] using this
      rw [e] at hf
      exact Ev.bind hf (Ev.ret _)
  · unfold ticksOf
    rw [if_neg hc, turnOf_out (by omega)]
    refine Ev.loopB (st := fun i => (C, by_, (i : Int), [], [])) 0 [] rfl (fun i hi => by omega) (Ev.const fun n => rfl) (Ev.bind form_nil (Ev.ret _))
theorem rgap_ (C : Int) (a b : Int × Int) : Ev (fun n => ref03_Gap n (C, a.1, a.2, b)) (gapOf C a b) := by
  unfold ref03_Gap
  simp only [letJ]
  refine Ev.bindS (fun n => rcycle_ n C) ?_
  by_cases hc : 1 ≤ C ∧ C ≤ 6000
  case neg =>
    have e1 : normOf C a = (0, 0) := by unfold normOf; rw [if_pos (by omega)]
    rw [decide_eq_false hc]
    unfold gapOf
    rw [e1, if_pos (.inl rfl)]
    exact Ev.ret _
  rw [decide_eq_true hc]
  simp only [Bool.not_true, cond_false]
  have nz : ∀ a : Int × Int, a.2 < 1 → (normOf C a).2 = 0 := fun a h => by unfold normOf; rw [if_pos (.inr (.inr h))]
  have nc : ∀ a : Int × Int, 1 ≤ a.2 → C ≤ a.2 → (normOf C a).2 = C := fun a h h' => by unfold normOf; rw [if_neg (by omega), if_pos h']
  have np : ∀ a : Int × Int, 1 ≤ a.2 → a.2 < C → normOf C a = (a.1 % C, a.2) := fun a h h' => by unfold normOf; rw [if_neg (by omega), if_neg (by omega)]
  by_cases h1 : a.2 < 1
  · rw [decide_eq_true h1]; unfold gapOf; rw [if_pos (.inl (nz a h1))]; exact Ev.ret _
  by_cases h2 : b.2 < 1
  · rw [decide_eq_false h1, decide_eq_true h2]; unfold gapOf; rw [if_pos (.inr (.inl (nz b h2)))]; exact Ev.ret _
  by_cases h3 : C ≤ a.2
  · rw [decide_eq_false h1, decide_eq_false h2, decide_eq_true h3]; unfold gapOf; rw [if_pos (.inr (.inr (.inl (nc a (by omega) h3))))]; exact Ev.ret _
  by_cases h4 : C ≤ b.2
  · rw [decide_eq_false h1, decide_eq_false h2, decide_eq_false h3, decide_eq_true h4]; unfold gapOf; rw [if_pos (.inr (.inr (.inr (nc b (by omega) h4))))]; exact Ev.ret _
  rw [decide_eq_false h1, decide_eq_false h2, decide_eq_false h3, decide_eq_false h4]
  simp only [cond_false]
  have hg : gapOf C a b = (b.1 % C - a.1 % C - a.2) % C := by
    unfold gapOf
    rw [np a (by omega) (by omega), np b (by omega) (by omega), if_neg (by simp only; omega)]
  have m1 := Int.emod_nonneg a.1 (b := C) (by omega)
  have m2 := Int.emod_lt_of_pos a.1 (b := C) (by omega)
  have k1 := Int.emod_nonneg b.1 (b := C) (by omega)
  have k2 := Int.emod_lt_of_pos b.1 (b := C) (by omega)
  have g1 := Int.emod_nonneg (b.1 % C - a.1 % C - a.2) (b := C) (by omega)
  have g2 := Int.emod_lt_of_pos (b.1 % C - a.1 % C - a.2) (b := C) (by omega)
  rw [hg]
  have key : ∀ i : Nat, (i : Int) < C → ((a.1 % C + a.2 + i) % C = b.1 % C ↔ (i : Int) = (b.1 % C - a.1 % C - a.2) % C) := by
    intro i hi
    generalize a.1 % C = A at *
    generalize b.1 % C = B at *
    have e1 : (A + a.2 + i) % C = if A + a.2 + i < C then A + a.2 + i else if A + a.2 + i < 2 * C then A + a.2 + i - C else A + a.2 + i - 2 * C := by
      split
      · exact Int.emod_eq_of_lt (by omega) (by omega)
      · split
        · rw [← Int.sub_emod_right, Int.emod_eq_of_lt (by omega) (by omega)]
        · rw [← Int.sub_emod_right, ← Int.sub_emod_right, Int.emod_eq_of_lt (by omega) (by omega)]; omega
    have e2 : (B - A - a.2) % C = if 0 ≤ B - A - a.2 then B - A - a.2 else if 0 ≤ B - A - a.2 + C then B - A - a.2 + C else B - A - a.2 + 2 * C := by
      split
      · exact Int.emod_eq_of_lt (by omega) (by omega)
      · split
        · rw [← Int.add_emod_right, Int.emod_eq_of_lt (by omega) (by omega)]
        · rw [← Int.add_emod_right, ← Int.add_emod_right, Int.emod_eq_of_lt (by omega) (by omega)]; omega
    rw [e1, e2]
    split <;> split <;> (try split) <;> (try split) <;> omega
  refine Ev.loopB (st := fun i => (C, (i : Int), a.1, a.2, b)) ((b.1 % C - a.1 % C - a.2) % C).toNat ((b.1 % C - a.1 % C - a.2) % C) rfl (fun i hi => ?_) ?_ (Ev.ret _)
  · refine Ev.const fun n => ?_
    have hne : ¬ (a.1 % C + a.2 + i) % C = b.1 % C := fun h => by have := (key i (by omega)).1 h; omega
    have hb : ((a.1 % C + a.2 + i) % C == b.1 % C) = false := beq_eq_false_iff_ne.2 hne
    simp only [rmod_ n _ C hc.1 (show C ≤ 1000000000 by omega), Option.bind_some]
    rw [wrap64_id (n := a.1 % C + a.2) (by omega) (by omega), wrap64_id (n := a.1 % C + a.2 + i) (by omega) (by omega), hb, wrap_succ (by omega)]
    rfl
  · refine Ev.const fun n => ?_
    have e : (((b.1 % C - a.1 % C - a.2) % C).toNat : Int) = (b.1 % C - a.1 % C - a.2) % C := by omega
    have heq := (key _ (by omega)).2 e
    have hb : ((a.1 % C + a.2 + (((b.1 % C - a.1 % C - a.2) % C).toNat : Int)) % C == b.1 % C) = true := by rw [heq]; simp
    simp only [rmod_ n _ C hc.1 (show C ≤ 1000000000 by omega), Option.bind_some]
    rw [wrap64_id (n := a.1 % C + a.2) (by omega) (by omega), wrap64_id (n := a.1 % C + a.2 + _) (by omega) (by omega), hb, e]
    rfl
/-! ### Examples -/
theorem setOf_eval {C : Int} (hc : 1 ≤ C ∧ C ≤ 6000) (l : List (Int × Int)) : setOf C l = frm (mk C.toNat fun j => l.any fun a => decide (HasT C a j)) := by
  rw [← formOf_set]
  unfold formOf
  rw [if_pos hc, mk_tks hc (T := TS C l) fun i _ => by simp [TS]]
theorem restOf_eval {C : Int} (hc : 1 ≤ C ∧ C ≤ 6000) (l : List (Int × Int)) : restOf C l = frm (mk C.toNat fun j => !(l.any fun a => decide (HasT C a j))) := by
  rw [← formOf_eq hc (restOf_arcs hc.1 hc.2 l)]
  unfold formOf
  rw [if_pos hc, mk_tks hc (T := fun j => ¬ TS C l j) fun i _ => by simp [TS]]
theorem awake_ : Ev (fun n => law03_awake n ()) true := by
  unfold law03_awake
  have e1 : setOf 10 [(8, 4), (1, 3)] = [(8, 6)] := by rw [setOf_eval (by omega)]; decide
  have e2 : restOf 10 [(8, 6)] = [(4, 4)] := by rw [restOf_eval (by omega)]; decide
  have e3 : gapOf 10 (8, 4) (5, 1) = 3 := by decide
  have h1 := set_ 10 [(8, 4), (1, 3)] (by simp)
  have h2 := rest_ 10 [(8, 6)] (by simp)
  have h3 := same_ [(4, 4)] [(4, 4)] (by simp)
  rw [e1] at h1
  rw [e2] at h2
  refine Ev.bind h1 ?_
  simp only [letJ]
  refine Ev.bind h2 (Ev.bind h3 ?_)
  refine Ev.bindS (fun n => gap_ n 10 (8, 4) (5, 1)) ?_
  rw [e3]
  exact Ev.ret _
end Go.Proofs.Ytemhdliapelleaa.Fn
