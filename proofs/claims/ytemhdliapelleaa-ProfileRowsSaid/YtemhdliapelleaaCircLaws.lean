/- The seven laws of chapter 3, on plain functions. -/
import Derived.Test.YtemhdliapelleaaCircRefB
namespace Go.Proofs.Ytemhdliapelleaa.Fn
open Go Go.RowKit Go.Den Go.Circ
set_option linter.unusedVariables false

/-! ### Plain facts of arcs in form -/
theorem arcs_apart {C : Int} {T : Int → Prop} {x y : Int × Int} (hx : IsArc C T x) (hy : IsArc C T y) (h : x.1 < y.1) : x.1 + x.2 < y.1 := by
  obtain ⟨a1, a2, a3, a4, a5, a6⟩ := hx
  obtain ⟨b1, b2, b3, b4, b5, b6⟩ := hy
  rcases b6 with b6 | b6
  · omega
  · refine Classical.byContradiction fun hn => b6.2.1 ?_
    have := a5 (y.1 - 1 - x.1) (by omega) (by omega)
    rwa [show x.1 + (y.1 - 1 - x.1) = y.1 - 1 by omega] at this
theorem arcs_none {C : Int} {T : Int → Prop} {A : List (Int × Int)} (hA : Arcs C T A) (h : ∀ j, ¬ T j) : A = [] := by
  cases A with
  | nil => rfl
  | cons a A =>
    have := (hA.mem a).1 (by simp)
    exact absurd (this.2.2.2.2.1 0 (by omega) (by have := this.2.2.1; omega)) (h _)
theorem TS.cong {C : Int} {l : List (Int × Int)} {i j : Int} (h : i % C = j % C) : TS C l i ↔ TS C l j := by rw [← TS.mod C l i, h, TS.mod]
theorem setOf_same {C : Int} {l m : List (Int × Int)} (h : ∀ j, TS C l j ↔ TS C m j) : setOf C l = setOf C m := by
  by_cases hc : 1 ≤ C ∧ C ≤ 6000
  · exact (setOf_arcs hc.1 hc.2 l).eq hc.1 (setOf_arcs hc.1 hc.2 m) fun j _ _ => h j
  · rw [setOf_out (by omega), setOf_out (by omega)]
theorem setOf_set (C : Int) (l : List (Int × Int)) : setOf C (setOf C l) = setOf C l := by
  by_cases hc : 1 ≤ C ∧ C ≤ 6000
  · exact (setOf_arcs hc.1 hc.2 _).eq hc.1 (setOf_arcs hc.1 hc.2 l) fun j h h' => setOf_ts hc.1 hc.2 l h h'
  · rw [setOf_out (by omega), setOf_out (by omega)]
theorem total_ts {C : Int} (hc : 1 ≤ C ∧ C ≤ 6000) (l : List (Int × Int)) : totalOf (piecesOf C l) = ((tks C.toNat (TS C l)).count true : Nat) := by
  have hg := piecesOf_good C l
  have e : ((C.toNat : Nat) : Int) = C := by omega
  rw [← e] at hg
  have := total_ok hg
  rw [e] at this
  rw [this, tks_congr (C := C.toNat) fun j _ hj => piecesOf_cov hc.1 hc.2 l (j := (j : Int)) (by omega) (by omega)]
open Classical in
theorem count_tks (C : Nat) (T : Int → Prop) : (tks C T).count true = (List.range C).countP fun (j : Nat) => decide (T j) := by
  unfold tks List.count
  rw [List.countP_map]
  congr 1
  funext j
  simp
open Classical in
theorem count_not (C : Nat) (T : Int → Prop) : (tks C T).count true + (tks C fun j => ¬ T j).count true = C := by
  have h := List.length_eq_countP_add_countP (fun (j : Nat) => decide (T j)) (l := List.range C)
  rw [List.length_range] at h
  have e : (tks C fun j => ¬ T j).count true = (List.range C).countP fun (a : Nat) => decide (¬ decide (T a) = true) := by
    rw [count_tks]
    exact List.countP_congr fun x _ => by simp
  rw [e, count_tks]
  omega
open Classical in
theorem count_turn {C : Nat} (hC : 1 ≤ C) (T : Int → Prop) (b : Int) (hT : ∀ j, T (j % C) ↔ T j) : (tks C fun j => T (j - b)).count true = (tks C T).count true := by
  rw [count_tks, count_tks]
  let σ : Nat → Nat := fun j => (((j : Int) - b) % C).toNat
  have hσ : ∀ j, (σ j : Int) = ((j : Int) - b) % C := fun j => by
    have := Int.emod_nonneg ((j : Int) - b) (b := C) (by omega)
    simp only [σ]; omega
  have hlt : ∀ j, σ j < C := fun j => by
    have := Int.emod_lt_of_pos ((j : Int) - b) (b := C) (by omega)
    have := hσ j
    omega
  have hinj : ∀ i j, i < C → j < C → σ i = σ j → i = j := by
    intro i j hi hj h
    have h1 := hσ i
    have h2 := hσ j
    rw [h] at h1
    have h3 : ((i : Int) - b) % C = ((j : Int) - b) % C := by rw [← h1, ← h2]
    have h4 := Int.emod_emod_of_dvd ((i : Int) - b) (Int.dvd_refl (C : Int))
    have h5 : (((i : Int) - b) - (j - b)) % C = 0 := by rw [← Int.sub_emod_emod, ← h3, Int.sub_emod_emod]; simp
    rw [show ((i : Int) - b) - (j - b) = i - j by omega] at h5
    have h6 := Int.emod_eq_of_lt (a := (i : Int)) (b := C) (by omega) (by omega)
    rcases Int.lt_trichotomy (i : Int) j with h7 | h7 | h7
    · rw [← Int.add_emod_right, Int.emod_eq_of_lt (by omega) (by omega)] at h5; omega
    · omega
    · rw [Int.emod_eq_of_lt (by omega) (by omega)] at h5; omega
  have hnd : ((List.range C).map σ).Nodup := by
    rw [List.Nodup, List.pairwise_map]
    refine (List.Pairwise.and_mem.1 (List.nodup_range (n := C))).imp fun h e => h.2.2 (hinj _ _ (List.mem_range.1 h.1) (List.mem_range.1 h.2.1) e)
  have hp : ((List.range C).map σ).Perm (List.range C) := by
    rw [List.perm_ext_iff_of_nodup hnd List.nodup_range]
    intro k
    rw [List.mem_map, List.mem_range]
    constructor
    · rintro ⟨j, _, rfl⟩; exact hlt j
    · intro hk
      refine ⟨(((k : Int) + b) % C).toNat, List.mem_range.2 ?_, ?_⟩
      · have := Int.emod_lt_of_pos ((k : Int) + b) (b := C) (by omega)
        omega
      · have h1 := hσ (((k : Int) + b) % C).toNat
        have h2 := Int.emod_nonneg ((k : Int) + b) (b := C) (by omega)
        rw [Int.toNat_of_nonneg h2, Int.emod_sub_emod, show (k : Int) + b - b = k by omega] at h1
        have h3 : (k : Int) % C = k := Int.emod_eq_of_lt (by omega) (by omega)
        omega
  have hq := hp.countP_eq (fun (j : Nat) => decide (T j))
  rw [← hq, List.countP_map]
  refine List.countP_congr fun j _ => ?_
  simp only [Function.comp, decide_eq_true_eq]
  rw [hσ j]
  exact (hT _).symm
theorem wide_spec : ∀ (r : List (Int × Int)) (a : Int × Int), r.foldl wide a ∈ a :: r ∧ (∀ x ∈ a :: r, x.2 ≤ (r.foldl wide a).2) := by
  intro r
  induction r with
  | nil => intro a; exact ⟨by simp, fun x hx => by rw [List.mem_singleton] at hx; subst hx; exact Int.le_refl _⟩
  | cons b r ih =>
    intro a
    simp only [List.foldl_cons]
    obtain ⟨h1, h2⟩ := ih (wide a b)
    have hw : wide a b = a ∧ b.2 ≤ a.2 ∨ wide a b = b ∧ a.2 < b.2 := by
      unfold wide
      by_cases h : a.2 < b.2
      · right; rw [if_pos h]; exact ⟨rfl, h⟩
      · left; rw [if_neg h]; exact ⟨rfl, by omega⟩
    refine ⟨?_, fun x hx => ?_⟩
    · rw [List.mem_cons] at h1
      rcases h1 with h1 | h1
      · rw [h1]
        rcases hw with ⟨e, _⟩ | ⟨e, _⟩ <;> rw [e] <;> simp
      · simp [h1]
    · have h0 := h2 (wide a b) (by simp)
      rw [List.mem_cons, List.mem_cons] at hx
      rcases hx with rfl | rfl | hx
      · rcases hw with ⟨e, _⟩ | ⟨e, h⟩ <;> rw [e] at h0 h2 ⊢ <;> omega
      · rcases hw with ⟨e, _⟩ | ⟨e, h⟩ <;> rw [e] at h0 h2 ⊢ <;> omega
      · exact h2 x (by simp [hx])
/-- Of the widest arcs the first one is told. -/
theorem wide_first : ∀ (r : List (Int × Int)) (a : Int × Int), ((a :: r).Pairwise fun p q => p.1 < q.1) → ∀ x ∈ a :: r, x.2 = (r.foldl wide a).2 → (r.foldl wide a).1 ≤ x.1 := by
  intro r
  induction r with
  | nil => intro a _ x hx _; rw [List.mem_singleton] at hx; subst hx; exact Int.le_refl _
  | cons b r ih =>
    intro a hs x hx he
    simp only [List.foldl_cons] at he ⊢
    obtain ⟨s1, s2⟩ := List.pairwise_cons.1 hs
    obtain ⟨s3, s4⟩ := List.pairwise_cons.1 s2
    by_cases h : a.2 < b.2
    · have e : wide a b = b := by unfold wide; rw [if_pos h]
      rw [e] at he ⊢
      rw [List.mem_cons] at hx
      rcases hx with rfl | hx
      · have := (wide_spec r b).2 b (by simp)
        omega
      · exact ih b s2 x hx he
    · have e : wide a b = a := by unfold wide; rw [if_neg h]
      rw [e] at he ⊢
      have s5 : (a :: r).Pairwise fun p q => p.1 < q.1 := List.pairwise_cons.2 ⟨fun y hy => s1 y (by simp [hy]), s4⟩
      rw [List.mem_cons, List.mem_cons] at hx
      rcases hx with rfl | rfl | hx
      · exact ih x s5 x (by simp) he
      · -- b is as wide as the widest one: so a is
        have h2 := (wide_spec r a).2 a (by simp)
        have h3 := ih a s5 a (by simp) (by omega)
        have := s1 x (by simp)
        omega
      · exact ih a s5 x (by simp [hx]) he
theorem widest_mem {f : List (Int × Int)} (h : f ≠ []) : widestOf f ∈ f := by
  cases f with
  | nil => exact absurd rfl h
  | cons a r => exact (wide_spec r a).1
theorem widest_ge {f : List (Int × Int)} {x : Int × Int} (h : x ∈ f) : x.2 ≤ (widestOf f).2 := by
  cases f with
  | nil => cases h
  | cons a r => exact (wide_spec r a).2 x h
theorem widest_first {f : List (Int × Int)} (hs : f.Pairwise fun p q => p.1 < q.1) {x : Int × Int} (h : x ∈ f) (he : x.2 = (widestOf f).2) : (widestOf f).1 ≤ x.1 := by
  cases f with
  | nil => cases h
  | cons a r => exact wide_first r a hs x h he
/-- A run of ticks is no longer than the widest arc. -/
theorem run_le {C : Int} (hc : 1 ≤ C ∧ C ≤ 6000) {m : List (Int × Int)} {s k : Int} (hk : 1 ≤ k) (hk' : k ≤ C) (h : ∀ i, 0 ≤ i → i < k → TS C m (s + i)) : k ≤ (widestOf (setOf C m)).2 := by
  have h0 := h 0 (by omega) (by omega)
  have m1 := Int.emod_nonneg (s + 0) (b := C) (by omega)
  have m2 := Int.emod_lt_of_pos (s + 0) (b := C) (by omega)
  rw [← TS.mod, ← setOf_ts hc.1 hc.2 m m1 m2] at h0
  obtain ⟨y, hy, hty⟩ := h0
  have hyA := ((setOf_arcs hc.1 hc.2 m).mem y).1 hy
  refine Int.le_trans ?_ (widest_ge hy)
  obtain ⟨b1, b2, b3, b4, b5, b6⟩ := hyA
  rcases b6 with b6 | b6
  · omega
  · refine Classical.byContradiction fun hn => b6.2.2 ?_
    have hd : ((s + 0) % C - y.1) % C < y.2 := by
      rcases hty.2 with h | h
      · omega
      · exact h
    have d0 := Int.emod_nonneg ((s + 0) % C - y.1) (b := C) (by omega)
    have := h (y.2 - ((s + 0) % C - y.1) % C) (by omega) (by omega)
    refine (TS.mod C m (y.1 + y.2)).2 ((TS.cong ?_).1 this)
    rw [show s + (y.2 - ((s + 0) % C - y.1) % C) = s + y.2 - ((s + 0) % C - y.1) % C by omega, Int.sub_emod_emod, show s + y.2 - ((s + 0) % C - y.1) = s + (y.2 + y.1) - (s + 0) % C by omega, Int.sub_emod_emod]
    congr 1; omega
/-! ### The laws -/
theorem CircleSets_ (C : Int) (l : List (Int × Int)) : Ev (fun n => law03_CircleSets n (C, l)) true := by
  unfold law03_CircleSets
  refine Ev.bind (few_ C [l] (by simp)) ?_
  by_cases hf : (∀ m ∈ [l], m.length ≤ 30) ∧ (C ≤ 300 ∨ 6000 < C)
  case neg => rw [decide_eq_false hf]; exact Ev.ret _
  rw [decide_eq_true hf]
  have hl := hf.1 l (by simp)
  simp only [Bool.not_true, cond_false, letJ]
  have hr := rset_ C l (by omega)
  rw [formOf_set] at hr
  have hlen := setOf_len C l
  refine Ev.bind (set_ C l (by omega)) (Ev.bind hr (Ev.bind (same_ _ _ (by omega)) ?_))
  simp only [decide_true, cond_true]
  refine Ev.bind (totalfn_ C l (by omega)) (Ev.bind (rtotal_ C l (by omega)) ?_)
  simp only [beq_self_eq_true, cond_true]
  refine Ev.bind (widest_ C l (by omega)) (Ev.bind (rwidest_ C l (by omega)) ?_)
  simp only [beq_self_eq_true, Bool.and_self, cond_true]
  exact Ev.bind awake_ (Ev.ret _)
theorem CircleArcs_ (C : Int) (a b : Int × Int) (t : Int) : Ev (fun n => law03_CircleArcs n (C, a.1, a.2, b.1, b.2, t)) true := by
  unfold law03_CircleArcs
  refine Ev.bind (few_ C [] (by simp)) ?_
  by_cases hf : (∀ m ∈ ([] : List (List (Int × Int))), m.length ≤ 30) ∧ (C ≤ 300 ∨ 6000 < C)
  case neg => rw [decide_eq_false hf]; exact Ev.ret _
  rw [decide_eq_true hf]
  have i0 : inB 0 2 = true := by decide
  have i1 : inB 1 2 = true := by decide
  simp only [Bool.not_true, cond_false, letJ, i0, i1, cond_true]
  refine Ev.bindS (fun n => norm_ n C a) (Ev.bind (rnorm_ C a) ?_)
  simp only [beq_self_eq_true, Bool.and_self, cond_true]
  refine Ev.bindS (fun n => in_ n C a t) (Ev.bindS (fun n => rin_ n C a t) ?_)
  simp only [beq_self_eq_true, cond_true]
  refine Ev.bindS (fun n => gap_ n C a b) (Ev.bind (rgap_ C a b) ?_)
  simp only [beq_self_eq_true, cond_true]
  exact Ev.bind awake_ (Ev.ret _)
theorem CircleMeets_ (C : Int) (a b : List (Int × Int)) : Ev (fun n => law03_CircleMeets n (C, a, b)) true := by
  unfold law03_CircleMeets
  refine Ev.bind (few_ C [a, b] (by simp)) ?_
  by_cases hf : (∀ m ∈ [a, b], m.length ≤ 30) ∧ (C ≤ 300 ∨ 6000 < C)
  case neg => rw [decide_eq_false hf]; exact Ev.ret _
  rw [decide_eq_true hf]
  have ha := hf.1 a (by simp)
  have hb := hf.1 b (by simp)
  have l1 := meetOf_len C a b
  have l2 := lessOf_len C a b
  have l3 := restOf_len C a
  simp only [Bool.not_true, cond_false, letJ]
  refine Ev.bind (meet_ C a b (by omega) (by omega)) (Ev.bind (rmeet_ C a b (by omega) (by omega)) (Ev.bind (same_ _ _ (by omega)) ?_))
  simp only [decide_true, cond_true]
  refine Ev.bind (less_ C a b (by omega) (by omega)) (Ev.bind (rless_ C a b (by omega) (by omega)) (Ev.bind (same_ _ _ (by omega)) ?_))
  simp only [decide_true, cond_true]
  refine Ev.bind (rest_ C a (by omega)) (Ev.bind (rrest_ C a (by omega)) (Ev.bind (same_ _ _ (by omega)) ?_))
  simp only [decide_true, cond_true]
  exact Ev.bind awake_ (Ev.ret _)
theorem turn_turn {C : Int} (hc : 1 ≤ C ∧ C ≤ 6000) (l : List (Int × Int)) (b c : Int) : turnOf C (turnOf C l b) c = turnOf C l ((b % C + c % C) % C) := by
  refine (turnOf_arcs hc.1 hc.2 (turnOf C l b) c).eq hc.1 (turnOf_arcs hc.1 hc.2 l _) fun j hj hj' => ?_
  have m1 := Int.emod_nonneg (j - c) (b := C) (by omega)
  have m2 := Int.emod_lt_of_pos (j - c) (b := C) (by omega)
  rw [← TS.mod C (turnOf C l b) (j - c), turnOf_ts hc.1 hc.2 l b m1 m2]
  refine TS.cong ?_
  rw [Int.sub_emod_emod, show j - (b % C + c % C) = j - b % C - c % C by omega, Int.sub_emod_emod, show j - b % C - c = j - c - b % C by omega, Int.sub_emod_emod, show (j - c) % C - b = (j - c) % C - b by rfl, Int.emod_sub_emod]
theorem CircleTurns_ (C : Int) (hC : C ≤ 9223372036854775807) (l : List (Int × Int)) (b c : Int) : Ev (fun n => law03_CircleTurns n (C, l, b, c)) true := by
  unfold law03_CircleTurns
  refine Ev.bind (few_ C [l] (by simp)) ?_
  by_cases hf : (∀ m ∈ [l], m.length ≤ 30) ∧ (C ≤ 300 ∨ 6000 < C)
  case neg => rw [decide_eq_false hf]; exact Ev.ret _
  rw [decide_eq_true hf]
  have hl := hf.1 l (by simp)
  have i0 : inB 0 2 = true := by decide
  have i1 : inB 1 2 = true := by decide
  simp only [Bool.not_true, cond_false, letJ, i0, i1, cond_true]
  have l1 := turnOf_len C l b
  refine Ev.bind (turn_ C hC l b (by omega)) (Ev.bind (rturn_ C l b (by omega)) (Ev.bind (same_ _ _ (by omega)) ?_))
  simp only [decide_true, Bool.not_true, cond_false]
  refine Ev.bind (totalfn_ C (turnOf C l b) (by omega)) (Ev.bind (totalfn_ C l (by omega)) ?_)
  have ht : totalOf (piecesOf C (turnOf C l b)) = totalOf (piecesOf C l) := by
    by_cases hc : 1 ≤ C ∧ C ≤ 6000
    · rw [total_ts hc, total_ts hc, tks_congr (T := TS C (turnOf C l b)) (T' := fun j => TS C l (j - b)) (C := C.toNat) fun j _ hj => turnOf_ts hc.1 hc.2 l b (j := (j : Int)) (by omega) (by omega), count_turn (C := C.toNat) (by omega) (TS C l) b]
      intro j
      rw [show ((C.toNat : Nat) : Int) = C by omega, TS.mod]
    · rw [piecesOf_out (by omega), piecesOf_out (by omega)]
  rw [ht]
  simp only [beq_self_eq_true, Bool.not_true, cond_false]
  refine Ev.bindS (fun n => rcycle_ n C) ?_
  by_cases hc : 1 ≤ C ∧ C ≤ 6000
  · rw [decide_eq_true hc]
    have c0 : (C == 0) = false := beq_eq_false_iff_ne.2 (by omega)
    simp only [Bool.not_true, cond_false, c0, Bool.not_false, cond_true]
    have p1 := Int.emod_nonneg b (b := C) (by omega)
    have p2 := Int.emod_lt_of_pos b (b := C) (by omega)
    have q1 := Int.emod_nonneg c (b := C) (by omega)
    have q2 := Int.emod_lt_of_pos c (b := C) (by omega)
    refine Ev.bindS (fun n => rmod_ n b C hc.1 (by omega)) (Ev.bindS (fun n => rmod_ n c C hc.1 (by omega)) ?_)
    rw [wrap64_id (by omega) (by omega), Int.tmod_eq_emod_of_nonneg (by omega)]
    have l2 := turnOf_len C (turnOf C l b) c
    refine Ev.bind (turn_ C hC (turnOf C l b) c (by omega)) (Ev.bind (turn_ C hC l ((b % C + c % C) % C) (by omega)) (Ev.bind (same_ _ _ (by omega)) ?_))
    rw [decide_eq_true (turn_turn hc l b c)]
    exact Ev.bind awake_ (Ev.ret _)
  · rw [decide_eq_false hc, turnOf_out (by omega)]
    exact Ev.bind awake_ (Ev.ret _)
theorem CircleRests_ (C : Int) (a b : List (Int × Int)) : Ev (fun n => law03_CircleRests n (C, a, b)) true := by
  unfold law03_CircleRests
  refine Ev.bind (few_ C [a, b] (by simp)) ?_
  by_cases hf : (∀ m ∈ [a, b], m.length ≤ 30) ∧ (C ≤ 300 ∨ 6000 < C)
  case neg => rw [decide_eq_false hf]; exact Ev.ret _
  rw [decide_eq_true hf]
  have ha := hf.1 a (by simp)
  have hb := hf.1 b (by simp)
  have l1 := meetOf_len C a b
  have l2 := lessOf_len C a b
  have l3 := restOf_len C a
  have l4 := restOf_len C b
  have l5 := restOf_len C (restOf C a)
  have l6 := restOf_len C (meetOf C a b)
  simp only [Bool.not_true, cond_false, letJ]
  refine Ev.bind (rest_ C a (by omega)) (Ev.bind (meet_ C a (restOf C a) (by omega) (by omega)) ?_)
  have e1 : meetOf C a (restOf C a) = [] := by
    by_cases hc : 1 ≤ C ∧ C ≤ 6000
    · refine arcs_none ((meetOf_arcs hc.1 hc.2 a (restOf C a)).congr hc.1 (T' := fun _ => False) fun j hj hj' => ?_) (fun _ h => h)
      rw [restOf_ts hc.1 hc.2 a hj hj']
      exact ⟨fun h => h.2 h.1, fun h => h.elim⟩
    · exact meetOf_out (by omega) _ _
  have e2 : restOf C (restOf C a) = setOf C a := by
    by_cases hc : 1 ≤ C ∧ C ≤ 6000
    · refine (restOf_arcs hc.1 hc.2 _).eq hc.1 (setOf_arcs hc.1 hc.2 a) fun j hj hj' => ?_
      rw [restOf_ts hc.1 hc.2 a hj hj']
      exact Classical.not_not
    · rw [restOf_out hc, setOf_out (by omega)]
  rw [e1]
  simp only [List.length_nil, beq_self_eq_true, Bool.not_true, cond_false, show (((0 : Nat) : Int) == 0) = true from rfl]
  refine Ev.bind (rest_ C (restOf C a) (by omega)) (Ev.bind (set_ C a (by omega)) (Ev.bind (same_ _ _ (by omega)) ?_))
  rw [decide_eq_true e2]
  simp only [Bool.not_true, cond_false]
  refine Ev.bindS (fun n => rcycle_ n C) ?_
  -- what follows
  have fit1 : fitB (restOf C a).length 16 = true := fitB_ok (by omega)
  have fit2 : fitB ((restOf C a).length + (restOf C b).length) 16 = true := fitB_ok (by omega)
  have l7 := setOf_len C (restOf C a ++ restOf C b)
  rw [List.length_append] at l7
  have e3 : restOf C (meetOf C a b) = setOf C (restOf C a ++ restOf C b) := by
    by_cases hc : 1 ≤ C ∧ C ≤ 6000
    · refine (restOf_arcs hc.1 hc.2 _).eq hc.1 (setOf_arcs hc.1 hc.2 _) fun j hj hj' => ?_
      have e : TS C (restOf C a ++ restOf C b) j ↔ TS C (restOf C a) j ∨ TS C (restOf C b) j := by
        simp only [TS, List.mem_append]
        constructor
        · rintro ⟨x, h | h, h'⟩
          · exact .inl ⟨x, h, h'⟩
          · exact .inr ⟨x, h, h'⟩
        · rintro (⟨x, h, h'⟩ | ⟨x, h, h'⟩)
          · exact ⟨x, .inl h, h'⟩
          · exact ⟨x, .inr h, h'⟩
      rw [e, meetOf_ts hc.1 hc.2 a b hj hj', restOf_ts hc.1 hc.2 a hj hj', restOf_ts hc.1 hc.2 b hj hj']
      exact Classical.not_and_iff_not_or_not
    · rw [restOf_out hc, setOf_out (by omega)]
  have e4 : lessOf C a b = meetOf C a (restOf C b) := by
    by_cases hc : 1 ≤ C ∧ C ≤ 6000
    · refine (lessOf_arcs hc.1 hc.2 a b).eq hc.1 (meetOf_arcs hc.1 hc.2 a _) fun j hj hj' => ?_
      rw [restOf_ts hc.1 hc.2 b hj hj']
    · rw [lessOf_out hc, meetOf_out (by omega)]
  have l8 := meetOf_len C a (restOf C b)
  have rest : Ev (fun n => (circle_Meet n (C, a, b)).bind fun y14 =>
      (circle_Rest n (C, y14)).bind fun y15 =>
      bif fitB (restOf C a).length 16 then
        (circle_Rest n (C, b)).bind fun y16 =>
        bif fitB ((restOf C a).length + y16.length) 16 then
          (circle_Set n (C, restOf C a ++ y16)).bind fun y17 =>
          (circle_Less n (C, a, b)).bind fun y18 =>
          (ref03_Same n (y15, y17)).bind fun y19 =>
          bif y19 then
            (circle_Rest n (C, b)).bind fun y20 =>
            (circle_Meet n (C, a, y20)).bind fun y21 =>
            (ref03_Same n (y18, y21)).bind fun y22 =>
            bif y22 then
              (law03_awake n ()).bind fun y23 =>
              some y23
            else
            some false
          else
          some false
        else
        none
      else
      none) true := by
    simp only [fit1, cond_true]
    refine Ev.bind (meet_ C a b (by omega) (by omega)) (Ev.bind (rest_ C (meetOf C a b) (by omega)) (Ev.bind (rest_ C b (by omega)) ?_))
    simp only [fit2, cond_true]
    refine Ev.bind (set_ C _ (by rw [List.length_append]; omega)) (Ev.bind (less_ C a b (by omega) (by omega)) (Ev.bind (same_ _ _ (by omega)) ?_))
    rw [decide_eq_true e3]
    refine Ev.bind (rest_ C b (by omega)) (Ev.bind (meet_ C a (restOf C b) (by omega) (by omega)) (Ev.bind (same_ _ _ (by omega)) ?_))
    rw [decide_eq_true e4]
    exact Ev.bind awake_ (Ev.ret _)
  by_cases hc : 1 ≤ C ∧ C ≤ 6000
  · rw [decide_eq_true hc]
    simp only [cond_true]
    refine Ev.bind (totalfn_ C a (by omega)) (Ev.bind (totalfn_ C (restOf C a) (by omega)) ?_)
    have ht : totalOf (piecesOf C a) + totalOf (piecesOf C (restOf C a)) = C := by
      rw [total_ts hc, total_ts hc, tks_congr (T := TS C (restOf C a)) (T' := fun j => ¬ TS C a j) (C := C.toNat) fun j _ hj => restOf_ts hc.1 hc.2 a (j := (j : Int)) (by omega) (by omega)]
      have := count_not C.toNat (TS C a)
      omega
    rw [ht, wrap64_id (by omega) (by omega)]
    simp only [beq_self_eq_true, Bool.not_true, cond_false]
    exact rest
  · rw [decide_eq_false hc]
    exact rest
end Go.Proofs.Ytemhdliapelleaa.Fn
