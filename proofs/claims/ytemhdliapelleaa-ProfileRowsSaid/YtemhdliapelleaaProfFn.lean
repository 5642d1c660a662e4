/- Chapter 34's functions, of the program and of the document: what each computes. -/
import Derived.Test.YtemhdliapelleaaCircLawsB
import Derived.Test.YtemhdliapelleaaProf
namespace Go.Proofs.Ytemhdliapelleaa.Fn
open Go Go.RowKit Go.Den Go.Circ
set_option linter.unusedVariables false

/-- Are all numbers from 0 to what may be? -/
def FewP (p : List Int) : Prop := ∀ x ∈ p, 0 ≤ x ∧ x ≤ 1000000000
instance (p : List Int) : Decidable (FewP p) := inferInstanceAs (Decidable (∀ x ∈ p, 0 ≤ x ∧ x ≤ 1000000000))
theorem few1_ (n : Nat) (x : Int) : profile_few_1 n x = some (!(decide (0 ≤ x ∧ x ≤ 1000000000))) := by
  unfold profile_few_1
  by_cases h : x < 0
  · have : ¬ (0 ≤ x ∧ x ≤ 1000000000) := by omega
    simp [h, this]
  · by_cases h' : 1000000000 < x
    · have : ¬ (0 ≤ x ∧ x ≤ 1000000000) := by omega
      simp [h, h', this]
    · have : 0 ≤ x ∧ x ≤ 1000000000 := by omega
      simp [h, h', this]
theorem fewP_of {p : List Int} (h : ∀ i, i < p.length → decide (0 ≤ p.getD i 0 ∧ p.getD i 0 ≤ 1000000000) = true) : FewP p := fun x hx => by
  obtain ⟨i, hi, rfl⟩ := List.mem_iff_getElem.1 hx
  have := h i hi
  rw [decide_eq_true_eq, getD_lt _ _ _ hi] at this
  exact this
theorem fewP_not {p : List Int} {i : Nat} (hi : i < p.length) (h : decide (0 ≤ p.getD i 0 ∧ p.getD i 0 ≤ 1000000000) = false) : ¬ FewP p := fun hp => by
  have := hp (p.getD i 0) (by rw [getD_lt _ _ _ hi]; exact List.getElem_mem hi)
  rw [decide_eq_true this] at h
  cases h
theorem pfew_ (p : List Int) (hl : p.length ≤ 1000000) : Ev (fun n => profile_few n p) (decide (FewP p)) := by
  unfold profile_few slices_ContainsFunc
  have step : ∀ i, i < p.length → decide (0 ≤ p.getD i 0 ∧ p.getD i 0 ≤ 1000000000) = true → ∀ n : Nat, (fun (n : Nat) (x1 : (List Int) × Int × Int) =>
      bif decide (x1.2.2 < x1.2.1) then
        bif inB x1.2.2 x1.1.length then
          (profile_few_1 n (atI 0 x1.1 x1.2.2)).bind fun y2 =>
          bif y2 then
            (some (.inr (.inl x1.2.2)) : Option (((List Int) × Int × Int) ⊕ (Int ⊕ Unit)))
          else
          some (.inl (x1.1, x1.2.1, wrap64 (x1.2.2 + 1)))
        else
        none
      else
      some (.inr (.inr ()))) n (p, (p.length : Int), (i : Int)) = some (.inl (p, (p.length : Int), ((i + 1 : Nat) : Int))) := by
    intro i hi hp n
    simp only [Int.ofNat_lt, hi, decide_true, cond_true, inB_nat, atI_nat, few1_, hp, Bool.not_true, Option.bind_some, cond_false, wrap_succ (show i < 9223372036854775807 by omega)]
  rcases first_bad (fun i => decide (0 ≤ p.getD i 0 ∧ p.getD i 0 ≤ 1000000000)) p.length with h | ⟨i, h1, h2, h3⟩
  · have hf := fewP_of h
    rw [decide_eq_true hf]
    have idx : Ev (fun n => slices_IndexFunc n p) (-1) := by
      unfold slices_IndexFunc
      refine Ev.loopB (st := fun i => (p, (p.length : Int), (i : Int))) p.length (.inr ()) rfl (fun i hi => Ev.const fun n => step i hi (h i hi) n) (Ev.const fun n => by simp) ?_
      exact Ev.ret _
    exact Ev.bind (Ev.bind idx (Ev.ret _)) (Ev.const fun n => rfl)
  · have hf := fewP_not h1 h2
    rw [decide_eq_false hf]
    have idx : Ev (fun n => slices_IndexFunc n p) (i : Int) := by
      unfold slices_IndexFunc
      refine Ev.loopB (st := fun i => (p, (p.length : Int), (i : Int))) i (.inl (i : Int)) rfl (fun k hk => Ev.const fun n => step k (by omega) (h3 k hk) n) (Ev.const fun n => ?_) ?_
      · simp only [Int.ofNat_lt, h1, decide_true, cond_true, inB_nat, atI_nat, few1_, h2, Bool.not_false, Option.bind_some]
      · exact Ev.ret _
    refine Ev.bind (Ev.bind idx (Ev.ret _)) (Ev.const fun n => ?_)
    have : (0 : Int) ≤ (i : Int) := by omega
    simp [this]
theorem rfew_ (p : List Int) (hl : p.length ≤ 1000000) : Ev (fun n => ref34_few n p) (decide (FewP p)) := by
  unfold ref34_few
  have body : ∀ i, i < p.length → ∀ n : Nat, (fun (n : Nat) (x1 : (List Int) × Int) =>
      let e0 := x1.1.length
      let e1 := inB x1.2 e0
      let e2 := atI 0 x1.1 x1.2
      bif decide (x1.2 < ((e0 : Nat) : Int)) then
        letJ (fun (x2 : (List Int) × Int × Bool) =>
          bif x2.2.2 then
            (some (.inr (.inl false)) : Option (((List Int) × Int) ⊕ (Bool ⊕ Unit)))
          else
          some (.inl (x2.1, wrap64 (x2.2.1 + 1)))) fun J3 =>
        bif e1 then
          bif decide (e2 < 0) then
            J3 (x1.1, x1.2, true)
          else
          bif e1 then
            J3 (x1.1, x1.2, decide (1000000000 < e2))
          else
          none
        else
        none
      else
      some (.inr (.inr ()))) n (p, (i : Int)) = if decide (0 ≤ p.getD i 0 ∧ p.getD i 0 ≤ 1000000000) = true then some (.inl (p, ((i + 1 : Nat) : Int))) else some (.inr (.inl false)) := by
    intro i hi n
    simp only [Int.ofNat_lt, hi, decide_true, cond_true, inB_nat, atI_nat, letJ, wrap_succ (show i < 9223372036854775807 by omega)]
    generalize p.getD i 0 = x
    by_cases c1 : x < 0
    · have : ¬ (0 ≤ x ∧ x ≤ 1000000000) := by omega
      simp [c1, this]
    · by_cases c2 : 1000000000 < x
      · have : ¬ (0 ≤ x ∧ x ≤ 1000000000) := by omega
        simp [c1, c2, this]
      · have : 0 ≤ x ∧ x ≤ 1000000000 := by omega
        simp [c1, c2, this]
  rcases first_bad (fun i => decide (0 ≤ p.getD i 0 ∧ p.getD i 0 ≤ 1000000000)) p.length with h | ⟨i, h1, h2, h3⟩
  · rw [decide_eq_true (fewP_of h)]
    refine Ev.loopB (st := fun i => (p, (i : Int))) p.length (.inr ()) rfl (fun i hi => Ev.const fun n => (body i hi n).trans (if_pos (h i hi))) (Ev.const fun n => by simp) ?_
    exact Ev.ret _
  · rw [decide_eq_false (fewP_not h1 h2)]
    refine Ev.loopB (st := fun i => (p, (i : Int))) i (.inl false) rfl (fun k hk => Ev.const fun n => (body k (by omega) n).trans (if_pos (h3 k hk))) (Ev.const fun n => (body i h1 n).trans (if_neg (by rw [h2]; simp))) ?_
    exact Ev.ret _
theorem sum_snoc (p : List Int) (i : Nat) (h : i < p.length) : (p.take (i + 1)).sum = (p.take i).sum + p.getD i 0 := by rw [take_snoc p i 0 h]; simp
theorem sum_bound {p : List Int} (h : FewP p) : 0 ≤ p.sum ∧ p.sum ≤ 1000000000 * p.length := by
  induction p with
  | nil => simp
  | cons a p ih =>
    have := h a (by simp)
    have := ih fun x hx => h x (by simp [hx])
    simp only [List.sum_cons, List.length_cons]
    omega
theorem FewP.take {p : List Int} (h : FewP p) (i : Nat) : FewP (p.take i) := fun x hx => h x (List.mem_of_mem_take hx)
theorem FewP.get {p : List Int} (h : FewP p) {i : Nat} (hi : i < p.length) : 0 ≤ p.getD i 0 ∧ p.getD i 0 ≤ 1000000000 := h _ (by rw [getD_lt _ _ _ hi]; exact List.getElem_mem hi)
def sumOf (p : List Int) : Int := if 6000 < p.length ∨ ¬ FewP p then 0 else p.sum
theorem psum_ (p : List Int) (hl : p.length ≤ 1000000) : Ev (fun n => profile_Sum n p) (sumOf p) := by
  unfold profile_Sum sumOf
  simp only [letJ]
  by_cases h1 : 6000 < p.length
  · have : (6000 : Int) < ((p.length : Nat) : Int) := by omega
    rw [if_pos (.inl h1)]
    exact Ev.const fun n => by simp [this]
  · have c : ¬ (6000 : Int) < ((p.length : Nat) : Int) := by omega
    simp only [c, decide_false, cond_false]
    refine Ev.bind (pfew_ p hl) ?_
    by_cases hf : FewP p
    · rw [decide_eq_true hf, if_neg (by simp [h1, hf])]
      simp only [Bool.not_true, cond_false]
      refine Ev.loopB (st := fun i => ((p.take i).sum, p, (p.length : Int), (i : Int))) p.length p.sum (by simp) (fun i hi => Ev.const fun n => ?_) (Ev.const fun n => by simp) (Ev.ret _)
      have hb := sum_bound (hf.take i)
      have hg := hf.get hi
      simp only [List.length_take] at hb
      simp only [Int.ofNat_lt, hi, decide_true, cond_true, inB_nat, atI_nat, wrap_succ (show i < 9223372036854775807 by omega), sum_snoc p i hi]
      rw [wrap64_id (by omega) (by omega)]
    · rw [decide_eq_false hf, if_pos (.inr hf)]
      exact Ev.ret _
theorem rsum_ (p : List Int) (hl : p.length ≤ 1000000) : Ev (fun n => ref34_Sum n p) (sumOf p) := by
  unfold ref34_Sum sumOf
  simp only [letJ]
  by_cases h1 : 6000 < p.length
  · have : (6000 : Int) < ((p.length : Nat) : Int) := by omega
    rw [if_pos (.inl h1)]
    exact Ev.const fun n => by simp [this]
  · have c : ¬ (6000 : Int) < ((p.length : Nat) : Int) := by omega
    simp only [c, decide_false, cond_false]
    refine Ev.bind (rfew_ p hl) ?_
    by_cases hf : FewP p
    · rw [decide_eq_true hf, if_neg (by simp [h1, hf])]
      simp only [Bool.not_true, cond_false]
      refine Ev.loopB (st := fun i => (p, (p.take i).sum, (i : Int))) p.length p.sum (by simp) (fun i hi => Ev.const fun n => ?_) (Ev.const fun n => by simp) (Ev.ret _)
      have hb := sum_bound (hf.take i)
      have hg := hf.get hi
      simp only [List.length_take] at hb
      simp only [Int.ofNat_lt, hi, decide_true, cond_true, inB_nat, atI_nat, wrap_succ (show i < 9223372036854775807 by omega), sum_snoc p i hi]
      rw [wrap64_id (by omega) (by omega)]
    · rw [decide_eq_false hf, if_pos (.inr hf)]
      exact Ev.ret _
theorem rright_ (C : Int) (p : List Int) (hl : p.length ≤ 1000000) : Ev (fun n => ref34_Right n (C, p)) (decide ((1 ≤ C ∧ C ≤ 6000) ∧ (p.length : Int) = C ∧ FewP p)) := by
  unfold ref34_Right
  refine Ev.bindS (fun n => rcycle_ n C) ?_
  by_cases hc : 1 ≤ C ∧ C ≤ 6000
  · rw [decide_eq_true hc]
    simp only [cond_true]
    by_cases hn : (p.length : Int) = C
    · have : (((p.length : Nat) : Int) == C) = true := by simp [hn]
      simp only [this, cond_true]
      have e : decide ((1 ≤ C ∧ C ≤ 6000) ∧ (p.length : Int) = C ∧ FewP p) = decide (FewP p) := decide_eq_decide.2 ⟨fun h => h.2.2, fun h => ⟨hc, hn, h⟩⟩
      rw [e]
      exact Ev.bind (rfew_ p hl) (Ev.ret _)
    · have : (((p.length : Nat) : Int) == C) = false := by simp [hn]
      rw [decide_eq_false (fun h => hn h.2.1)]
      simp only [this, cond_false]
      exact Ev.ret _
  · rw [decide_eq_false hc, decide_eq_false (fun h => hc h.1)]
    exact Ev.ret _
theorem longs_ (a b : List Int) (hl : a.length ≤ 1000000000) : Ev (fun n => ref10_Longs n (a, b)) (decide (a = b)) := by
  unfold ref10_Longs
  by_cases hlen : a.length = b.length
  · have e : (((a.length : Nat) : Int) == ((b.length : Nat) : Int)) = true := by simp [hlen]
    simp only [e, Bool.not_true, cond_false]
    have step : ∀ i, i < a.length → a.getD i 0 = b.getD i 0 → ∀ n : Nat, (fun (n : Nat) (x1 : (List Int) × (List Int) × Int) =>
        let e0 := x1.1.length
        bif decide (x1.2.2 < ((e0 : Nat) : Int)) then
          bif inB x1.2.2 e0 then
            bif inB x1.2.2 x1.2.1.length then
              bif !((atI 0 x1.1 x1.2.2) == (atI 0 x1.2.1 x1.2.2)) then
                (some (.inr (.inl false)) : Option (((List Int) × (List Int) × Int) ⊕ (Bool ⊕ Unit)))
              else
              some (.inl (x1.1, x1.2.1, wrap64 (x1.2.2 + 1)))
            else
            none
          else
          none
        else
        some (.inr (.inr ()))) n (a, b, (i : Int)) = some (.inl (a, b, ((i + 1 : Nat) : Int))) := by
      intro i hi he n
      have hi' : i < b.length := by omega
      simp only [Int.ofNat_lt, hi, hi', decide_true, cond_true, inB_nat, atI_nat, he, beq_self_eq_true, Bool.not_true, cond_false, wrap_succ (show i < 9223372036854775807 by omega)]
    rcases first_bad (fun i => decide (a.getD i 0 = b.getD i 0)) a.length with h | ⟨i, h1, h2, h3⟩
    · have hab : a = b := List.ext_getElem hlen fun i h1 h2 => by
        have := h i h1
        rw [decide_eq_true_eq, getD_lt _ _ _ h1, getD_lt _ _ _ h2] at this
        exact this
      rw [decide_eq_true hab]
      refine Ev.loopB (st := fun i => (a, b, (i : Int))) a.length (.inr ()) rfl (fun i hi => Ev.const fun n => step i hi (of_decide_eq_true (h i hi)) n) (Ev.const fun n => by simp) ?_
      exact Ev.ret _
    · have hab : a ≠ b := fun e => by rw [e] at h2; simp at h2
      rw [decide_eq_false hab]
      refine Ev.loopB (st := fun i => (a, b, (i : Int))) i (.inl false) rfl (fun k hk => Ev.const fun n => step k (by omega) (of_decide_eq_true (h3 k hk)) n) (Ev.const fun n => ?_) ?_
      case refine_2 => exact Ev.ret _
      have hi' : i < b.length := by omega
      have hne : (a.getD i 0 == b.getD i 0) = false := beq_eq_false_iff_ne.2 (of_decide_eq_false h2)
      simp only [Int.ofNat_lt, h1, hi', decide_true, cond_true, inB_nat, atI_nat, hne, Bool.not_false]
  · have e : (((a.length : Nat) : Int) == ((b.length : Nat) : Int)) = false := by rw [beq_eq_false_iff_ne]; omega
    rw [decide_eq_false (fun h => hlen (by rw [h]))]
    simp only [e, Bool.not_false, cond_true]
    exact Ev.ret _
/-! ### Lights -/
theorem light_ (C : Int) (hc : 1 ≤ C ∧ C ≤ 6000) (a : Int × Int) (sat : Int) : Ev (fun n => profile_newLight n (C, a.1, a.2, sat)) (C, sat, ticksOf C [a]) := by
  unfold profile_newLight
  have hcc : (C == C && decide (0 ≤ C) && decide (C * 1 ≤ 281474976710656)) = true := by simp; omega
  simp only [hcc, cond_true]
  have hset := set_ C [a] (by simp)
  refine Ev.bind hset ?_
  have hlen := setOf_len C [a]
  have helem := fun i h => set_elem (C := C) (l := [a]) (i := i) h
  have hT : ticksOf C [a] = tks C.toNat (TS C (setOf C [a])) := by
    unfold ticksOf
    rw [if_pos hc]
    exact tks_congr fun j _ hj => (setOf_ts hc.1 hc.2 [a] (j := (j : Int)) (by omega) (by omega)).symm
  rw [hT]
  clear hT hset
  generalize setOf C [a] = f at *
  obtain ⟨Cn, rfl⟩ := Int.eq_ofNat_of_zero_le (show 0 ≤ C by omega)
  refine Ev.loopB (st := fun i => ((Cn : Int), (f.length : Int), (i : Int), (Cn : Int), sat, f, tks Cn (TS Cn (f.take i)))) f.length ((Cn : Int), sat, tks Cn (TS Cn f)) ?_ (fun i hi => ?_) ?_ (Ev.ret _)
  · have e : tks Cn (TS Cn []) = tks Cn fun _ => False := tks_congr fun j _ _ => by simp [TS]
    simp [e, tks_false]
  · obtain ⟨_, m1, m2, m3, m4, _⟩ := helem i hi
    simp only [List.length_cons, List.length_nil] at hlen
    have hin : inB (i : Int) f.length = true := by rw [inB_nat]; simp [hi]
    simp only [Int.ofNat_lt, hi, decide_true, cond_true, hin, atI_nat]
    have htk : ∀ j, TS Cn (f.take (i + 1)) j ↔ TS Cn (f.take i) j ∨ HasT Cn (f.getD i (0, 0)) j := fun j => by
      rw [take_snoc f i (0, 0) hi]
      simp only [TS, List.mem_append, List.mem_singleton]
      constructor
      · rintro ⟨a, ha | rfl, h⟩
        · exact .inl ⟨a, ha, h⟩
        · exact .inr h
      · rintro (⟨a, ha, h⟩ | h)
        · exact ⟨a, .inl ha, h⟩
        · exact ⟨_, .inr rfl, h⟩
    generalize f.getD i (0, 0) = A at *
    refine Ev.loopB (st := fun k => ((Cn : Int), (f.length : Int), (i : Int), A.2, (k : Int), (Cn : Int), sat, A.1, A.2, f, tks Cn (fun j => TS Cn (f.take i) j ∨ (j - A.1) % Cn < (k : Int)))) A.2.toNat ((Cn : Int), (f.length : Int), (i : Int), (Cn : Int), sat, f, tks Cn (TS Cn (f.take (i + 1)))) ?_ (fun k hk => ?_) ?_ ?_
    · have e : tks Cn (fun j => TS Cn (f.take i) j ∨ (j - A.1) % Cn < ((0 : Nat) : Int)) = tks Cn (TS Cn (f.take i)) := tks_congr fun j _ _ => by
        have := Int.emod_nonneg ((j : Int) - A.1) (b := Cn) (by omega)
        constructor
        · rintro (h | h)
          · exact h
          · omega
        · exact .inl
      simp only [e]; rfl
    · refine Ev.const fun n => ?_
      have hk' : (k : Int) < A.2 := by omega
      have q1 := Int.emod_nonneg (A.1 + k) (b := Cn) (by omega)
      have q2 := Int.emod_lt_of_pos (A.1 + k) (b := Cn) (by omega)
      have hc0 : ((Cn : Int) == 0) = false := by simp; omega
      have hw : wrap64 (A.1 + k) = A.1 + k := wrap64_id (by omega) (by omega)
      have ht : Int.tmod (A.1 + k) Cn = (A.1 + k) % Cn := Int.tmod_eq_emod_of_nonneg (by omega)
      have hin2 : inB ((A.1 + k) % Cn) (tks Cn (fun j => TS Cn (f.take i) j ∨ (j - A.1) % Cn < (k : Int))).length = true := by
        unfold inB; rw [tks_len]; simp only [Bool.and_eq_true, decide_eq_true_eq]; omega
      simp only [hk', decide_true, cond_true, hc0, Bool.not_false, hw, ht, hin2, wrap_succ (show k < 9223372036854775807 by omega), tks_set]
      refine congrArg some (congrArg Sum.inl ?_)
      simp only [Prod.mk.injEq, true_and]
      refine tks_congr fun j hj hj' => ?_
      have e1 := emod_add m1 m2 (k := (k : Int)) (by omega) (by omega)
      have e2 := emod_sub m1 m2 (j := (j : Int)) (by omega) (by omega)
      rw [show (((A.1 + k) % Cn).toNat : Int) = (A.1 + k) % Cn by omega, e1, e2]
      constructor
      · rintro ((h | h) | h)
        · exact .inl h
        · right; omega
        · right; split at h <;> split <;> omega
      · rintro (h | h)
        · exact .inl (.inl h)
        · by_cases h3 : (if A.1 ≤ (j : Int) then (j : Int) - A.1 else j - A.1 + Cn) < (k : Int)
          · exact .inl (.inr h3)
          · right; split at h <;> split at h3 <;> split <;> omega
    · refine Ev.const fun n => ?_
      have hk' : ¬ ((A.2.toNat : Nat) : Int) < A.2 := by omega
      simp only [hk', decide_false, cond_false]
      refine congrArg some (congrArg Sum.inr ?_)
      simp only [Prod.mk.injEq, true_and]
      refine tks_congr fun j hj hj' => ?_
      rw [htk j]
      refine or_congr Iff.rfl ?_
      unfold HasT
      have q1 := Int.emod_nonneg ((j : Int) - A.1) (b := Cn) (by omega)
      have q2 := Int.emod_lt_of_pos ((j : Int) - A.1) (b := Cn) (by omega)
      omega
    · simp only [wrap_succ (show i < 9223372036854775807 by omega)]
      exact Ev.ret _
  · exact Ev.const fun n => by simp
theorem room_ (n : Nat) (C : Int) (g : List Bool) (sat : Int) (t : Nat) (h : t < g.length) : profile_light_room n (C, g, sat, (t : Int)) = some (if g.getD t false then sat else 0) := by
  unfold profile_light_room
  simp only [inB_nat, h, decide_true, cond_true, atI_nat]
  cases g.getD t false <;> rfl
/-- What comes, and what can go. -/
def pairsOf (come : List Int) (g : List Bool) (sat : Int) : List (Int × Int) := (List.range come.length).map fun t => (come.getD t 0, if g.getD t false then sat else 0)
theorem pairs_len (come : List Int) (g : List Bool) (sat : Int) : (pairsOf come g sat).length = come.length := by simp [pairsOf]
theorem pairs_get (come : List Int) (g : List Bool) (sat : Int) (i : Nat) (h : i < come.length) : (pairsOf come g sat).getD i (0, 0) = (come.getD i 0, if g.getD i false then sat else 0) := by
  rw [getD_lt _ _ _ (by rw [pairs_len]; exact h)]; simp [pairsOf]
theorem pairs_fine {come : List Int} {g : List Bool} {sat : Int} (hf : FewP come) (hs : 0 ≤ sat ∧ sat ≤ 1000000000) : Fine (pairsOf come g sat) := by
  intro x hx
  simp only [pairsOf, List.mem_map, List.mem_range] at hx
  obtain ⟨t, ht, rfl⟩ := hx
  refine ⟨hf.get ht, ?_⟩
  simp only
  split <;> omega
theorem Ml_bound {L : List (Int × Int)} (hL : Fine L) : (0 ≤ (Ml L).1 ∧ (Ml L).1 ≤ 1000000000 * L.length) ∧ -1000000000 * (L.length : Int) ≤ (Ml L).2 ∧ (Ml L).2 ≤ 1000000000 * L.length := by
  induction L with
  | nil => simp [Ml]
  | cons x L ih =>
    have hx := hL x (by simp)
    have := ih hL.tail
    simp only [Ml, List.foldr_cons, List.length_cons] at *
    omega
theorem steady_ (C : Int) (come : List Int) (g : List Bool) (sat : Int) (hl : come.length ≤ 6000) (hC : (come.length : Int) = C) (hg : g.length = come.length) (hf : FewP come) (hs : 0 ≤ sat ∧ sat ≤ 1000000000) :
    Ev (fun n => profile_light_steady n (C, g, sat, come)) (Ml (pairsOf come g sat)).1 := by
  unfold profile_light_steady
  have hL := pairs_fine (g := g) hf hs
  have hpl := pairs_len come g sat
  have hpg := fun i h => pairs_get come g sat i h
  generalize pairsOf come g sat = L at *
  subst hC
  refine Ev.loopB (st := fun i => ((come.length : Int), g, sat, come, (Ml (L.drop (come.length - i))).1, (Ml (L.drop (come.length - i))).2, (come.length : Int) - 1 - i)) come.length (Ml L).1 ?_ (fun i hi => Ev.const fun n => ?_) (Ev.const fun n => ?_) (Ev.ret _)
  · rw [wrap64_id (by omega) (by omega)]
    have : L.drop (come.length - 0) = [] := List.drop_eq_nil_of_le (by omega)
    rw [this]; simp [Ml]
  · have hidx : ((come.length : Int) - 1 - i) = ((come.length - 1 - i : Nat) : Int) := by omega
    have hlt : come.length - 1 - i < come.length := by omega
    have hltg : come.length - 1 - i < g.length := by omega
    have hge : (0 : Int) ≤ ((come.length - 1 - i : Nat) : Int) := by omega
    have hnx : wrap64 (((come.length - 1 - i : Nat) : Int) - 1) = (come.length : Int) - 1 - ((i + 1 : Nat) : Int) := by rw [wrap64_id (by omega) (by omega)]; omega
    have hd : L.drop (come.length - (i + 1)) = (come.getD (come.length - 1 - i) 0, if g.getD (come.length - 1 - i) false then sat else 0) :: L.drop (come.length - i) := by
      have h1 := List.drop_eq_getElem_cons (l := L) (i := come.length - 1 - i) (by omega)
      rw [show come.length - (i + 1) = come.length - 1 - i by omega, h1, show come.length - 1 - i + 1 = come.length - i by omega, ← hpg _ hlt, getD_lt _ _ _ (by omega)]
    have hb := Ml_bound (hL.drop (come.length - i))
    have hcg := hf.get hlt
    rw [List.length_drop] at hb
    simp only [hidx, hge, hlt, decide_true, cond_true, inB_nat, atI_nat, room_ n _ g sat _ hltg, Option.bind_some, hnx, hd]
    generalize come.getD (come.length - 1 - i) 0 = x at *
    have hr : 0 ≤ (if g.getD (come.length - 1 - i) false then sat else 0) ∧ (if g.getD (come.length - 1 - i) false then sat else 0) ≤ 1000000000 := by split <;> omega
    generalize (if g.getD (come.length - 1 - i) false then sat else 0) = r at *
    have hlen2 : (L.length - (come.length - i) : Nat) ≤ 6000 := by omega
    rw [wrap64_id (n := x - r) (by omega) (by omega), wrap64_id (by omega) (by omega), mx_eq]
    simp only [Ml, List.foldr_cons]
  · have hge : ¬ (0 : Int) ≤ (come.length : Int) - 1 - (come.length : Int) := by omega
    simp only [hge, decide_false, cond_false, Nat.sub_self, List.drop_zero]
end Go.Proofs.Ytemhdliapelleaa.Fn
