/- Chapter 3 of the document's answer: what each function computes. -/
import Derived.Test.YtemhdliapelleaaCircForm
namespace Go.Proofs.Ytemhdliapelleaa.Fn
open Go Go.RowKit Go.Den Go.Circ
set_option linter.unusedVariables false

theorem tks_get (C : Nat) (T : Int → Prop) [DecidablePred T] (i : Nat) (h : i < C) : (tks C T).getD i false = decide (T i) := by
  have := tks_bt C T (j := (i : Int)) (by omega) (by omega)
  simp only [BT, bt, Int.toNat_natCast] at this
  by_cases hT : T i
  · rw [this.2 hT, decide_eq_true hT]
  · rw [decide_eq_false hT]
    exact Bool.eq_false_iff.2 fun e => hT (this.1 e)
theorem tks_false (C : Nat) : List.replicate C false = tks C fun _ => False := bools_ext (by simp) fun j hj => by simp [bt, List.getD_eq_getElem?_getD, hj]
theorem tks_set (C : Nat) (T : Int → Prop) (i : Nat) : List.set (tks C T) i true = tks C fun j => T j ∨ j = i := by
  refine bools_ext (by simp [tks_len]) fun j hj => ?_
  have := tks_bt C T (j := (j : Int)) (by omega) (by omega)
  simp only [BT, bt, Int.toNat_natCast] at this
  simp only [bt, List.getD_eq_getElem?_getD, List.getElem?_set] at this ⊢
  by_cases h : i = j
  · subst h; simp [tks_len, hj]
  · rw [if_neg h, this]
    constructor
    · exact fun h => .inl h
    · rintro (h' | h')
      · exact h'
      · omega
/-- The ticks that a row of arcs has, in a list. -/
noncomputable def ticksOf (C : Int) (l : List (Int × Int)) : List Bool := if 1 ≤ C ∧ C ≤ 6000 then tks C.toNat (TS C l) else []
theorem ticksOf_len (C : Int) (l : List (Int × Int)) (h : 1 ≤ C ∧ C ≤ 6000) : (ticksOf C l).length = C.toNat := by unfold ticksOf; rw [if_pos h, tks_len]
theorem ticks_ (C : Int) (l : List (Int × Int)) (hl : l.length ≤ 1000) : Ev (fun n => ref03_Ticks n (C, l)) (ticksOf C l) := by
  unfold ref03_Ticks ticksOf
  refine Ev.bindS (fun n => rcycle_ n C) ?_
  by_cases hc : 1 ≤ C ∧ C ≤ 6000
  case neg => rw [decide_eq_false hc, if_neg hc]; exact Ev.ret _
  rw [decide_eq_true hc, if_pos hc]
  have hcc : (C == C && decide (0 ≤ C) && decide (C * 1 ≤ 281474976710656)) = true := by simp; omega
  obtain ⟨Cn, rfl⟩ := Int.eq_ofNat_of_zero_le (show 0 ≤ C by omega)
  simp only [Bool.not_true, cond_false, hcc, cond_true]
  refine Ev.loopB (st := fun i => ((Cn : Int), l, (i : Int), tks Cn (TS Cn (l.take i)))) l.length (tks Cn (TS Cn l)) ?_ (fun i hi => ?_) ?_ ?_
  · have e : tks Cn (TS Cn []) = tks Cn fun _ => False := tks_congr fun j _ _ => by simp [TS]
    simp [e, tks_false]
  · have hin : inB (i : Int) l.length = true := by rw [inB_nat]; simp [hi]
    simp only [Int.ofNat_lt, hi, decide_true, cond_true, hin, atI_nat]
    have htk : ∀ j, TS Cn (l.take (i + 1)) j ↔ TS Cn (l.take i) j ∨ HasT Cn (l.getD i (0, 0)) j := fun j => by
      rw [take_snoc l i (0, 0) hi]
      simp only [TS, List.mem_append, List.mem_singleton]
      constructor
      · rintro ⟨a, ha | rfl, h⟩
        · exact .inl ⟨a, ha, h⟩
        · exact .inr h
      · rintro (⟨a, ha, h⟩ | h)
        · exact ⟨a, .inl ha, h⟩
        · exact ⟨_, .inr rfl, h⟩
    generalize l.getD i (0, 0) = A at *
    have m1 := Int.emod_nonneg A.1 (b := Cn) (by omega)
    have m2 := Int.emod_lt_of_pos A.1 (b := Cn) (by omega)
    refine Ev.bindS (fun n => rmod_ n A.1 Cn hc.1 (by omega)) ?_
    rw [mn_eq]
    refine Ev.loopB (st := fun k => ((Cn : Int), l, (i : Int), min A.2 Cn, A.1 % Cn, (k : Int), tks Cn (fun j => TS Cn (l.take i) j ∨ (j - A.1 % Cn) % Cn < (k : Int)))) (min A.2 Cn).toNat ((Cn : Int), l, (i : Int), tks Cn (TS Cn (l.take (i + 1)))) ?_ (fun k hk => ?_) ?_ ?_
    · have e : tks Cn (fun j => TS Cn (l.take i) j ∨ (j - A.1 % Cn) % Cn < ((0 : Nat) : Int)) = tks Cn (TS Cn (l.take i)) := tks_congr fun j _ _ => by
        have := Int.emod_nonneg (j - A.1 % Cn) (b := Cn) (by omega)
        constructor
        · rintro (h | h)
          · exact h
          · omega
        · exact .inl
      simp only [e]; rfl
    · refine Ev.const fun n => ?_
      have hk' : (k : Int) < min A.2 Cn := by omega
      have q1 := Int.emod_nonneg (A.1 % Cn + k) (b := Cn) (by omega)
      have q2 := Int.emod_lt_of_pos (A.1 % Cn + k) (b := Cn) (by omega)
      have hc0 : ((Cn : Int) == 0) = false := by simp; omega
      have hw : wrap64 (A.1 % Cn + k) = A.1 % Cn + k := wrap64_id (by omega) (by omega)
      have ht : Int.tmod (A.1 % Cn + k) Cn = (A.1 % Cn + k) % Cn := Int.tmod_eq_emod_of_nonneg (by omega)
      have hin2 : inB ((A.1 % Cn + k) % Cn) (tks Cn (fun j => TS Cn (l.take i) j ∨ (j - A.1 % Cn) % Cn < (k : Int))).length = true := by
        unfold inB; rw [tks_len]; simp only [Bool.and_eq_true, decide_eq_true_eq]; omega
      simp only [hk', decide_true, cond_true, hc0, Bool.not_false, hw, ht, hin2, wrap_succ (show k < 9223372036854775807 by omega), tks_set]
      congr 2
      simp only [Prod.mk.injEq, true_and]
      refine tks_congr fun j hj hj' => ?_
      have e1 := emod_add m1 m2 (k := (k : Int)) (by omega) (by omega)
      have e2 := emod_sub m1 m2 (j := (j : Int)) (by omega) (by omega)
      rw [show (((A.1 % Cn + k) % Cn).toNat : Int) = (A.1 % Cn + k) % Cn by omega, e1, e2]
      constructor
      · rintro ((h | h) | h)
        · exact .inl h
        · right; omega
        · right; split at h <;> split <;> omega
      · rintro (h | h)
        · exact .inl (.inl h)
        · by_cases h3 : (if A.1 % (Cn : Int) ≤ j then j - A.1 % Cn else j - A.1 % Cn + Cn) < (k : Int)
          · exact .inl (.inr h3)
          · right; split at h <;> split at h3 <;> split <;> omega
    · refine Ev.const fun n => ?_
      have hk' : ¬ (((min A.2 Cn).toNat : Nat) : Int) < min A.2 Cn := by omega
      simp only [hk', decide_false, cond_false]
      congr 2
      simp only [Prod.mk.injEq, true_and]
      refine tks_congr fun j hj hj' => ?_
      rw [htk j]
      refine or_congr Iff.rfl ?_
      unfold HasT
      rw [Int.sub_emod_emod]
      have q1 := Int.emod_nonneg (j - A.1) (b := Cn) (by omega)
      have q2 := Int.emod_lt_of_pos (j - A.1) (b := Cn) (by omega)
      omega
    · simp only [wrap_succ (show i < 9223372036854775807 by omega)]
      exact Ev.ret _
  · refine Ev.const fun n => ?_
    simp
  · exact Ev.ret _
/-- The arcs in form that have the ticks of T. -/
noncomputable def formOf (C : Int) (T : Int → Prop) : List (Int × Int) := if 1 ≤ C ∧ C ≤ 6000 then frm (tks C.toNat T) else []
theorem formOf_eq {C : Int} {T : Int → Prop} {A : List (Int × Int)} (hc : 1 ≤ C ∧ C ≤ 6000) (hA : Arcs C T A) : formOf C T = A := by
  unfold formOf; rw [if_pos hc]
  have e : ((C.toNat : Nat) : Int) = C := by omega
  exact frm_tks (by omega) (by rw [e]; exact hA)
theorem rset_ (C : Int) (l : List (Int × Int)) (hl : l.length ≤ 1000) : Ev (fun n => ref03_Set n (C, l)) (formOf C (TS C l)) := by
  unfold ref03_Set
  refine Ev.bind (ticks_ C l hl) ?_
  unfold ticksOf formOf
  split
  · rename_i hc
    exact Ev.bind (form_ (by rw [tks_len]; omega)) (Ev.ret _)
  · exact Ev.bind (by have := form_ (b := []) (by simp); rwa [frm_nil] at this) (Ev.ret _)
theorem formOf_set (C : Int) (l : List (Int × Int)) : formOf C (TS C l) = setOf C l := by
  by_cases hc : 1 ≤ C ∧ C ≤ 6000
  · exact formOf_eq hc (setOf_arcs hc.1 hc.2 l)
  · unfold formOf; rw [if_neg hc, setOf_out (by omega)]
theorem rnorm_ (C : Int) (a : Int × Int) : Ev (fun n => ref03_Norm n (C, a)) (normOf C a) := by
  unfold ref03_Norm
  refine Ev.bind (ticks_ C [a] (by simp)) ?_
  by_cases hc : 1 ≤ C ∧ C ≤ 6000
  · have hf : Ev (fun n => ref03_Form n (ticksOf C [a])) (formOf C (TS C [a])) := by
      unfold ticksOf formOf; rw [if_pos hc, if_pos hc]; exact form_ (by rw [tks_len]; omega)
    refine Ev.bind hf ?_
    have hts : ∀ j, TS C [a] j ↔ HasT C (normOf C a) j := fun j => by rw [normOf_in hc.1 hc.2]; simp [TS]
    obtain ⟨n1, n2, n3, n4⟩ := normOf_at hc.1 a
    have full : (normOf C a).2 = C → (normOf C a).1 = 0 := by
      unfold normOf
      intro h
      split at h
      · simp at h; omega
      · split at h
        · rename_i h3 h4; rw [if_neg h3, if_pos h4]
        · simp at h; omega
    have hA : formOf C (TS C [a]) = if (normOf C a).2 = 0 then [] else [normOf C a] := by
      refine formOf_eq hc ((?_ : Arcs C (fun j => HasT C (normOf C a) j) _).congr hc.1 fun j _ _ => (hts j).symm)
      revert n1 n2 n3 n4 full
      generalize normOf C a = N
      intro n1 n2 n3 n4 full
      have hz : ∀ z, HasT C N (z % C) ↔ HasT C N z := fun z => HasT.mod C N z
      split
      · rename_i h0
        refine ⟨by simp, fun x => ⟨fun h => (by cases h), fun h => ?_⟩⟩
        have : HasT C N ((x.1 + 0) % C) := h.2.2.2.2.1 0 (by omega) (by have := h.2.2.1; omega)
        rw [hz] at this
        have := this.1
        omega
      · rename_i h0
        have hone : IsArc C (fun j => HasT C N j) N := by
          refine ⟨n1, n2, by omega, n4, fun k k1 k2 => ?_, ?_⟩
          · show HasT C N _
            rw [hz]
            refine ⟨by omega, .inr ?_⟩
            rw [show N.1 + k - N.1 = k by omega, Int.emod_eq_of_lt k1 (by omega)]; exact k2
          · by_cases hC : N.2 = C
            · exact .inl ⟨hC, full hC⟩
            · refine .inr ⟨by omega, ?_, ?_⟩
              · show ¬ HasT C N _
                rw [hz]
                rintro ⟨_, h | h⟩
                · omega
                · rw [show N.1 - 1 - N.1 = C - 1 - C by omega, Int.sub_emod_right, Int.emod_eq_of_lt (by omega) (by omega)] at h; omega
              · show ¬ HasT C N _
                rw [hz]
                rintro ⟨_, h | h⟩
                · omega
                · rw [show N.1 + N.2 - N.1 = N.2 by omega, Int.emod_eq_of_lt (by omega) (by omega)] at h; omega
        refine ⟨by simp, fun x => ?_⟩
        rw [List.mem_singleton]
        constructor
        · rintro rfl; exact hone
        · intro hx
          refine hx.start hone ?_
          have hx0 : HasT C N ((x.1 + 0) % C) := hx.2.2.2.2.1 0 (by omega) (by have := hx.2.2.1; omega)
          rw [hz, show x.1 + 0 = x.1 by omega] at hx0
          rcases hx.2.2.2.2.2 with h | h
          · -- all ticks: then N is the whole
            have : HasT C N ((x.1 + (N.1 + N.2) % C) % C) := hx.2.2.2.2.1 ((N.1 + N.2) % C) (Int.emod_nonneg _ (by omega)) (by rw [h.1]; exact Int.emod_lt_of_pos _ (by omega))
            rw [hz, h.2, show (0 : Int) + (N.1 + N.2) % C = (N.1 + N.2) % C by omega, hz] at this
            rcases this.2 with h3 | h3
            · have := full (by omega); omega
            · rw [show N.1 + N.2 - N.1 = N.2 by omega] at h3
              by_cases hC : N.2 = C
              · have := full hC; omega
              · rw [Int.emod_eq_of_lt (by omega) (by omega)] at h3; omega
          · have h4 : ¬ HasT C N ((x.1 - 1) % C) := h.2.1
            rw [hz] at h4
            unfold HasT at hx0 h4
            by_cases hC : C ≤ N.2
            · exact absurd ⟨by omega, .inl hC⟩ h4
            · have a1 : (x.1 - N.1) % C < N.2 := by rcases hx0.2 with h | h <;> omega
              have a2 : ¬ (x.1 - 1 - N.1) % C < N.2 := fun h5 => h4 ⟨by omega, .inr h5⟩
              rw [emod_sub n1 n2 hx.1 hx.2.1] at a1
              by_cases he : x.1 = N.1
              · exact he
              · exfalso
                apply a2
                by_cases hx1 : x.1 = 0
                · rw [hx1, show (0 : Int) - 1 - N.1 = C - 1 - N.1 - C by omega, Int.sub_emod_right, Int.emod_eq_of_lt (by omega) (by omega)]
                  rw [hx1] at a1
                  split at a1 <;> omega
                · rw [emod_sub n1 n2 (by have := hx.1; omega) (by have := hx.2.1; omega)]
                  split at a1 <;> split <;> omega
    rw [hA]
    refine Ev.const fun n => ?_
    split
    · rename_i h0
      have : normOf C a = (0, 0) := by
        unfold normOf at h0 ⊢
        split
        · rfl
        · rename_i h3
          rw [if_neg h3] at h0
          split at h0
          · simp only at h0; omega
          · simp only at h0; omega
      simp [this]
    · simp [inB_zero, atI_zero]
  · have e : normOf C a = (0, 0) := by unfold normOf; rw [if_pos (by omega)]
    unfold ticksOf
    rw [if_neg hc, e]
    exact Ev.bind (by have := form_ (b := []) (by simp); rwa [frm_nil] at this) (Ev.const fun n => rfl)
end Go.Proofs.Ytemhdliapelleaa.Fn
