/- Chapter 18: from when to when bars are busy: the program's answer and the document's. -/
import Derived.Test.YtakkhnoelnpfdaaGreatTimes
namespace Go.Circ
/-- One arc, told by its ticks. -/
theorem one_arc {C s len : Int} {T : Int → Prop} (hC : 1 ≤ C) (hs : 0 ≤ s ∧ s < C) (hl : 1 ≤ len) (hl' : len < C) (hT : ∀ k, 0 ≤ k → k < C → (T ((s + k) % C) ↔ k < len)) : Arcs C T [(s, len)] := by
  refine ⟨by simp, fun x => ?_⟩
  rw [List.mem_singleton]
  have e1 : (s - 1) % C = (s + (C - 1)) % C := by rw [show s + (C - 1) = (s - 1) + C by omega, Int.add_emod_right]
  constructor
  · rintro rfl
    refine ⟨hs.1, hs.2, hl, by simp only; omega, fun k h1 h2 => (hT k h1 (by simp only at h2; omega)).2 h2, .inr ⟨hl', ?_, ?_⟩⟩
    · simp only; rw [e1, hT _ (by omega) (by omega)]; omega
    · simp only; rw [hT _ (by omega) hl']; omega
  · rintro ⟨h1, h2, h3, h4, h5, h6⟩
    have d1 := Int.emod_nonneg (x.1 - s) (b := C) (by omega)
    have d2 := Int.emod_lt_of_pos (x.1 - s) (b := C) (by omega)
    have ed : ∀ k, (s + ((x.1 - s) % C + k)) % C = (x.1 + k) % C := fun k => by
      have : s + ((x.1 - s) % C + k) = (s + k) + (x.1 - s) % C := by omega
      rw [this, Int.add_emod, Int.emod_emod, ← Int.add_emod]; congr 1; omega
    generalize hd : (x.1 - s) % C = d at d1 d2 ed
    rcases h6 with ⟨h6, h7⟩ | ⟨h6, h7, h8⟩
    · exfalso
      have k0 := Int.emod_nonneg (len - d) (b := C) (by omega)
      have k1 := Int.emod_lt_of_pos (len - d) (b := C) (by omega)
      have h9 := h5 ((len - d) % C) k0 (by omega)
      rw [← ed] at h9
      have : (s + (d + (len - d) % C)) % C = (s + len) % C := by
        have : s + (d + (len - d) % C) = (s + d) + (len - d) % C := by omega
        rw [this, Int.add_emod, Int.emod_emod, ← Int.add_emod]; congr 1; omega
      rw [this, hT _ (by omega) hl'] at h9
      omega
    · have t0 := h5 0 (by omega) (by omega)
      rw [← ed 0, hT _ (by omega) (by omega)] at t0
      have hd0 : d = 0 := by
        by_cases h : d = 0
        · exact h
        · exfalso
          apply h7
          rw [show x.1 - 1 = x.1 + (-1) by omega, ← ed (-1), hT _ (by omega) (by omega)]
          omega
      subst hd0
      have hx : x.1 = s := by
        have h9 := ed 0
        simp only [Int.add_zero] at h9
        rw [Int.emod_eq_of_lt hs.1 hs.2, Int.emod_eq_of_lt h1 h2] at h9
        exact h9.symm
      have hlen : x.2 = len := by
        rw [hx] at h5 h8
        have a1 : ¬ x.2 < len := fun h => h8 ((hT _ (by omega) (by omega)).2 h)
        have a2 : ¬ len < x.2 := fun h => by
          have := h5 len (by omega) h
          rw [hT _ (by omega) hl'] at this
          omega
        omega
      rw [← hx, ← hlen]
theorem full_arc {C : Int} {T : Int → Prop} (hC : 1 ≤ C) (hT : ∀ j, 0 ≤ j → j < C → T j) : Arcs C T [(0, C)] := by
  have hm : ∀ z, T (z % C) := fun z => hT _ (Int.emod_nonneg _ (by omega)) (Int.emod_lt_of_pos _ (by omega))
  refine ⟨by simp, fun x => ?_⟩
  rw [List.mem_singleton]
  constructor
  · rintro rfl
    exact ⟨by simp only; omega, by simp only; omega, hC, Int.le_refl _, fun k _ _ => hm _, .inl ⟨rfl, rfl⟩⟩
  · rintro ⟨h1, h2, h3, h4, h5, h6⟩
    rcases h6 with ⟨h6, h7⟩ | ⟨h6, h7, h8⟩
    · rw [← h6, ← h7]
    · exact absurd (hm _) h8
theorem has_at {C a l s k : Int} (hC : 1 ≤ C) (h1 : 1 ≤ l) (h2 : l < C) : HasT C (a, l) ((s + k) % C) ↔ ((s - a) % C + k) % C < l := by
  unfold HasT
  simp only
  have : ((s + k) % C - a) % C = ((s - a) % C + k) % C := by
    rw [Int.sub_emod, Int.emod_emod, ← Int.sub_emod, Int.add_emod ((s - a) % C), Int.emod_emod, ← Int.add_emod]; congr 1; omega
  rw [this]
  constructor
  · rintro ⟨_, h | h⟩
    · omega
    · exact h
  · intro h; exact ⟨h1, .inr h⟩
/-- Two arcs that are not one in form lie apart. -/
theorem two_arcs {C a l b m : Int} {A : List (Int × Int)} (hC : 1 ≤ C) (ha : 0 ≤ a ∧ a < C) (hb : 0 ≤ b ∧ b < C) (hl : 1 ≤ l ∧ l < C) (hm : 1 ≤ m ∧ m < C) (hA : Arcs C (TS C [(a, l), (b, m)]) A) (hne : A.length ≠ 1) :
    l < (b - a) % C ∧ (b - a) % C + m < C := by
  have hts : ∀ j, TS C [(a, l), (b, m)] j ↔ HasT C (a, l) j ∨ HasT C (b, m) j := fun j => by simp [TS]
  have o1 := Int.emod_nonneg (b - a) (b := C) (by omega)
  have o2 := Int.emod_lt_of_pos (b - a) (b := C) (by omega)
  have hab : (a - b) % C = if (b - a) % C = 0 then 0 else C - (b - a) % C := by
    split
    · rename_i h
      have : (a - b) % C = 0 := by
        have := Int.emod_eq_zero_of_dvd (Int.dvd_neg.2 (Int.dvd_of_emod_eq_zero h))
        rwa [Int.neg_sub] at this
      exact this
    · rename_i h
      have e : a - b = -(b - a) := by omega
      have e2 : (b - a) = C * ((b - a) / C) + (b - a) % C := (Int.mul_ediv_add_emod _ _).symm
      rw [e, show -(b - a) = (C - (b - a) % C) + C * (-((b - a) / C) - 1) by rw [Int.mul_sub, Int.mul_neg]; omega, Int.add_mul_emod_self_left, Int.emod_eq_of_lt (by omega) (by omega)]
  have bad : ∀ x, Arcs C (TS C [(a, l), (b, m)]) [x] → False := fun x hx => hne (by rw [hA.unique hx]; rfl)
  have hadd : ∀ r k, 0 ≤ r → r < C → 0 ≤ k → k < C → (r + k) % C = if r + k < C then r + k else r + k - C := fun r k h1 h2 h3 h4 => emod_add h1 h2 h3 (by omega)
  generalize ho : (b - a) % C = o at o1 o2 hab
  by_cases hA1 : o < l
  · exfalso
    by_cases hL : o + m < C
    · refine bad (a, max l (o + m)) (one_arc hC ha (by omega) (by omega) fun k k0 k1 => ?_)
      rw [hts, has_at hC hl.1 hl.2, has_at hC hm.1 hm.2, Int.sub_self, hab, Int.zero_emod, hadd 0 k (by omega) (by omega) k0 k1]
      by_cases h0 : o = 0
      · rw [if_pos h0, hadd 0 k (by omega) (by omega) k0 k1, if_pos (by omega)]; omega
      · rw [if_neg h0, hadd (C - o) k (by omega) (by omega) k0 k1]
        split <;> split <;> omega
    · refine bad (0, C) (full_arc hC fun j j0 j1 => ?_)
      have ej : j = (a + (j - a) % C) % C := by rw [Int.add_emod, Int.emod_emod, ← Int.add_emod, show a + (j - a) = j by omega, Int.emod_eq_of_lt j0 j1]
      have k0 := Int.emod_nonneg (j - a) (b := C) (by omega)
      have k1 := Int.emod_lt_of_pos (j - a) (b := C) (by omega)
      rw [ej]
      generalize (j - a) % C = k at k0 k1
      rw [hts, has_at hC hl.1 hl.2, has_at hC hm.1 hm.2, Int.sub_self, hab, Int.zero_emod, hadd 0 k (by omega) (by omega) k0 k1]
      by_cases h0 : o = 0
      · omega
      · rw [if_neg h0, hadd (C - o) k (by omega) (by omega) k0 k1]
        split <;> split <;> omega
  · by_cases hB1 : o = l
    · exfalso
      by_cases hL : l + m < C
      · refine bad (a, l + m) (one_arc hC ha (by omega) (by omega) fun k k0 k1 => ?_)
        rw [hts, has_at hC hl.1 hl.2, has_at hC hm.1 hm.2, Int.sub_self, hab, Int.zero_emod, hadd 0 k (by omega) (by omega) k0 k1, if_neg (show ¬ o = 0 by omega), hadd (C - o) k (by omega) (by omega) k0 k1]
        split <;> split <;> omega
      · refine bad (0, C) (full_arc hC fun j j0 j1 => ?_)
        have ej : j = (a + (j - a) % C) % C := by rw [Int.add_emod, Int.emod_emod, ← Int.add_emod, show a + (j - a) = j by omega, Int.emod_eq_of_lt j0 j1]
        have k0 := Int.emod_nonneg (j - a) (b := C) (by omega)
        have k1 := Int.emod_lt_of_pos (j - a) (b := C) (by omega)
        rw [ej]
        generalize (j - a) % C = k at k0 k1
        rw [hts, has_at hC hl.1 hl.2, has_at hC hm.1 hm.2, Int.sub_self, hab, Int.zero_emod, hadd 0 k (by omega) (by omega) k0 k1, if_neg (show ¬ o = 0 by omega), hadd (C - o) k (by omega) (by omega) k0 k1]
        split <;> split <;> omega
    · by_cases hB2 : o + m < C
      · exact ⟨by omega, hB2⟩
      · exfalso
        refine bad (b, max m (C - o + l)) (one_arc hC hb (by omega) (by omega) fun k k0 k1 => ?_)
        rw [hts, has_at hC hl.1 hl.2, has_at hC hm.1 hm.2, Int.sub_self, ho, Int.zero_emod, hadd 0 k (by omega) (by omega) k0 k1, hadd o k (by omega) (by omega) k0 k1]
        split <;> split <;> omega
theorem normOf_idem (C : Int) (a : Int × Int) : normOf C (normOf C a) = normOf C a := by
  unfold normOf
  by_cases h : C < 1 ∨ 6000 < C ∨ a.2 < 1
  · rw [if_pos h]; simp only
    rw [if_pos (by omega)]
  · rw [if_neg h]
    split
    · simp only; rw [if_neg (by omega), if_pos (by omega)]
    · rename_i h2
      simp only
      first
        | rw [if_neg (by omega), if_neg h2, Int.emod_emod]
        | rw [Int.emod_emod]
/-- One arc's form. -/
theorem single_arcs {C : Int} (h1 : 1 ≤ C) (h2 : C ≤ 6000) {a : Int × Int} {T : Int → Prop} (ha : 1 ≤ a.2) (hT : ∀ j, 0 ≤ j → j < C → (T j ↔ HasT C a j)) : Arcs C T [normOf C a] := by
  unfold normOf
  rw [if_neg (by omega)]
  split
  · rename_i h
    exact full_arc h1 fun j j0 j1 => (hT j j0 j1).2 ⟨ha, .inl h⟩
  · rename_i h
    have m0 := Int.emod_nonneg a.1 (b := C) (by omega)
    have m1 := Int.emod_lt_of_pos a.1 (b := C) (by omega)
    refine one_arc h1 ⟨m0, m1⟩ ha (by omega) fun k k0 k1 => ?_
    rw [hT _ (Int.emod_nonneg _ (by omega)) (Int.emod_lt_of_pos _ (by omega))]
    have := has_at (C := C) (a := a.1) (l := a.2) (s := a.1 % C) (k := k) h1 ha (by omega)
    rw [this]
    have e : (a.1 % C - a.1) % C = 0 := by rw [Int.emod_sub_emod, Int.sub_self, Int.zero_emod]
    rw [e, Int.zero_add, Int.emod_eq_of_lt k0 k1]
end Go.Circ
namespace Go.Proofs.YtakkhnoelnpfdaaGreat.Fn
open Go Go.RowKit Go.Den Go.Circ
set_option linter.unusedVariables false
def busyOf (C : Int) (g y : Int × Int) : Int × Int :=
  if (setOf C [normOf C g, normOf C y]).length = 1 then (setOf C [normOf C g, normOf C y]).getD 0 (0, 0) else if (setOf C [normOf C g, normOf C y]).length = 0 then (0, 0)
  else normOf C ((normOf C g).1, (normOf C g).2 + gapOf C (normOf C g) (normOf C y) + (normOf C y).2)
theorem normOf_bd (C : Int) (a : Int × Int) : 0 ≤ (normOf C a).1 ∧ (normOf C a).1 ≤ 6000 ∧ 0 ≤ (normOf C a).2 ∧ (normOf C a).2 ≤ 6000 := by
  by_cases h : 1 ≤ C ∧ C ≤ 6000
  · have := normOf_at h.1 a; omega
  · have : normOf C a = (0, 0) := by unfold normOf; rw [if_pos (by omega)]
    rw [this]; simp
theorem gapOf_bd (C : Int) (a b : Int × Int) : 0 ≤ gapOf C a b ∧ gapOf C a b ≤ 6000 := by
  unfold gapOf
  split
  · omega
  · rename_i h
    by_cases hc : 1 ≤ C ∧ C ≤ 6000
    · have := Int.emod_nonneg ((normOf C b).1 - (normOf C a).1 - (normOf C a).2) (b := C) (by omega)
      have := Int.emod_lt_of_pos ((normOf C b).1 - (normOf C a).1 - (normOf C a).2) (b := C) (by omega)
      omega
    · exfalso
      apply h
      left
      unfold normOf; rw [if_pos (by omega)]
theorem busy_ (C : Int) (nm : ByteArray) (g y : Int × Int) : Ev (fun n => times_Busy n (C, nm, g.1, g.2, y)) (busyOf C g y) := by
  unfold times_Busy
  refine Ev.bindS (fun n => norm_ n C g) ?_
  refine Ev.bindS (fun n => norm_ n C y) ?_
  refine Ev.bind (set_ C _ (by simp)) ?_
  unfold busyOf
  have b1 := normOf_bd C g
  have b2 := normOf_bd C y
  have b3 := gapOf_bd C (normOf C g) (normOf C y)
  generalize setOf C [normOf C g, normOf C y] = A
  by_cases h1 : A.length = 1
  · rw [if_pos h1]
    refine Ev.yes (by simp [h1]) ?_
    refine Ev.yes (by rw [h1]; rfl) ?_
    exact Ev.ret _
  · rw [if_neg h1]
    refine Ev.no (by simp; omega) ?_
    by_cases h0 : A.length = 0
    · rw [if_pos h0]
      exact Ev.yes (by simp [h0]) (Ev.ret _)
    · rw [if_neg h0]
      refine Ev.no (by simp; intro e; exact h0 (by simp [e])) ?_
      refine Ev.bindS (fun n => gap_ n C (normOf C g) (normOf C y)) ?_
      rw [wrap64_id (n := (normOf C g).2 + gapOf C (normOf C g) (normOf C y)) (by omega) (by omega), wrap64_id (by omega) (by omega)]
      exact Ev.bindS (fun n => norm_ n C _) (Ev.ret _)
theorem setOf_two (C : Int) (g y : Int × Int) : setOf C [normOf C g, normOf C y] = setOf C [g, y] := by
  by_cases hc : 1 ≤ C ∧ C ≤ 6000
  · exact (setOf_arcs hc.1 hc.2 _).eq hc.1 (setOf_arcs hc.1 hc.2 _) fun j _ _ => normOf_ts hc.1 hc.2 [g, y] j
  · rw [setOf_out (by omega), setOf_out (by omega)]
theorem normOf_pos {C : Int} (h1 : 1 ≤ C) (h2 : C ≤ 6000) {a : Int × Int} (ha : 1 ≤ a.2) : 1 ≤ (normOf C a).2 := by
  unfold normOf; rw [if_neg (by omega)]; split <;> simp only <;> omega
end Go.Proofs.YtakkhnoelnpfdaaGreat.Fn
