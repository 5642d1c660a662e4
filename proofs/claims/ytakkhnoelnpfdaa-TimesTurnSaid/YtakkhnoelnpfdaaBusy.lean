/- Chapter 18: from when to when bars are busy: the program's answer and the document's. -/
import Derived.Test.YtakkhnoelnpfdaaTimes
namespace Go.Circ
/-- One arc, told by its ticks. -/
theorem one_arc {C s len : Int} {T : Int → Prop} (hC : 1 ≤ C) (hs : 0 ≤ s ∧ s < C) (hl : 1 ≤ len) (hl' : len < C) (hT : ∀ k, 0 ≤ k → k < C → (T ((s + k) % C) ↔ k < len)) : Arcs C T [(s, len)] := by
  refine ⟨by simp, fun x => ?_⟩
  rw [List.mem_singleton]
  have e1 : (s - 1) % C = (s + (C - 1)) % C := by rw [show s + (C - 1) = (s - 1) + C by omega, Int.add_emod_right]
  constructor
  · rintro rfl
    refine ⟨hs.1, hs.2, hl, by simp only; omega, fun k h1 h2 => (hT k h1 (by simp only at h2; omega)).2 h2, .inr ⟨hl', ?_, ?_⟩⟩
    · simp only; rw [e1, hT _ (by omega) (by omega)]; omega
    · simp only; rw [hT _ (by omega) hl']; omega
  · rintro ⟨h1, h2, h3, h4, h5, h6⟩
    have d1 := Int.emod_nonneg (x.1 - s) (b := C) (by omega)
    have d2 := Int.emod_lt_of_pos (x.1 - s) (b := C) (by omega)
    have ed : ∀ k, (s + ((x.1 - s) % C + k)) % C = (x.1 + k) % C := fun k => by
      have : s + ((x.1 - s) % C + k) = (s + k) + (x.1 - s) % C := by omega
      rw [this, Int.add_emod, Int.emod_emod, ← Int.add_emod]; congr 1; omega
    generalize hd : (x.1 - s) % C = d at d1 d2 ed
    rcases h6 with ⟨h6, h7⟩ | ⟨h6, h7, h8⟩
    · exfalso
      have k0 := Int.emod_nonneg (len - d) (b := C) (by omega)
      have k1 := Int.emod_lt_of_pos (len - d) (b := C) (by omega)
      have h9 := h5 ((len - d) % C) k0 (by omega)
      rw [← ed] at h9
      have : (s + (d + (len - d) % C)) % C = (s + len) % C := by
        have : s + (d + (len - d) % C) = (s + d) + (len - d) % C := by omega
        rw [this, Int.add_emod, Int.emod_emod, ← Int.add_emod]; congr 1; omega
      rw [this, hT _ (by omega) hl'] at h9
      omega
    · have t0 := h5 0 (by omega) (by omega)
      rw [← ed 0, hT _ (by omega) (by omega)] at t0
      have hd0 : d = 0 := by
        by_cases h : d = 0
        · exact h
        · exfalso
          apply h7
          rw [show x.1 - 1 = x.1 + (-1) by omega, ← ed (-1), hT _ (by omega) (by omega)]
          omega
      subst hd0
      have hx : x.1 = s := by
        have h9 := ed 0
        simp only [Int.add_zero] at h9
        rw [Int.emod_eq_of_lt hs.1 hs.2, Int.emod_eq_of_lt h1 h2] at h9
        exact h9.symm
      have hlen : x.2 = len := by
        rw [hx] at h5 h8
        have a1 : ¬ x.2 < len := fun h => h8 ((hT _ (by omega) (by omega)).2 h)
        have a2 : ¬ len < x.2 := fun h => by
          have := h5 len (by omega) h
          rw [hT _ (by omega) hl'] at this
          omega
        omega
      rw [← hx, ← hlen]
theorem full_arc {C : Int} {T : Int → Prop} (hC : 1 ≤ C) (hT : ∀ j, 0 ≤ j → j < C → T j) : Arcs C T [(0, C)] := by
  have hm : ∀ z, T (z % C) := fun z => hT _ (Int.emod_nonneg _ (by omega)) (Int.emod_lt_of_pos _ (by omega))
  refine ⟨by simp, fun x => ?_⟩
  rw [List.mem_singleton]
  constructor
  · rintro rfl
    exact ⟨by simp only; omega, by simp only; omega, hC, Int.le_refl _, fun k _ _ => hm _, .inl ⟨rfl, rfl⟩⟩
  · rintro ⟨h1, h2, h3, h4, h5, h6⟩
    rcases h6 with ⟨h6, h7⟩ | ⟨h6, h7, h8⟩
    · rw [← h6, ← h7]
    · exact absurd (hm _) h8
theorem has_at {C a l s k : Int} (hC : 1 ≤ C) (h1 : 1 ≤ l) (h2 : l < C) : HasT C (a, l) ((s + k) % C) ↔ ((s - a) % C + k) % C < l := by
  unfold HasT
  simp only
  have : ((s + k) % C - a) % C = ((s - a) % C + k) % C := by
    rw [Int.sub_emod, Int.emod_emod, ← Int.sub_emod, Int.add_emod ((s - a) % C), Int.emod_emod, ← Int.add_emod]; congr 1; omega
  rw [this]
  constructor
  · rintro ⟨_, h | h⟩
    · omega
    · exact h
  · intro h; exact ⟨h1, .inr h⟩
/-- Two arcs that are not one in form lie apart. -/
theorem two_arcs {C a l b m : Int} {A : List (Int × Int)} (hC : 1 ≤ C) (ha : 0 ≤ a ∧ a < C) (hb : 0 ≤ b ∧ b < C) (hl : 1 ≤ l ∧ l < C) (hm : 1 ≤ m ∧ m < C) (hA : Arcs C (TS C [(a, l), (b, m)]) A) (hne : A.length ≠ 1) :
    l < (b - a) % C ∧ (b - a) % C + m < C := by
  have hts : ∀ j, TS C [(a, l), (b, m)] j ↔ HasT C (a, l) j ∨ HasT C (b, m) j := fun j => by simp [TS]
  have o1 := Int.emod_nonneg (b - a) (b := C) (by omega)
  have o2 := Int.emod_lt_of_pos (b - a) (b := C) (by omega)
  have hab : (a - b) % C = if (b - a) % C = 0 then 0 else C - (b - a) % C := by
    split
    · rename_i h
      have : (a - b) % C = 0 := by
        have := Int.emod_eq_zero_of_dvd (Int.dvd_neg.2 (Int.dvd_of_emod_eq_zero h))
        rwa [Int.neg_sub] at this
      exact this
    · rename_i h
      have e : a - b = -(b - a) := by omega
      have e2 : (b - a) = C * ((b - a) / C) + (b - a) % C := (Int.mul_ediv_add_emod _ _).symm
      rw [e, show -(b - a) = (C - (b - a) % C) + C * (-((b - a) / C) - 1) by rw [Int.mul_sub, Int.mul_neg]; omega, Int.add_mul_emod_self_left, Int.emod_eq_of_lt (by omega) (by omega)]
  have bad : ∀ x, Arcs C (TS C [(a, l), (b, m)]) [x] → False := fun x hx => hne (by rw [hA.unique hx]; rfl)
  have hadd : ∀ r k, 0 ≤ r → r < C → 0 ≤ k → k < C → (r + k) % C = if r + k < C then r + k else r + k - C := fun r k h1 h2 h3 h4 => emod_add h1 h2 h3 (by omega)
  generalize ho : (b - a) % C = o at o1 o2 hab
  by_cases hA1 : o < l
  · exfalso
    by_cases hL : o + m < C
    · refine bad (a, max l (o + m)) (one_arc hC ha (by omega) (by omega) fun k k0 k1 => ?_)
      rw [hts, has_at hC hl.1 hl.2, has_at hC hm.1 hm.2, Int.sub_self, hab, Int.zero_emod, hadd 0 k (by omega) (by omega) k0 k1]
      by_cases h0 : o = 0
      · rw [if_pos h0, hadd 0 k (by omega) (by omega) k0 k1, if_pos (by omega)]; omega
      · rw [if_neg h0, hadd (C - o) k (by omega) (by omega) k0 k1]
        split <;> split <;> omega
    · refine bad (0, C) (full_arc hC fun j j0 j1 => ?_)
      have ej : j = (a + (j - a) % C) % C := by rw [Int.add_emod, Int.emod_emod, ← Int.add_emod, show a + (j - a) = j by omega, Int.emod_eq_of_lt j0 j1]
      have k0 := Int.emod_nonneg (j - a) (b := C) (by omega)
      have k1 := Int.emod_lt_of_pos (j - a) (b := C) (by omega)
      rw [ej]
      generalize (j - a) % C = k at k0 k1
      rw [hts, has_at hC hl.1 hl.2, has_at hC hm.1 hm.2, Int.sub_self, hab, Int.zero_emod, hadd 0 k (by omega) (by omega) k0 k1]
      by_cases h0 : o = 0
      · omega
      · rw [if_neg h0, hadd (C - o) k (by omega) (by omega) k0 k1]
        split <;> split <;> omega
  · by_cases hB1 : o = l
    · exfalso
      by_cases hL : l + m < C
      · refine bad (a, l + m) (one_arc hC ha (by omega) (by omega) fun k k0 k1 => ?_)
        rw [hts, has_at hC hl.1 hl.2, has_at hC hm.1 hm.2, Int.sub_self, hab, Int.zero_emod, hadd 0 k (by omega) (by omega) k0 k1, if_neg (show ¬ o = 0 by omega), hadd (C - o) k (by omega) (by omega) k0 k1]
        split <;> split <;> omega
      · refine bad (0, C) (full_arc hC fun j j0 j1 => ?_)
        have ej : j = (a + (j - a) % C) % C := by rw [Int.add_emod, Int.emod_emod, ← Int.add_emod, show a + (j - a) = j by omega, Int.emod_eq_of_lt j0 j1]
        have k0 := Int.emod_nonneg (j - a) (b := C) (by omega)
        have k1 := Int.emod_lt_of_pos (j - a) (b := C) (by omega)
        rw [ej]
        generalize (j - a) % C = k at k0 k1
        rw [hts, has_at hC hl.1 hl.2, has_at hC hm.1 hm.2, Int.sub_self, hab, Int.zero_emod, hadd 0 k (by omega) (by omega) k0 k1, if_neg (show ¬ o = 0 by omega), hadd (C - o) k (by omega) (by omega) k0 k1]
        split <;> split <;> omega
    · by_cases hB2 : o + m < C
      · exact ⟨by omega, hB2⟩
      · exfalso
        refine bad (b, max m (C - o + l)) (one_arc hC hb (by omega) (by omega) fun k k0 k1 => ?_)
        rw [hts, has_at hC hl.1 hl.2, has_at hC hm.1 hm.2, Int.sub_self, ho, Int.zero_emod, hadd 0 k (by omega) (by omega) k0 k1, hadd o k (by omega) (by omega) k0 k1]
        split <;> split <;> omega
theorem normOf_idem (C : Int) (a : Int × Int) : normOf C (normOf C a) = normOf C a := by
  unfold normOf
  by_cases h : C < 1 ∨ 6000 < C ∨ a.2 < 1
  · rw [if_pos h]; simp only
    rw [if_pos (by omega)]
  · rw [if_neg h]
    split
    · simp only; rw [if_neg (by omega), if_pos (by omega)]
    · rename_i h2
      simp only
      first
        | rw [if_neg (by omega), if_neg h2, Int.emod_emod]
        | rw [Int.emod_emod]
/-- One arc's form. -/
theorem single_arcs {C : Int} (h1 : 1 ≤ C) (h2 : C ≤ 6000) {a : Int × Int} {T : Int → Prop} (ha : 1 ≤ a.2) (hT : ∀ j, 0 ≤ j → j < C → (T j ↔ HasT C a j)) : Arcs C T [normOf C a] := by
  unfold normOf
  rw [if_neg (by omega)]
  split
  · rename_i h
    exact full_arc h1 fun j j0 j1 => (hT j j0 j1).2 ⟨ha, .inl h⟩
  · rename_i h
    have m0 := Int.emod_nonneg a.1 (b := C) (by omega)
    have m1 := Int.emod_lt_of_pos a.1 (b := C) (by omega)
    refine one_arc h1 ⟨m0, m1⟩ ha (by omega) fun k k0 k1 => ?_
    rw [hT _ (Int.emod_nonneg _ (by omega)) (Int.emod_lt_of_pos _ (by omega))]
    have := has_at (C := C) (a := a.1) (l := a.2) (s := a.1 % C) (k := k) h1 ha (by omega)
    rw [this]
    have e : (a.1 % C - a.1) % C = 0 := by rw [Int.emod_sub_emod, Int.sub_self, Int.zero_emod]
    rw [e, Int.zero_add, Int.emod_eq_of_lt k0 k1]
end Go.Circ
namespace Go.Proofs.Ytakkhnoelnpfdaa.Fn
open Go Go.RowKit Go.Den Go.Circ
set_option linter.unusedVariables false
def busyOf (C : Int) (g y : Int × Int) : Int × Int :=
  if (setOf C [normOf C g, normOf C y]).length = 1 then (setOf C [normOf C g, normOf C y]).getD 0 (0, 0) else if (setOf C [normOf C g, normOf C y]).length = 0 then (0, 0)
  else normOf C ((normOf C g).1, (normOf C g).2 + gapOf C (normOf C g) (normOf C y) + (normOf C y).2)
theorem normOf_bd (C : Int) (a : Int × Int) : 0 ≤ (normOf C a).1 ∧ (normOf C a).1 ≤ 6000 ∧ 0 ≤ (normOf C a).2 ∧ (normOf C a).2 ≤ 6000 := by
  by_cases h : 1 ≤ C ∧ C ≤ 6000
  · have := normOf_at h.1 a; omega
  · have : normOf C a = (0, 0) := by unfold normOf; rw [if_pos (by omega)]
    rw [this]; simp
theorem gapOf_bd (C : Int) (a b : Int × Int) : 0 ≤ gapOf C a b ∧ gapOf C a b ≤ 6000 := by
  unfold gapOf
  split
  · omega
  · rename_i h
    by_cases hc : 1 ≤ C ∧ C ≤ 6000
    · have := Int.emod_nonneg ((normOf C b).1 - (normOf C a).1 - (normOf C a).2) (b := C) (by omega)
      have := Int.emod_lt_of_pos ((normOf C b).1 - (normOf C a).1 - (normOf C a).2) (b := C) (by omega)
      omega
    · exfalso
      apply h
      left
      unfold normOf; rw [if_pos (by omega)]
theorem busy_ (C : Int) (nm : ByteArray) (g y : Int × Int) : Ev (fun n => times_Busy n (C, nm, g.1, g.2, y)) (busyOf C g y) := by
  unfold times_Busy
  refine Ev.bindS (fun n => norm_ n C g) ?_
  refine Ev.bindS (fun n => norm_ n C y) ?_
  refine Ev.bind (set_ C _ (by simp)) ?_
  unfold busyOf
  have b1 := normOf_bd C g
  have b2 := normOf_bd C y
  have b3 := gapOf_bd C (normOf C g) (normOf C y)
  generalize setOf C [normOf C g, normOf C y] = A
  by_cases h1 : A.length = 1
  · rw [if_pos h1]
    refine Ev.yes (by simp [h1]) ?_
    refine Ev.yes (by rw [h1]; rfl) ?_
    exact Ev.ret _
  · rw [if_neg h1]
    refine Ev.no (by simp; omega) ?_
    by_cases h0 : A.length = 0
    · rw [if_pos h0]
      exact Ev.yes (by simp [h0]) (Ev.ret _)
    · rw [if_neg h0]
      refine Ev.no (by simp; intro e; exact h0 (by simp [e])) ?_
      refine Ev.bindS (fun n => gap_ n C (normOf C g) (normOf C y)) ?_
      rw [wrap64_id (n := (normOf C g).2 + gapOf C (normOf C g) (normOf C y)) (by omega) (by omega), wrap64_id (by omega) (by omega)]
      exact Ev.bindS (fun n => norm_ n C _) (Ev.ret _)
theorem setOf_two (C : Int) (g y : Int × Int) : setOf C [normOf C g, normOf C y] = setOf C [g, y] := by
  by_cases hc : 1 ≤ C ∧ C ≤ 6000
  · exact (setOf_arcs hc.1 hc.2 _).eq hc.1 (setOf_arcs hc.1 hc.2 _) fun j _ _ => normOf_ts hc.1 hc.2 [g, y] j
  · rw [setOf_out (by omega), setOf_out (by omega)]
theorem normOf_pos {C : Int} (h1 : 1 ≤ C) (h2 : C ≤ 6000) {a : Int × Int} (ha : 1 ≤ a.2) : 1 ≤ (normOf C a).2 := by
  unfold normOf; rw [if_neg (by omega)]; split <;> simp only <;> omega
set_option maxHeartbeats 1000000 in
theorem rbusy_ (C : Int) (nm : ByteArray) (g y : Int × Int) : Ev (fun n => ref18_Busy n (C, nm, g.1, g.2, y)) (busyOf C g y) := by
  unfold ref18_Busy
  refine Ev.bind (rset_ C _ (by simp)) ?_
  rw [formOf_set]
  unfold busyOf
  rw [setOf_two]
  by_cases h1 : (setOf C [g, y]).length = 1
  · rw [if_pos h1]
    refine Ev.yes (by simp [h1]) ?_
    refine Ev.yes (by rw [h1]; rfl) ?_
    exact Ev.ret _
  · rw [if_neg h1]
    refine Ev.no (beq_eq_false_iff_ne.2 fun e => h1 (by have e' : (((setOf C [g, y]).length : Nat) : Int) = 1 := e; omega)) ?_
    by_cases hc : 1 ≤ C ∧ C ≤ 6000
    · have hA := setOf_arcs hc.1 hc.2 [g, y]
      have hts : ∀ j, TS C [g, y] j ↔ HasT C g j ∨ HasT C y j := fun j => by simp [TS]
      by_cases hg : 1 ≤ g.2
      · refine Ev.no (decide_eq_false (show ¬ g.2 < 1 by omega)) ?_
        simp only [letJ]
        by_cases hy : 1 ≤ y.2
        · refine Ev.no (decide_eq_false (show ¬ y.2 < 1 by omega)) ?_
          refine Ev.bindS (fun n => rcycle_ n C) ?_
          rw [decide_eq_true hc]
          simp only [Bool.not_true, cond_false]
          have n1 := normOf_at hc.1 g
          have n2 := normOf_at hc.1 y
          have p1 := normOf_pos hc.1 hc.2 hg
          have p2 := normOf_pos hc.1 hc.2 hy
          have hA' : Arcs C (TS C [normOf C g, normOf C y]) (setOf C [g, y]) := by rw [← setOf_two]; exact setOf_arcs hc.1 hc.2 _
          have full1 : (normOf C g).2 < C := by
            rcases Int.lt_or_le (normOf C g).2 C with h | h
            · exact h
            · exfalso
              have := full_arc (T := TS C [normOf C g, normOf C y]) hc.1 fun j _ _ => ⟨_, by simp, p1, .inl h⟩
              exact h1 (by rw [hA'.unique this]; rfl)
          have full2 : (normOf C y).2 < C := by
            rcases Int.lt_or_le (normOf C y).2 C with h | h
            · exact h
            · exfalso
              have := full_arc (T := TS C [normOf C g, normOf C y]) hc.1 fun j _ _ => ⟨normOf C y, by simp, p2, .inl h⟩
              exact h1 (by rw [hA'.unique this]; rfl)
          have h0 : ¬ (setOf C [g, y]).length = 0 := fun h0 => by
            have he := List.eq_nil_of_length_eq_zero h0
            have ht : TS C (setOf C [g, y]) (g.1 % C) := by
              rw [setOf_ts hc.1 hc.2 _ (Int.emod_nonneg _ (by omega)) (Int.emod_lt_of_pos _ (by omega))]
              refine ⟨g, by simp, hg, ?_⟩
              rw [Int.emod_sub_emod, Int.sub_self, Int.zero_emod]; omega
            rw [he] at ht
            obtain ⟨_, h, _⟩ := ht
            cases h
          rw [if_neg h0]
          obtain ⟨q1, q2⟩ := two_arcs hc.1 ⟨n1.1, n1.2.1⟩ ⟨n2.1, n2.2.1⟩ ⟨p1, full1⟩ ⟨p2, full2⟩ hA' h1
          have hgap : gapOf C (normOf C g) (normOf C y) = ((normOf C y).1 - (normOf C g).1) % C - (normOf C g).2 := by
            unfold gapOf
            rw [normOf_idem, normOf_idem, if_neg (by omega)]
            have e1 := Int.sub_emod ((normOf C y).1 - (normOf C g).1) (normOf C g).2 C
            rw [Int.emod_eq_of_lt (a := (normOf C g).2) (by omega) (by omega)] at e1
            have e2 := Int.emod_lt_of_pos ((normOf C y).1 - (normOf C g).1) (b := C) (by omega)
            rw [e1]
            exact Int.emod_eq_of_lt (by omega) (by omega)
          rw [hgap]
          refine Ev.bind (rnorm_ C g) ?_
          refine Ev.bind (rnorm_ C y) ?_
          generalize normOf C g = gn at *
          generalize normOf C y = yn at *
          obtain ⟨a, l⟩ := gn
          obtain ⟨b, m⟩ := yn
          simp only at *
          have o1 := Int.emod_nonneg (b - a) (b := C) (by omega)
          have hmod : ∀ k : Int, 0 ≤ k → k < C → ((a + k) % C = (b + m) % C ↔ k = (b - a) % C + m) := fun k k0 k1 => by
            have e1 : (b + m) % C = (a + ((b - a) % C + m)) % C := by
              rw [show a + ((b - a) % C + m) = (b - a) % C + (a + m) by omega, Int.emod_add_emod]; congr 1; omega
            rw [e1]
            constructor
            · intro h
              have := Int.emod_emod_of_dvd
              have h3 : (k - ((b - a) % C + m)) % C = 0 := by
                have := Int.sub_emod (a + k) (a + ((b - a) % C + m)) C
                rw [h, Int.sub_self, Int.zero_emod] at this
                rw [← this]; congr 1; omega
              have h4 : C ∣ (k - ((b - a) % C + m)) := Int.dvd_of_emod_eq_zero h3
              obtain ⟨q, hq⟩ := h4
              have : q = 0 := by
                rcases Int.lt_trichotomy q 0 with h | h | h
                · have : C * q ≤ C * (-1) := Int.mul_le_mul_of_nonneg_left (by omega) (by omega)
                  omega
                · exact h
                · have : C * 1 ≤ C * q := Int.mul_le_mul_of_nonneg_left (by omega) (by omega)
                  omega
              subst this
              omega
            · intro h; rw [h]
          generalize hS : (b - a) % C + m = S at hmod q2
          have hS1 : 1 ≤ S := by omega
          obtain ⟨N, rfl⟩ := Int.eq_ofNat_of_zero_le (show 0 ≤ S by omega)
          refine Ev.loopB (st := fun k => (C, (k : Int), (0 : Int), (0 : Int), a, l, b, m)) N (C, (N : Int), (0 : Int), (0 : Int), a, l) rfl (fun k hk => ?_) ?_ ?_
          · refine Ev.const fun n => ?_
            have w1 : wrap64 (a + (k : Int)) = a + k := wrap64_id (by omega) (by omega)
            have w2 : wrap64 (b + m) = b + m := wrap64_id (by omega) (by omega)
            simp only [letJ, w1, w2, rmod_ n _ C hc.1 (by omega), Option.bind_some, wrap_succ (show k < 9223372036854775807 by omega)]
            by_cases he : (a + (k : Int)) % C = (b + m) % C
            · have := (hmod k (by omega) (by omega)).1 he
              omega
            · have : ((a + (k : Int)) % C == (b + m) % C) = false := by simpa using he
              rw [this]; rfl
          · refine Ev.const fun n => ?_
            have w1 : wrap64 (a + (N : Int)) = a + N := wrap64_id (by omega) (by omega)
            have w2 : wrap64 (b + m) = b + m := wrap64_id (by omega) (by omega)
            simp only [letJ, w1, w2, rmod_ n _ C hc.1 (by omega), Option.bind_some]
            have he := (hmod N (by omega) (by omega)).2 rfl
            have : ((a + (N : Int)) % C == (b + m) % C) = true := by simpa using he
            have h2 : ((N : Int) == 0) = false := by simp; omega
            rw [this, h2]; rfl
          · refine Ev.bind (rnorm_ C (a, (N : Int))) ?_
            refine (Ev.ret _).of_eq ?_
            congr 2
            omega
        · exfalso
          have := single_arcs hc.1 hc.2 (T := TS C [g, y]) hg fun j _ _ => by
            rw [hts]
            constructor
            · rintro (h | h)
              · exact h
              · exact absurd h.1 hy
            · exact .inl
          exact h1 (by rw [hA.unique this]; rfl)
      · refine Ev.yes (decide_eq_true (show g.2 < 1 by omega)) ?_
        by_cases hy : 1 ≤ y.2
        · exfalso
          have := single_arcs hc.1 hc.2 (T := TS C [g, y]) hy fun j _ _ => by
            rw [hts]
            constructor
            · rintro (h | h)
              · exact absurd h.1 hg
              · exact h
            · exact .inr
          exact h1 (by rw [hA.unique this]; rfl)
        · have e : setOf C [g, y] = [] := by
            cases hq : setOf C [g, y] with
            | nil => rfl
            | cons x r =>
              exfalso
              have hx := (hA.mem x).1 (by rw [hq]; simp)
              have := hx.2.2.2.2.1 0 (by omega) (by have := hx.2.2.1; omega)
              rw [hts] at this
              rcases this with h | h
              · exact hg h.1
              · exact hy h.1
          rw [e]
          simp only [List.length_nil, if_true]
          refine Ev.bind (rnorm_ C y) ((Ev.ret _).of_eq ?_)
          unfold normOf; rw [if_pos (by omega)]
    · have e : setOf C [g, y] = [] := setOf_out (by omega) _
      have hn : ∀ a, normOf C a = (0, 0) := fun a => by unfold normOf; rw [if_pos (by omega)]
      rw [e]
      simp only [List.length_nil, if_true]
      refine Ev.ite (fun _ => Ev.bind (rnorm_ C y) ((Ev.ret _).of_eq (hn y))) (fun _ => ?_)
      simp only [letJ]
      refine Ev.ite (fun _ => Ev.bind (rnorm_ C g) ((Ev.ret _).of_eq (hn g))) (fun _ => ?_)
      refine Ev.bindS (fun n => rcycle_ n C) ?_
      rw [decide_eq_false hc]
      exact Ev.bind (rnorm_ C g) ((Ev.ret _).of_eq (hn g))
end Go.Proofs.Ytakkhnoelnpfdaa.Fn
