/- Remainders and quotients by doubling, of numbers by parts. -/
import Derived.Test.YtiildimlelphhaaGreatDoorPartsD
namespace Go.Proofs.YtiildimlelphhaaGreatDoor.Fn
set_option linter.unusedVariables false
open Go Go.RowKit Go.Den Go.Circ

def pw (b : Nat) : Nat → Nat
  | 0 => b
  | k + 1 => 2 * pw b k
theorem pw_eq (b k : Nat) : pw b k = b * 2 ^ k := by
  induction k with
  | zero => simp [pw]
  | succ k ih => simp only [pw]; rw [ih, Nat.pow_succ, ← Nat.mul_assoc, Nat.mul_comm 2]; rw [Nat.mul_right_comm, Nat.mul_assoc]
theorem pw_mono (b : Nat) {i k : Nat} (h : i ≤ k) : pw b i ≤ pw b k := by
  induction k with
  | zero => rw [show i = 0 by omega]; exact Nat.le_refl _
  | succ k ih =>
    by_cases e : i = k + 1
    · rw [e]; exact Nat.le_refl _
    · have := ih (by omega)
      simp only [pw]; omega
theorem pw_pos {b : Nat} (h : 0 < b) (k : Nat) : 0 < pw b k := Nat.lt_of_lt_of_le h (pw_mono b (Nat.zero_le k))
theorem pw_one {b : Nat} (h : 0 < b) (k : Nat) : 2 ^ k ≤ pw b k := by rw [pw_eq]; exact Nat.le_mul_of_pos_left _ h
theorem pw_few {b k x : Nat} (h : 0 < b) (h1 : pw b k ≤ x) (h2 : x < 65536 ^ 20) : k < 320 := by
  have h3 := Nat.lt_of_le_of_lt (Nat.le_trans (pw_one h k) h1) h2
  rw [show (65536 : Nat) = 2 ^ 16 from rfl, ← Nat.pow_mul] at h3
  have h4 := (Nat.pow_lt_pow_iff_right (by decide)).1 h3
  clear h3 h1 h2
  omega
theorem val20 {a : List Nat} (ha : Okd a) (la : a.length ≤ 20) : val a < 65536 ^ 20 := Nat.lt_of_lt_of_le (val_lt ha) (Nat.pow_le_pow_right (by decide) la)
def Dls (ps : List (List Nat)) : List (List Int) := ps.map Dl
theorem Dls_len (ps : List (List Nat)) : (Dls ps).length = ps.length := by simp [Dls]
theorem Dls_snoc (ps : List (List Nat)) (c : List Nat) : Dls ps ++ [Dl c] = Dls (ps ++ [c]) := by simp [Dls]
theorem atI_Dls (ps : List (List Nat)) (i : Nat) : atI [] (Dls ps) (i : Int) = Dl (ps.getD i []) := by
  rw [atI_nat]
  unfold Dls
  simp only [List.getD_eq_getElem?_getD, List.getElem?_map]
  cases ps[i]? <;> rfl
/-- The doublings of `b`. -/
def Rows (b : Nat) (ps : List (List Nat)) : Prop := ∀ i, i < ps.length → Okd (ps.getD i []) ∧ val (ps.getD i []) = pw b i ∧ (ps.getD i []).length ≤ 1000
theorem Rows_snoc {b : Nat} {ps : List (List Nat)} {c : List Nat} (h : Rows b ps) (hc : Okd c) (hv : val c = pw b ps.length) (hl : c.length ≤ 1000) : Rows b (ps ++ [c]) := by
  intro i hi
  rw [List.length_append, List.length_singleton] at hi
  by_cases e : i < ps.length
  · have : (ps ++ [c]).getD i [] = ps.getD i [] := by rw [List.getD_eq_getElem?_getD, List.getElem?_append_left e, ← List.getD_eq_getElem?_getD]
    rw [this]; exact h i e
  · have e1 : i = ps.length := by omega
    subst e1
    have : (ps ++ [c]).getD ps.length [] = c := by rw [List.getD_eq_getElem?_getD, List.getElem?_append_right (Nat.le_refl _)]; simp
    rw [this]; exact ⟨hc, hv, hl⟩
theorem ordF_le (x y : Nat) : decide (ordF x y ≤ 0) = decide (x ≤ y) := by
  apply decide_eq_decide.2
  unfold ordF
  by_cases h : x < y
  · rw [if_pos h]; omega
  · rw [if_neg h]
    by_cases h2 : y < x
    · rw [if_pos h2]; omega
    · rw [if_neg h2]; omega
theorem ordF_ge (x y : Nat) : decide (0 ≤ ordF x y) = decide (y ≤ x) := by
  apply decide_eq_decide.2
  unfold ordF
  by_cases h : x < y
  · rw [if_pos h]; omega
  · rw [if_neg h]
    by_cases h2 : y < x
    · rw [if_pos h2]; omega
    · rw [if_neg h2]; omega
theorem twice_ (a : List Nat) (ha : Okd a) (la : a.length ≤ 10000) : ∃ c, (Okd c ∧ val c = 2 * val a ∧ c.length ≤ a.length + 1) ∧ Ev (fun n => ref02_twice n (Dl a)) (Dl c) := by
  obtain ⟨c, ⟨h1, h2, h3⟩, h4⟩ := plus_ a a ha ha la la
  exact ⟨c, ⟨h1, by rw [h2]; omega, by rw [Nat.max_self] at h3; exact h3⟩, Ev.bind h4 (Ev.ret _)⟩
/-- What is taken away, trimmed. -/
theorem less_ (a b : List Nat) (ha : Okd a) (hb : Okd b) (la : a.length ≤ 100) (hle : val b ≤ val a) : ∃ c d, (Okd d ∧ val d = val a - val b ∧ d.length ≤ a.length) ∧
    Ev (fun n => ref01_Minus n (Dl a, Dl b)) (Dl c) ∧ Ev (fun n => ref02_trim n (Dl c)) (Dl d) := by
  obtain ⟨c, ⟨h1, h2, h3⟩, h4⟩ := minus_ a b ha hb (by omega) hle
  obtain ⟨d, ⟨k1, k2, k3⟩, k4⟩ := trim_ c h1 (by omega)
  exact ⟨c, d, ⟨k1, by rw [k2, h2], by omega⟩, h4, k4⟩
theorem wrap_pm (i : Nat) (hi : i < 1000) : wrap64 (((i : Nat) : Int) - 1) = (i : Int) - 1 := wrap64_id (by omega) (by omega)
theorem fit24S {k : Nat} (h : k ≤ 1000) (d : List Int) : fitB (k + [d].length) 24 = true := fit24 (by simp; omega)
theorem dbl_rest (a b : List Nat) (ha : Okd a) (hb : Okd b) (la : a.length ≤ 20) (lb : b.length ≤ 20) (h0 : 0 < val b) : ∃ ps : List (List Nat),
    (Rows (val b) ps ∧ val a < pw (val b) ps.length ∧ ps.length ≤ 320 ∧ (0 < ps.length → pw (val b) (ps.length - 1) ≤ val a)) ∧
    Ev (fun n => iterL (Y := ((List Int) × List (List Int))) n (fun (x4 : (List Int) × (List Int) × List (List Int)) =>
    let e0 := x4.2.1 :: []
    (ref01_Order n (x4.2.1, x4.1)).bind fun y5 =>
    bif decide (y5 ≤ 0) then
      bif fitB (x4.2.2.length + e0.length) 24 then
        (ref02_twice n x4.2.1).bind fun y6 =>
        some (.inl (x4.1, y6, x4.2.2 ++ e0))
      else
      none
    else
    some (.inr (x4.1, x4.2.2))) (Dl a, Dl b, [])) ((Dl a, Dls ps)) := by
  have loop := Ev.iterP (Y := ((List Int) × List (List Int))) (L := fun n (x4 : (List Int) × (List Int) × List (List Int)) =>
    let e0 := x4.2.1 :: []
    (ref01_Order n (x4.2.1, x4.1)).bind fun y5 =>
    bif decide (y5 ≤ 0) then
      bif fitB (x4.2.2.length + e0.length) 24 then
        (ref02_twice n x4.2.1).bind fun y6 =>
        some (.inl (x4.1, y6, x4.2.2 ++ e0))
      else
      none
    else
    some (.inr (x4.1, x4.2.2)))
    (fun s => ∃ (c : List Nat) (ps : List (List Nat)), s = (Dl a, Dl c, Dls ps) ∧ Okd c ∧ val c = pw (val b) ps.length ∧ c.length ≤ 20 + ps.length ∧ Rows (val b) ps ∧ ps.length ≤ 320 ∧ (0 < ps.length → pw (val b) (ps.length - 1) ≤ val a))
    (fun s => 400 - s.2.2.length) (fun z => ∃ ps : List (List Nat), z = ((Dl a, Dls ps)) ∧ (Rows (val b) ps ∧ val a < pw (val b) ps.length ∧ ps.length ≤ 320 ∧ (0 < ps.length → pw (val b) (ps.length - 1) ≤ val a))) ?_ (Dl a, Dl b, [])
    ⟨b, [], rfl, hb, rfl, by simpa using lb, (fun i hi => absurd hi (Nat.not_lt_zero _)), by decide, fun h => absurd h (Nat.lt_irrefl 0)⟩
  · obtain ⟨z, h1, ps, rfl, h2⟩ := loop
    exact ⟨ps, h2, h1⟩
  · rintro s ⟨c, ps, rfl, hc, hv, hl, hr, hk, hle⟩
    have ord := order_ c a hc ha (by omega) (by omega)
    by_cases hlt : val c ≤ val a
    · left
      have hk2 : ps.length < 320 := pw_few h0 (by rw [← hv]; exact hlt) (val20 ha la)
      obtain ⟨d, ⟨hd, hdv, hdl⟩, et⟩ := twice_ c hc (by omega)
      have nxt : ∃ (c' : List Nat) (ps' : List (List Nat)), ((Dl a, Dl d, Dls (ps ++ [c])) : (List Int) × (List Int) × List (List Int)) = (Dl a, Dl c', Dls ps') ∧ Okd c' ∧ val c' = pw (val b) ps'.length ∧ c'.length ≤ 20 + ps'.length ∧ Rows (val b) ps' ∧ ps'.length ≤ 320 ∧ (0 < ps'.length → pw (val b) (ps'.length - 1) ≤ val a) := by
        refine ⟨d, ps ++ [c], rfl, hd, ?_, ?_, Rows_snoc hr hc hv (by omega), ?_, fun _ => ?_⟩
        · rw [hdv, hv, List.length_append, List.length_singleton]; rfl
        · rw [List.length_append, List.length_singleton]; omega
        · rw [List.length_append, List.length_singleton]; omega
        · rw [List.length_append, List.length_singleton, Nat.add_sub_cancel, ← hv]; exact hlt
      refine ⟨(Dl a, Dl d, Dls (ps ++ [c])), ?_, nxt, ?_⟩
      · refine Ev.bind ord ?_
        simp only [ordF_le, decide_eq_true hlt, cond_true, Dls_len, fit24S (show ps.length ≤ 1000 by omega), Dls_snoc]
        exact Ev.bind et (Ev.ret _)
      · simp only [Dls_len, List.length_append, List.length_singleton]; clear nxt hr; omega
    · right
      refine ⟨(Dl a, Dls ps), ?_, ps, rfl, hr, by rw [← hv]; omega, hk, hle⟩
      refine Ev.bind ord ?_
      simp only [ordF_le, decide_eq_false hlt, cond_false]
      exact Ev.ret _
theorem dbl_div (a b : List Nat) (ha : Okd a) (hb : Okd b) (la : a.length ≤ 20) (lb : b.length ≤ 20) (h0 : 0 < val b) : ∃ ps : List (List Nat),
    (Rows (val b) ps ∧ val a < pw (val b) ps.length ∧ ps.length ≤ 320 ∧ (0 < ps.length → pw (val b) (ps.length - 1) ≤ val a)) ∧
    Ev (fun n => iterL (Y := ((List Int) × Int × List (List Int))) n (fun (x4 : (List Int) × Int × (List Int) × List (List Int)) =>
    let e0 := x4.2.2.1 :: []
    (ref01_Order n (x4.2.2.1, x4.1)).bind fun y5 =>
    bif decide (y5 ≤ 0) then
      bif fitB (x4.2.2.2.length + e0.length) 24 then
        (ref02_twice n x4.2.2.1).bind fun y6 =>
        some (.inl (x4.1, x4.2.1, y6, x4.2.2.2 ++ e0))
      else
      none
    else
    some (.inr (x4.1, x4.2.1, x4.2.2.2))) (Dl a, 0, Dl b, [])) ((Dl a, 0, Dls ps)) := by
  have loop := Ev.iterP (Y := ((List Int) × Int × List (List Int))) (L := fun n (x4 : (List Int) × Int × (List Int) × List (List Int)) =>
    let e0 := x4.2.2.1 :: []
    (ref01_Order n (x4.2.2.1, x4.1)).bind fun y5 =>
    bif decide (y5 ≤ 0) then
      bif fitB (x4.2.2.2.length + e0.length) 24 then
        (ref02_twice n x4.2.2.1).bind fun y6 =>
        some (.inl (x4.1, x4.2.1, y6, x4.2.2.2 ++ e0))
      else
      none
    else
    some (.inr (x4.1, x4.2.1, x4.2.2.2)))
    (fun s => ∃ (c : List Nat) (ps : List (List Nat)), s = (Dl a, 0, Dl c, Dls ps) ∧ Okd c ∧ val c = pw (val b) ps.length ∧ c.length ≤ 20 + ps.length ∧ Rows (val b) ps ∧ ps.length ≤ 320 ∧ (0 < ps.length → pw (val b) (ps.length - 1) ≤ val a))
    (fun s => 400 - s.2.2.2.length) (fun z => ∃ ps : List (List Nat), z = ((Dl a, 0, Dls ps)) ∧ (Rows (val b) ps ∧ val a < pw (val b) ps.length ∧ ps.length ≤ 320 ∧ (0 < ps.length → pw (val b) (ps.length - 1) ≤ val a))) ?_ (Dl a, 0, Dl b, [])
    ⟨b, [], rfl, hb, rfl, by simpa using lb, (fun i hi => absurd hi (Nat.not_lt_zero _)), by decide, fun h => absurd h (Nat.lt_irrefl 0)⟩
  · obtain ⟨z, h1, ps, rfl, h2⟩ := loop
    exact ⟨ps, h2, h1⟩
  · rintro s ⟨c, ps, rfl, hc, hv, hl, hr, hk, hle⟩
    have ord := order_ c a hc ha (by omega) (by omega)
    by_cases hlt : val c ≤ val a
    · left
      have hk2 : ps.length < 320 := pw_few h0 (by rw [← hv]; exact hlt) (val20 ha la)
      obtain ⟨d, ⟨hd, hdv, hdl⟩, et⟩ := twice_ c hc (by omega)
      have nxt : ∃ (c' : List Nat) (ps' : List (List Nat)), ((Dl a, 0, Dl d, Dls (ps ++ [c])) : (List Int) × Int × (List Int) × List (List Int)) = (Dl a, 0, Dl c', Dls ps') ∧ Okd c' ∧ val c' = pw (val b) ps'.length ∧ c'.length ≤ 20 + ps'.length ∧ Rows (val b) ps' ∧ ps'.length ≤ 320 ∧ (0 < ps'.length → pw (val b) (ps'.length - 1) ≤ val a) := by
        refine ⟨d, ps ++ [c], rfl, hd, ?_, ?_, Rows_snoc hr hc hv (by omega), ?_, fun _ => ?_⟩
        · rw [hdv, hv, List.length_append, List.length_singleton]; rfl
        · rw [List.length_append, List.length_singleton]; omega
        · rw [List.length_append, List.length_singleton]; omega
        · rw [List.length_append, List.length_singleton, Nat.add_sub_cancel, ← hv]; exact hlt
      refine ⟨(Dl a, 0, Dl d, Dls (ps ++ [c])), ?_, nxt, ?_⟩
      · refine Ev.bind ord ?_
        simp only [ordF_le, decide_eq_true hlt, cond_true, Dls_len, fit24S (show ps.length ≤ 1000 by omega), Dls_snoc]
        exact Ev.bind et (Ev.ret _)
      · simp only [Dls_len, List.length_append, List.length_singleton]; clear nxt hr; omega
    · right
      refine ⟨(Dl a, 0, Dls ps), ?_, ps, rfl, hr, by rw [← hv]; omega, hk, hle⟩
      refine Ev.bind ord ?_
      simp only [ordF_le, decide_eq_false hlt, cond_false]
      exact Ev.ret _
theorem resto_ (a b : List Nat) (ha : Okd a) (hb : Okd b) (la : a.length ≤ 20) (lb : b.length ≤ 20) (h0 : 0 < val b) : ∃ c, (Okd c ∧ val c = val a % val b ∧ c.length ≤ 20) ∧ Ev (fun n => ref02_rest n (Dl a, Dl b)) (Dl c) := by
  obtain ⟨ps, ⟨hr, hlt, hk, _⟩, e1⟩ := dbl_rest a b ha hb la lb h0
  have loop := Ev.iterP (Y := List Int) (L := fun n (x8 : (List Int) × Int × List (List Int)) =>
      let e1 := inB x8.2.1 x8.2.2.length
      let e2 := atI [] x8.2.2 x8.2.1
      bif decide (0 ≤ x8.2.1) then
        bif e1 then
          (ref01_Order n (e2, x8.1)).bind fun y9 =>
          bif decide (y9 ≤ 0) then
            bif e1 then
              (ref01_Minus n (x8.1, e2)).bind fun y10 =>
              (ref02_trim n y10).bind fun y11 =>
              some (.inl (y11, wrap64 (x8.2.1 - 1), x8.2.2))
            else
            none
          else
          some (.inl (x8.1, wrap64 (x8.2.1 - 1), x8.2.2))
        else
        none
      else
      some (.inr x8.1))
    (fun s => ∃ (i q : Nat) (c : List Nat), s = (Dl c, (i : Int) - 1, Dls ps) ∧ Okd c ∧ i ≤ ps.length ∧ c.length ≤ 20 ∧ val a = q * pw (val b) i + val c ∧ val c < pw (val b) i)
    (fun s => (s.2.1 + 1).toNat) (fun z => ∃ c, z = Dl c ∧ (Okd c ∧ val c = val a % val b ∧ c.length ≤ 20)) ?_ (Dl a, ((ps.length : Nat) : Int) - 1, Dls ps)
    ⟨ps.length, 0, a, rfl, ha, Nat.le_refl _, la, by omega, hlt⟩
  · obtain ⟨z, h1, c, rfl, h2⟩ := loop
    refine ⟨c, h2, Ev.bind e1 ?_⟩
    simp only [Dls_len, wrap_pm _ (show ps.length < 1000 by omega)]
    exact Ev.bind h1 (Ev.ret _)
  · rintro s ⟨i, q, c, rfl, hc, hi, hl, hv, hb2⟩
    by_cases hi0 : 0 < i
    · left
      obtain ⟨j, rfl⟩ : ∃ j, i = j + 1 := ⟨i - 1, by omega⟩
      obtain ⟨rok, rval, rlen⟩ := hr j (by omega)
      have ij : ((j + 1 : Nat) : Int) - 1 = (j : Int) := by omega
      have d0 : decide ((0 : Int) ≤ (j : Int)) = true := decide_eq_true (by omega)
      have dj : decide (j < ps.length) = true := decide_eq_true (by omega)
      have ord := order_ (ps.getD j []) c rok hc (by omega) (by omega)
      have p2 : pw (val b) (j + 1) = 2 * pw (val b) j := rfl
      rw [p2] at hb2 hv
      rw [ij]
      by_cases hle : pw (val b) j ≤ val c
      · obtain ⟨c1, d, ⟨hd, hdv, hdl⟩, em, et⟩ := less_ c (ps.getD j []) hc rok (by omega) (by rw [rval]; exact hle)
        rw [rval] at hdv
        have n1 : val a = (2 * q + 1) * pw (val b) j + val d := by
          rw [hv, hdv, Nat.add_mul, Nat.one_mul, ← Nat.mul_assoc, Nat.mul_comm q 2]
          generalize 2 * q * pw (val b) j = p
          clear hv ord em et rok hr; omega
        have n2 : val d < pw (val b) j := by clear n1 hv; omega
        refine ⟨(Dl d, (j : Int) - 1, Dls ps), ?_, ⟨j, 2 * q + 1, d, rfl, hd, by omega, by omega, n1, n2⟩, ?_⟩
        · simp only [d0, cond_true, Dls_len, inB_nat, dj, atI_Dls]
          refine Ev.bind ord ?_
          rw [rval]
          simp only [ordF_le, decide_eq_true hle, cond_true, wrap_pm _ (show j < 1000 by omega)]
          exact Ev.bind em (Ev.bind et (Ev.ret _))
        · show ((j : Int) - 1 + 1).toNat < ((j : Int) + 1).toNat
          clear n1 hv; omega
      · have n1 : val a = (2 * q) * pw (val b) j + val c := by
          rw [hv, ← Nat.mul_assoc, Nat.mul_comm q 2]
        refine ⟨(Dl c, (j : Int) - 1, Dls ps), ?_, ⟨j, 2 * q, c, rfl, hc, by omega, hl, n1, by omega⟩, ?_⟩
        · simp only [d0, cond_true, Dls_len, inB_nat, dj, atI_Dls]
          refine Ev.bind ord ?_
          rw [rval]
          simp only [ordF_le, decide_eq_false hle, cond_false, wrap_pm _ (show j < 1000 by omega)]
          exact Ev.ret _
        · show ((j : Int) - 1 + 1).toNat < ((j : Int) + 1).toNat
          clear n1 hv; omega
    · right
      have hz : i = 0 := by omega
      subst hz
      have d0 : decide ((0 : Int) ≤ ((0 : Nat) : Int) - 1) = false := rfl
      refine ⟨Dl c, Ev.const fun n => by simp only [d0, cond_false], c, rfl, hc, ?_, hl⟩
      have p0 : pw (val b) 0 = val b := rfl
      rw [p0] at hv hb2
      rw [hv, Nat.mul_comm, Nat.mul_add_mod, Nat.mod_eq_of_lt hb2]
theorem dbl_wrap {q : Nat} (h : q < 9223372036854775808) : IntKind.wrap .u64 ((2 * q : Nat) : Int) = ((2 * q : Nat) : Int) := wun (by omega)
theorem dbl_wrap1 {q : Nat} (h : q < 9223372036854775808) : IntKind.wrap .u64 ((2 * q + 1 : Nat) : Int) = ((2 * q + 1 : Nat) : Int) := wun (by omega)
theorem divided_ (a b : List Nat) (ha : Okd a) (hb : Okd b) (la : a.length ≤ 20) (lb : b.length ≤ 20) (h0 : 0 < val b) : Ev (fun n => ref02_divided n (Dl a, Dl b)) (if val a / val b < 18446744073709551616 then ((val a / val b : Nat) : Int) else 0, decide (val a / val b < 18446744073709551616)) := by
  obtain ⟨ps, ⟨hr, hlt, hk, hge⟩, e1⟩ := dbl_div a b ha hb la lb h0
  unfold ref02_divided
  refine Ev.bind e1 ?_
  simp only [Dls_len]
  by_cases hbig : 64 < ps.length
  · have d64 : decide ((64 : Int) < ((ps.length : Nat) : Int)) = true := decide_eq_true (by omega)
    have hq : ¬ val a / val b < 18446744073709551616 := by
      rw [Nat.div_lt_iff_lt_mul h0, Nat.mul_comm]
      have h1 := Nat.le_trans (pw_mono (val b) (show 64 ≤ ps.length - 1 by omega)) (hge (by omega))
      rw [pw_eq] at h1
      have h2 : val b * 18446744073709551616 ≤ val a := h1
      generalize val b * 18446744073709551616 = w at h2 ⊢
      clear h1; omega
    simp only [d64, cond_true]
    rw [if_neg hq, decide_eq_false hq]
    exact Ev.ret _
  · have d64 : decide ((64 : Int) < ((ps.length : Nat) : Int)) = false := decide_eq_false (by omega)
    have hq : val a / val b < 18446744073709551616 := by
      rw [Nat.div_lt_iff_lt_mul h0, Nat.mul_comm]
      have h1 := Nat.lt_of_lt_of_le hlt (pw_mono (val b) (show ps.length ≤ 64 by omega))
      rw [pw_eq] at h1
      exact h1
    simp only [d64, cond_false, wrap_pm _ (show ps.length < 1000 by omega)]
    rw [if_pos hq, decide_eq_true hq]
    have loop := Ev.iterP (Y := Int) (L := fun n (x8 : (List Int) × Int × Int × List (List Int)) =>
      let e2 := inB x8.2.2.1 x8.2.2.2.length
      let e3 := atI [] x8.2.2.2 x8.2.2.1
      let e4 := IntKind.wrap .u64 (x8.2.1 * 2)
      bif decide (0 ≤ x8.2.2.1) then
        bif e2 then
          (ref01_Order n (e3, x8.1)).bind fun y9 =>
          bif decide (y9 ≤ 0) then
            bif e2 then
              (ref01_Minus n (x8.1, e3)).bind fun y10 =>
              (ref02_trim n y10).bind fun y11 =>
              some (.inl (y11, IntKind.wrap .u64 (e4 + 1), wrap64 (x8.2.2.1 - 1), x8.2.2.2))
            else
            none
          else
          some (.inl (x8.1, e4, wrap64 (x8.2.2.1 - 1), x8.2.2.2))
        else
        none
      else
      some (.inr x8.2.1))
      (fun s => ∃ (i q : Nat) (c : List Nat), s = (Dl c, (q : Int), (i : Int) - 1, Dls ps) ∧ Okd c ∧ i ≤ ps.length ∧ c.length ≤ 20 ∧ val a = q * pw (val b) i + val c ∧ val c < pw (val b) i ∧ q < pw 1 (ps.length - i))
      (fun s => (s.2.2.1 + 1).toNat) (fun z => z = ((val a / val b : Nat) : Int)) ?_ (Dl a, 0, ((ps.length : Nat) : Int) - 1, Dls ps)
      ⟨ps.length, 0, a, rfl, ha, Nat.le_refl _, la, by omega, hlt, pw_pos (by decide) _⟩
    · obtain ⟨z, h1, rfl⟩ := loop
      exact Ev.bind h1 (Ev.ret _)
    · rintro s ⟨i, q, c, rfl, hc, hi, hl, hv, hb2, hqb⟩
      by_cases hi0 : 0 < i
      · left
        obtain ⟨j, rfl⟩ : ∃ j, i = j + 1 := ⟨i - 1, by omega⟩
        obtain ⟨rok, rval, rlen⟩ := hr j (by omega)
        have ij : ((j + 1 : Nat) : Int) - 1 = (j : Int) := by omega
        have d0 : decide ((0 : Int) ≤ (j : Int)) = true := decide_eq_true (by omega)
        have dj : decide (j < ps.length) = true := decide_eq_true (by omega)
        have ord := order_ (ps.getD j []) c rok hc (by omega) (by omega)
        have p2 : pw (val b) (j + 1) = 2 * pw (val b) j := rfl
        have q2 : pw 1 (ps.length - j) = 2 * pw 1 (ps.length - (j + 1)) := by
          rw [show ps.length - j = (ps.length - (j + 1)) + 1 by omega]; rfl
        have q3 : q < 9223372036854775808 := by
          refine Nat.lt_of_lt_of_le hqb ?_
          have := pw_mono 1 (show ps.length - (j + 1) ≤ 63 by omega)
          rw [pw_eq 1 63] at this
          exact this
        rw [p2] at hb2 hv
        rw [ij]
        have w2 : IntKind.wrap .u64 ((q : Int) * 2) = ((2 * q : Nat) : Int) := by rw [show (q : Int) * 2 = ((2 * q : Nat) : Int) by omega]; exact dbl_wrap q3
        have w3 : IntKind.wrap .u64 (((2 * q : Nat) : Int) + 1) = ((2 * q + 1 : Nat) : Int) := by rw [show ((2 * q : Nat) : Int) + 1 = ((2 * q + 1 : Nat) : Int) by omega]; exact dbl_wrap1 q3
        by_cases hle : pw (val b) j ≤ val c
        · obtain ⟨c1, d, ⟨hd, hdv, hdl⟩, em, et⟩ := less_ c (ps.getD j []) hc rok (by clear w2 w3; omega) (by rw [rval]; exact hle)
          rw [rval] at hdv
          have n1 : val a = (2 * q + 1) * pw (val b) j + val d := by
            rw [hv, hdv, Nat.add_mul, Nat.one_mul, ← Nat.mul_assoc, Nat.mul_comm q 2]
            generalize 2 * q * pw (val b) j = p
            clear hv ord em et rok hr w2 w3 q2 q3 hqb hq hge hlt; omega
          have n2 : val d < pw (val b) j := by clear n1 hv w2 w3 q2 q3 hqb hq hge hlt; omega
          have n3 : 2 * q + 1 < pw 1 (ps.length - j) := by rw [q2]; clear n1 hv w2 w3 q2 hq hge hlt; omega
          refine ⟨(Dl d, ((2 * q + 1 : Nat) : Int), (j : Int) - 1, Dls ps), ?_, ⟨j, 2 * q + 1, d, rfl, hd, by clear n1 hv w2 w3; omega, by clear n1 hv w2 w3; omega, n1, n2, n3⟩, ?_⟩
          · simp only [d0, cond_true, Dls_len, inB_nat, dj, atI_Dls]
            refine Ev.bind ord ?_
            rw [rval]
            simp only [ordF_le, decide_eq_true hle, cond_true, wrap_pm _ (show j < 1000 by clear n1 hv w2 w3; omega), w2, w3]
            exact Ev.bind em (Ev.bind et (Ev.ret _))
          · show ((j : Int) - 1 + 1).toNat < ((j : Int) + 1).toNat
            clear n1 hv w2 w3; omega
        · have n1 : val a = (2 * q) * pw (val b) j + val c := by
            rw [hv, ← Nat.mul_assoc, Nat.mul_comm q 2]
          have n3 : 2 * q < pw 1 (ps.length - j) := by rw [q2]; clear n1 hv w2 w3 q2 hq hge hlt; omega
          refine ⟨(Dl c, ((2 * q : Nat) : Int), (j : Int) - 1, Dls ps), ?_, ⟨j, 2 * q, c, rfl, hc, by clear n1 hv w2 w3; omega, hl, n1, by clear n1 hv w2 w3; omega, n3⟩, ?_⟩
          · simp only [d0, cond_true, Dls_len, inB_nat, dj, atI_Dls]
            refine Ev.bind ord ?_
            rw [rval]
            simp only [ordF_le, decide_eq_false hle, cond_false, wrap_pm _ (show j < 1000 by clear n1 hv w2 w3; omega), w2]
            exact Ev.ret _
          · show ((j : Int) - 1 + 1).toNat < ((j : Int) + 1).toNat
            clear n1 hv w2 w3; omega
      · right
        have hz : i = 0 := by omega
        subst hz
        have d0 : decide ((0 : Int) ≤ ((0 : Nat) : Int) - 1) = false := rfl
        refine ⟨(q : Int), Ev.const fun n => by simp only [d0, cond_false], ?_⟩
        have p0 : pw (val b) 0 = val b := rfl
        rw [p0] at hv hb2
        rw [hv, Nat.mul_comm, Nat.mul_add_div h0, Nat.div_eq_of_lt hb2, Nat.add_zero]
end Go.Proofs.YtiildimlelphhaaGreatDoor.Fn
