/- The queue of chapter 25 in plain Lean: the program's answers behind any ticks. -/
import Derived.Test.YthkcpgiibmajhaaQueue
namespace Go.Proofs.Ythkcpgiibmajhaa.Fn
open Go Go.RowKit Go.Den

section
variable {V S A L C : Int}
/-- From tick t to tick u of one cycle. -/
theorem eff_from (hV : 0 ≤ V) (hV' : V ≤ 1000000000) (hS : 0 ≤ S) (hS' : S ≤ 1000000000) (h1 : 1 ≤ C) (h2 : C ≤ 6000) {t u : Int} (ht : 0 ≤ t) (htu : t ≤ u) (hu : u ≤ C) {k : Nat} (hk : (k : Int) = u - t) :
    ∃ c, Ev (fun n => f30 n ((V, S, A, L, C), t, u)) c ∧ Eff V S c k (gr C A L) t := by
  refine Ev.bindE (Q := fun y => y = (0, -2305843009213693952, 0, -2305843009213693952)) ⟨_, Ev.const fun n => rfl, rfl⟩ ?_
  rintro _ rfl
  refine Ev.bindE (Q := fun y : Int × Int × Int × Int × Int × Int × Int × Int => Eff V S y.2.2.2.2 k (gr C A L) t) (Ev.iterP
    (fun x : Int × Int × Int × Int × Int × Int × Int × Int × Int × Int × Int × Int × Int × Int × Int => t ≤ x.1 ∧ x.1 ≤ u ∧ x.2.1 = u ∧ x.2.2.1 = V ∧ x.2.2.2.1 = S ∧ x.2.2.2.2.1 = A ∧ x.2.2.2.2.2.1 = L ∧ x.2.2.2.2.2.2.1 = C ∧ ∃ a : Nat, (a : Int) = x.1 - t ∧ Eff V S x.2.2.2.2.2.2.2.2.2.2.2 a (gr C A L) t)
    (fun x => (u - x.1).toNat) _ ?_ _ ?_) ?_
  · rintro ⟨t', u', V', S', A', L', C', z1, z2, z3, z4, acc⟩ ⟨i1, i2, rfl, rfl, rfl, rfl, rfl, rfl, a, ha, hacc⟩
    simp only at *
    by_cases h0 : t' < u'
    · left
      obtain ⟨g, m, hg1, hm1, hm2, hg2⟩ := until36 0 V' S' A' L' C' t' h1 h2 (by omega) (by omega)
      have w1 : wrap64 (u' - t') = u' - t' := wrap64_id (by omega) (by omega)
      obtain ⟨b, hb⟩ : ∃ b : Nat, (b : Int) = min m (u' - t') := ⟨(min m (u' - t')).toNat, by omega⟩
      obtain ⟨c, hc1, hc2⟩ := eff_row (G := gr C' A' L') hV hV' hS hS' A' L' C' g (k := b) (t := t') (by omega) (fun j h3 h4 => hg2 j h3 (by omega))
      have hta : t + (a : Int) = t' := by omega
      obtain ⟨d, hd1, hd2⟩ := eff_then 0 hV (k := a) (l := b) (by omega) (by omega) hacc (by rw [hta]; exact hc2)
      have w2 : wrap64 (t' + b) = t' + b := wrap64_id (by omega) (by omega)
      refine ⟨(t' + b, u', V', S', A', L', C', z1, z2, z3, z4, d), ?_, ⟨by simp only; omega, by simp only; omega, rfl, rfl, rfl, rfl, rfl, rfl, a + b, by simp only; omega, hd2⟩, by simp only; omega⟩
      simp only [h0, decide_true, cond_true]
      refine Ev.bind (a := (g, m)) (Ev.const fun n => hg1) ?_
      simp only [w1, mn_eq, ← hb]
      refine Ev.bind hc1 ?_
      refine Ev.bind (a := d) (Ev.const fun n => hd1) ?_
      rw [w2]
      exact Ev.ret _
    · right
      refine ⟨(z1, z2, z3, z4, acc), Ev.const fun n => by simp [h0], ?_⟩
      have : a = k := by omega
      rw [← this]; exact hacc
  · exact ⟨Int.le_refl _, htu, rfl, rfl, rfl, rfl, rfl, rfl, 0, by simp, eff_nothing t⟩
  · intro y hy
    exact Ev.retE _ hy
/-- Any number of ticks from any tick on. -/
theorem eff_all (hV : 0 ≤ V) (hV' : V ≤ 1000000000) (hS : 0 ≤ S) (hS' : S ≤ 1000000000) (h1 : 1 ≤ C) (h2 : C ≤ 6000) {t : Int} (ht : 0 ≤ t) {k : Nat} (hk : k ≤ 1073741824) :
    ∃ c, Ev (fun n => f23 n ((V, S, A, L, C), t, (k : Int))) c ∧ Eff V S c k (gr C A L) t := by
  have m1 := Int.emod_nonneg t (b := C) (by omega)
  have m2 := Int.emod_lt_of_pos t (b := C) (by omega)
  have hmod : Int.tmod t C = t % C := Int.tmod_eq_emod_of_nonneg ht
  have hper : ∀ j, gr C A L (j + C) = gr C A L j := gr_cycle C A L
  obtain ⟨Cn, rfl⟩ := Int.eq_ofNat_of_zero_le (show 0 ≤ C by omega)
  -- from t's place in the cycle to t
  have back : ∀ c k', Eff V S c k' (gr Cn A L) (t % Cn) → Eff V S c k' (gr Cn A L) t := by
    intro c k' h
    obtain ⟨q, hq⟩ := Int.eq_ofNat_of_zero_le (Int.ediv_nonneg ht (show 0 ≤ (Cn : Int) by omega))
    have e : t = t % Cn + ((Cn * q : Nat) : Int) := by
      have := Int.emod_add_mul_ediv t Cn
      rw [hq] at this
      rw [Int.natCast_mul]; omega
    have := eff_shift (a := Cn * q) (p := Cn) h hper (Nat.dvd_mul_right _ _)
    rw [← e] at this
    exact this
  have w1 : wrap64 ((Cn : Int) - t % Cn) = Cn - t % Cn := wrap64_id (by omega) (by omega)
  have w2 : wrap64 ((k : Int) - (Cn - t % Cn)) = k - (Cn - t % Cn) := wrap64_id (by omega) (by omega)
  have w3 : wrap64 (t % Cn + k) = t % Cn + k := wrap64_id (by omega) (by omega)
  have hc0 : ((Cn : Int) == 0) = false := by simp; omega
  have unf : ∀ n, f23 n ((V, S, A, L, (Cn : Int)), t, (k : Int)) = bif decide ((k : Int) ≤ Cn - t % Cn) then
      (f30 n ((V, S, A, L, (Cn : Int)), t % Cn, t % Cn + k)).bind fun y1 => some y1
    else
      (f30 n ((V, S, A, L, (Cn : Int)), t % Cn, Cn)).bind fun y2 =>
      (f30 n ((V, S, A, L, (Cn : Int)), 0, Cn)).bind fun y3 =>
        (f32 n (y3, wrap64 (Int.tdiv (k - (Cn - t % Cn)) Cn))).bind fun y4 =>
        (f31 n (y2, y4)).bind fun y5 =>
          (f30 n ((V, S, A, L, (Cn : Int)), 0, Int.tmod (k - (Cn - t % Cn)) Cn)).bind fun y6 =>
          (f31 n (y5, y6)).bind fun y7 =>
          some y7 := by
    intro n
    simp only [f23, hmod, w1, w2, w3, hc0, Bool.not_false, cond_true]
  by_cases hle : (k : Int) ≤ Cn - t % Cn
  · obtain ⟨c, hc1, hc2⟩ := eff_from (A := A) (L := L) hV hV' hS hS' h1 h2 m1 (u := t % Cn + k) (by omega) (by omega) (k := k) (by omega)
    refine ⟨c, ?_, back c k hc2⟩
    refine Ev.congr (F := fun n => (f30 n ((V, S, A, L, (Cn : Int)), t % Cn, t % Cn + k)).bind fun y1 => some y1) (Ev.bind hc1 (Ev.ret _)) fun n => ?_
    rw [unf]; simp only [hle, decide_true, cond_true]
  · -- the rest of this cycle, whole cycles, a part of one
    obtain ⟨j, hj⟩ : ∃ j : Nat, (j : Int) = Cn - t % Cn := ⟨(Cn - t % Cn).toNat, by omega⟩
    obtain ⟨r, hr⟩ : ∃ r : Nat, (r : Int) = k - (Cn - t % Cn) := ⟨(k - (Cn - t % Cn)).toNat, by omega⟩
    have hdiv : Int.tdiv (k - (Cn - t % Cn)) Cn = ((r / Cn : Nat) : Int) := by rw [← hr, Int.tdiv_eq_ediv_of_nonneg (by omega)]; simp
    have hmodr : Int.tmod (k - (Cn - t % Cn)) Cn = ((r % Cn : Nat) : Int) := by rw [← hr, Int.tmod_eq_emod_of_nonneg (by omega)]; simp
    have hrc : r / Cn * Cn + r % Cn = r := by rw [Nat.mul_comm]; exact Nat.div_add_mod r Cn
    have hrlt : r % Cn < Cn := Nat.mod_lt _ (by omega)
    have hTle : r / Cn * Cn ≤ r := Nat.div_mul_le_self r Cn
    have hqle : r / Cn ≤ r := Nat.div_le_self r Cn
    generalize r / Cn = q at *
    generalize r % Cn = m at *
    obtain ⟨y2, p1, p2⟩ := eff_from (A := A) (L := L) hV hV' hS hS' h1 h2 m1 (u := (Cn : Int)) (by omega) (by omega) (k := j) hj
    obtain ⟨y3, p3, p4⟩ := eff_from (A := A) (L := L) hV hV' hS hS' h1 h2 (t := 0) (u := (Cn : Int)) (by omega) (by omega) (by omega) (k := Cn) (by omega)
    obtain ⟨y4, p5, p6⟩ := eff_times hV (by omega) p4 hper (m := (q : Int)) (by omega) (T := q * Cn) (by rw [Int.natCast_mul]) (by omega)
    obtain ⟨y6, p7, p8⟩ := eff_from (A := A) (L := L) hV hV' hS hS' h1 h2 (t := 0) (u := (m : Int)) (by omega) (by omega) (by omega) (k := m) (by omega)
    have s1 : Eff V S y4 (q * Cn) (gr Cn A L) (t % Cn + (j : Int)) := by
      have := eff_shift (a := Cn) (p := Cn) p6 hper (Nat.dvd_refl _)
      have e : t % Cn + (j : Int) = 0 + (Cn : Int) := by omega
      rw [e]; exact this
    obtain ⟨y5, p9, p10⟩ := eff_then 0 hV (by omega) (by omega) p2 s1
    have s2 : Eff V S y6 (m) (gr Cn A L) (t % Cn + ((j + q * Cn : Nat) : Int)) := by
      have := eff_shift (a := Cn + q * Cn) (p := Cn) p8 hper (Nat.dvd_add (Nat.dvd_refl _) (Nat.dvd_mul_left _ _))
      have e : t % Cn + ((j + q * Cn : Nat) : Int) = 0 + ((Cn + q * Cn : Nat) : Int) := by omega
      rw [e]; exact this
    obtain ⟨y7, p11, p12⟩ := eff_then 0 hV (by omega) (by omega) p10 s2
    have w4 : wrap64 (q : Int) = (q : Int) := wrap64_id (by omega) (by omega)
    have hsum : j + q * Cn + m = k := by omega
    rw [hsum] at p12
    refine ⟨y7, ?_, back y7 k p12⟩
    refine Ev.congr ?_ unf
    simp only [hle, decide_false, cond_false, hdiv, hmodr, w4]
    exact Ev.bind p1 (Ev.bind p3 (Ev.bind p5 (Ev.bind (a := y5) (Ev.const fun n => p9) (Ev.bind p7 (Ev.bind (a := y7) (Ev.const fun n => p11) (Ev.ret _))))))
end
end Go.Proofs.Ythkcpgiibmajhaa.Fn
