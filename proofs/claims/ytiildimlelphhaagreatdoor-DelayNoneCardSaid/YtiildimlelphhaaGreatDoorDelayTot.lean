/- Chapter 26's totals, of the program and of the document. -/
import Derived.Test.YtiildimlelphhaaGreatDoorDelayFn
namespace Go.Proofs.YtiildimlelphhaaGreatDoor.Fn
set_option linter.unusedVariables false
open Go Go.RowKit Go.Den Go.Circ

def rightB (V S C : Int) : Bool := decide (1 ≤ C ∧ C ≤ 6000) && (decide (0 ≤ V) && (decide (V ≤ 1000000000) && (decide (0 ≤ S) && decide (S ≤ 1000000000))))
theorem rightB_iff {V S C : Int} : rightB V S C = true ↔ (1 ≤ C ∧ C ≤ 6000) ∧ 0 ≤ V ∧ V ≤ 1000000000 ∧ 0 ≤ S ∧ S ≤ 1000000000 := by simp [rightB]
theorem qright_ (n : Nat) (V S C : Int) (a : Int × Int) : queue_Right n (V, S, a.1, a.2, C) = some (rightB V S C) := by
  unfold queue_Right letJ queue_Right_1 rightB
  by_cases h1 : 1 ≤ C <;> by_cases h2 : C ≤ 6000 <;> by_cases h3 : 0 ≤ V <;> by_cases h4 : V ≤ 1000000000 <;> by_cases h5 : 0 ≤ S <;> by_cases h6 : S ≤ 1000000000 <;> simp [h1, h2, h3, h4, h5, h6]
theorem rright_ (n : Nat) (V S C : Int) (a : Int × Int) : ref25_Right n (V, S, a.1, a.2, C) = some (rightB V S C) := by
  unfold ref25_Right letJ rightB
  simp only [rcycle_, Option.bind_some]
  by_cases h1 : 1 ≤ C ∧ C ≤ 6000 <;> by_cases h3 : 0 ≤ V <;> by_cases h4 : V ≤ 1000000000 <;> by_cases h5 : 0 ≤ S <;> by_cases h6 : S ≤ 1000000000 <;> simp [h1, h3, h4, h5, h6]
def badT (V S C q t n : Int) : Bool := !(rightB V S C) || (decide (q < 0) || (decide (1099511627776 < q) || (decide (t < 0) || (decide (1099511627776 < t) || (decide (n < 0) || decide (1048576 < n))))))
def tot26 (V S C : Int) (a : Int × Int) (q t n : Int) : Int × Int := if badT V S C q t n = true then (0, 1) else (tt V S C a t q n.toNat, 0)
structure Fine (V S C q t n : Int) : Prop where
  c1 : 1 ≤ C
  c2 : C ≤ 6000
  v1 : 0 ≤ V
  v2 : V ≤ 1000000000
  s1 : 0 ≤ S
  s2 : S ≤ 1000000000
  q1 : 0 ≤ q
  q2 : q ≤ 1099511627776
  t1 : 0 ≤ t
  t2 : t ≤ 1099511627776
  n1 : 0 ≤ n
  n2 : n ≤ 1048576
theorem fine_of {V S C q t n : Int} (h : badT V S C q t n = false) : Fine V S C q t n := by
  unfold badT at h
  simp only [Bool.or_eq_false_iff, Bool.not_eq_false', rightB_iff, decide_eq_false_iff_not] at h
  obtain ⟨⟨⟨a, b⟩, c, d, e, f⟩, g, i, j, k, l, m⟩ := h
  exact ⟨a, b, c, d, e, f, by omega, by omega, by omega, by omega, by omega, by omega⟩
theorem number_ (n : Nat) : delay_number n () = some 0 := delay_number_eq n ()
/-- The loop of delay.Total. -/
theorem totLoop_ (V S C q t : Int) (a : Int × Int) (N : Nat) (hf : Fine V S C q t N) (hN : N ≤ 6000) : Ev (fun n => iterL n (fun (x4 : Int × Int × Int × Int × Int × Int × Int × Int × Int) =>
        bif decide (0 < x4.2.2.1) then
          (delay_alike n (x4.2.2.2.1, x4.2.2.2.2.1, x4.2.2.2.2.2.1, x4.2.2.2.2.2.2.1, x4.2.2.2.2.2.2.2.1, x4.2.1)).bind fun y5 =>
          let e0 := mn y5.2 x4.2.2.1
          letJ (fun x6 =>
            (delay_sum_stretch n (x6.1, x6.2.2.2.2.1, x6.2.2.2.1, x6.2.2.2.2.2.2.2.2.2.2)).bind fun y8 =>
            bif !(x6.2.2.2.2.2.2.2.2.2.1 == 0) then
              some (.inl (y8.1, Int.tmod (wrap64 (x6.2.1 + x6.2.2.2.1)) x6.2.2.2.2.2.2.2.2.2.1, wrap64 (x6.2.2.1 - x6.2.2.2.1), x6.2.2.2.2.2.1, x6.2.2.2.2.2.2.1, x6.2.2.2.2.2.2.2.1, x6.2.2.2.2.2.2.2.2.1, x6.2.2.2.2.2.2.2.2.2.1, y8.2))
            else
            none) fun J7 =>
          bif y5.1 then
            J7 (x4.1, x4.2.1, x4.2.2.1, e0, wrap64 (x4.2.2.2.1 - x4.2.2.2.2.1), x4.2.2.2)
          else
          J7 (x4.1, x4.2.1, x4.2.2.1, e0, x4.2.2.2.1, x4.2.2.2)
        else
        some (.inr x4.2.2.2.2.2.2.2.2)) (q, t % C, (N : Int), V, S, a.1, a.2, C, 0)) (tt V S C a t q N) := by
  have hcz : (!(C == 0)) = true := by have := hf.c1; simp; omega
  refine Ev.iter (fun x => ∃ i : Nat, i ≤ N ∧ x = (qa V S C a t q i, (t + i) % C, (N : Int) - i, V, S, a.1, a.2, C, tt V S C a t q i)) (fun x => x.2.2.1.toNat) (fun _ => tt V S C a t q N) ?_ _ ⟨0, by omega, by simp [qa, tt]⟩
  rintro x ⟨i, hi, rfl⟩
  by_cases hlt : i < N
  · left
    have hpos : decide (0 < (N : Int) - i) = true := by simp; omega
    have hC0 : 0 < C := by have := hf.c1; omega
    have m1 := Int.emod_nonneg (t + i) (show C ≠ 0 by omega)
    have m2 := Int.emod_lt_of_pos (t + i) hC0
    obtain ⟨k, ⟨k1, k2, k3⟩, hal⟩ := alikeFn_ V S C ((t + i) % C) a hf.c1 hf.c2 m1 m2
    obtain ⟨j, hj⟩ : ∃ j : Nat, min k (N - i) = j := ⟨_, rfl⟩
    have hj1 : 1 ≤ j := by omega
    have hj2 : j ≤ k := by omega
    have hj3 : i + j ≤ N := by omega
    have emin : mn (k : Int) ((N : Int) - i) = (j : Int) := by rw [mn_eq]; omega
    have hq := qa_bound (C := C) (t := t) (a := a) hf.v1 hf.v2 hf.s1 hf.q1 i
    have ht := tt_bound (C := C) (t := t) (a := a) (S := S) hf.v1 hf.v2 hf.s1 hf.q1 hf.q2 i (by omega)
    obtain ⟨g, hg⟩ : ∃ g, gr C a ((t + i) % C) = g := ⟨_, rfl⟩
    have hgr : ∀ l : Nat, l < j → gr C a (t + i + l) = g := fun l hl => by
      rw [← hg, ← k3 l (by omega), gr_mod_add]
    obtain ⟨b, hb⟩ : ∃ b, (if g = true then V - S else V) = b := ⟨_, rfl⟩
    obtain ⟨r1, r2⟩ := alike_ok (V := V) (S := S) (C := C) (t := t + i) (q := qa V S C a t q i) (a := a) hf.v1 hf.s1 hq.1 hgr b hb.symm j (Nat.le_refl _)
    have q2 := hf.q2
    have v1 := hf.v1
    have v2 := hf.v2
    have s1 := hf.s1
    have s2 := hf.s2
    have hbb : -1000000000 ≤ b ∧ b ≤ 1000000000 := by rw [← hb]; split <;> omega
    have hst := fun n => stretch_ n (qa V S C a t q i) b (tt V S C a t q i) j hq.1 (by omega) hbb.1 hbb.2 (by omega) ht.1 (by omega)
    rw [← r1, ← r2, ← qa_add, ← tt_add] at hst
    have w1 : wrap64 ((t + i) % C + j) = (t + i) % C + j := wrap64_id (by have := hf.c2; omega) (by have := hf.c2; omega)
    have w2 : wrap64 ((N : Int) - i - j) = (N : Int) - (i + j : Nat) := by rw [wrap64_id (by omega) (by omega)]; omega
    have w3 : Int.tmod ((t + i) % C + j) C = (t + (i + j : Nat)) % C := by rw [tmod_pos hC0, if_pos (by omega), Int.emod_add_emod]; congr 1; omega
    have w4 : wrap64 (V - S) = V - S := wrap64_id (by omega) (by omega)
    refine ⟨(qa V S C a t q (i + j), (t + (i + j : Nat)) % C, (N : Int) - (i + j : Nat), V, S, a.1, a.2, C, tt V S C a t q (i + j)), ?_, ⟨i + j, hj3, rfl⟩, ?_, rfl⟩
    · simp only [hpos, cond_true]
      refine Ev.bind hal ?_
      rw [hg]
      simp only [letJ, emin, w4]
      cases g with
      | true =>
        simp only [if_true] at hb
        subst hb
        simp only [cond_true, hst, Option.bind_some, hcz, w1, w2, w3]
        exact Ev.ret _
      | false =>
        simp only [Bool.false_eq_true, if_false] at hb
        subst hb
        simp only [cond_false, hst, Option.bind_some, hcz, cond_true, w1, w2, w3]
        exact Ev.ret _
    · simp only; omega
  · right
    have e : i = N := by omega
    subst e
    have hpos : decide (0 < (i : Int) - i) = false := by simp
    simp only [hpos, cond_false]
    exact ⟨_, Ev.ret _, rfl⟩
theorem total_ (V S C q t n : Int) (a : Int × Int) (hn : n ≤ 6000 ∨ 1048576 < n) : Ev (fun m => delay_Total m (V, S, a.1, a.2, C, q, t, n)) (tot26 V S C a q t n) := by
  unfold delay_Total letJ tot26
  simp only [qright_, Option.bind_some]
  by_cases hb : badT V S C q t n = true
  · rw [if_pos hb]
    unfold badT at hb
    cases hr : rightB V S C with
    | false => simp only [Bool.not_false, cond_true]; exact Ev.ret _
    | true =>
      simp only [hr, Bool.not_true, Bool.false_or] at hb
      simp only [Bool.not_true, cond_false]
      by_cases h1 : q < 0
      · simp only [h1, decide_true, cond_true]; exact Ev.ret _
      · by_cases h2 : 1099511627776 < q
        · simp only [h1, h2, decide_true, decide_false, cond_true, cond_false]; exact Ev.ret _
        · by_cases h3 : t < 0
          · simp only [h1, h2, h3, decide_true, decide_false, cond_true, cond_false]; exact Ev.ret _
          · by_cases h4 : 1099511627776 < t
            · simp only [h1, h2, h3, h4, decide_true, decide_false, cond_true, cond_false]; exact Ev.ret _
            · by_cases h5 : n < 0
              · simp only [h1, h2, h3, h4, h5, decide_true, decide_false, cond_true, cond_false]; exact Ev.ret _
              · have h6 : 1048576 < n := by simpa [h1, h2, h3, h4, h5] using hb
                simp only [h1, h2, h3, h4, h5, h6, decide_true, decide_false, cond_true, cond_false]; exact Ev.ret _
  · have hb' : badT V S C q t n = false := by simpa using hb
    rw [if_neg hb]
    have hf := fine_of hb'
    have hr : rightB V S C = true := rightB_iff.2 ⟨⟨hf.c1, hf.c2⟩, hf.v1, hf.v2, hf.s1, hf.s2⟩
    obtain ⟨c1, c2, v1, v2, s1, s2, q1, q2, t1, t2, n1, n2⟩ := hf
    have d1 : decide (q < 0) = false := by simp; omega
    have d2 : decide (1099511627776 < q) = false := by simp; omega
    have d3 : decide (t < 0) = false := by simp; omega
    have d4 : decide (1099511627776 < t) = false := by simp; omega
    have d5 : decide (n < 0) = false := by simp; omega
    have d6 : decide (1048576 < n) = false := by simp; omega
    have hcz : (!(C == 0)) = true := by simp; omega
    have e0 : Int.tmod t C = t % C := by rw [tmod_pos (by omega), if_pos t1]
    obtain ⟨N, rfl⟩ := Int.eq_ofNat_of_zero_le n1
    simp only [hr, Bool.not_true, cond_false, d1, d2, d3, d4, d5, d6, hcz, cond_true, e0, Int.toNat_natCast]
    refine Ev.bind (totLoop_ V S C q t a N ⟨c1, c2, v1, v2, s1, s2, q1, q2, t1, t2, n1, n2⟩ (by omega)) ?_
    refine Ev.bindS number_ ?_
    exact Ev.ret _
theorem rtick_ (n : Nat) (V S C q t : Int) (a : Int × Int) (h1 : 1 ≤ C) (h2 : C ≤ 6000) (hv : 0 ≤ V) (hv' : V ≤ 1000000000) (hs : 0 ≤ S) (hs' : S ≤ 1000000000) (hq : 0 ≤ q) (hq' : q ≤ 2000000000000000000) :
    ref25_Tick n (V, S, a.1, a.2, C, q, t) = some (tk V S (gr C a t) q) := by
  unfold ref25_Tick
  have hin : ref03_In n (C, a.1, a.2, t) = some (gr C a t) := by
    rw [rin_]; unfold gr; congr 1; exact decide_eq_decide.2 ⟨fun h => h.2.2, fun h => ⟨h1, h2, h⟩⟩
  have w1 : wrap64 (q + V) = q + V := wrap64_id (by omega) (by omega)
  have w2 : wrap64 (q + V - S) = q + V - S := wrap64_id (by omega) (by omega)
  simp only [hin, Option.bind_some, w1, w2, mx_eq, tk]
  cases gr C a t <;> simp
theorem rtotal26_ (V S C q t n : Int) (a : Int × Int) (hn : n ≤ 6000 ∨ 1048576 < n) : Ev (fun m => ref26_Total m (V, S, a.1, a.2, C, q, t, n)) (tot26 V S C a q t n) := by
  unfold ref26_Total letJ tot26
  simp only [rright_, Option.bind_some]
  by_cases hb : badT V S C q t n = true
  · rw [if_pos hb]
    unfold badT at hb
    cases hr : rightB V S C with
    | false => simp only [Bool.not_false, cond_true]; exact Ev.ret _
    | true =>
      simp only [hr, Bool.not_true, Bool.false_or] at hb
      simp only [Bool.not_true, cond_false]
      by_cases h1 : q < 0
      · simp only [h1, decide_true, cond_true]; exact Ev.ret _
      · by_cases h2 : 1099511627776 < q
        · simp only [h1, h2, decide_true, decide_false, cond_true, cond_false]; exact Ev.ret _
        · by_cases h3 : t < 0
          · simp only [h1, h2, h3, decide_true, decide_false, cond_true, cond_false]; exact Ev.ret _
          · by_cases h4 : 1099511627776 < t
            · simp only [h1, h2, h3, h4, decide_true, decide_false, cond_true, cond_false]; exact Ev.ret _
            · by_cases h5 : n < 0
              · simp only [h1, h2, h3, h4, h5, decide_true, decide_false, cond_true, cond_false]; exact Ev.ret _
              · have h6 : 1048576 < n := by simpa [h1, h2, h3, h4, h5] using hb
                simp only [h1, h2, h3, h4, h5, h6, decide_true, decide_false, cond_true, cond_false]; exact Ev.ret _
  · have hb' : badT V S C q t n = false := by simpa using hb
    rw [if_neg hb]
    have hf := fine_of hb'
    have hr : rightB V S C = true := rightB_iff.2 ⟨⟨hf.c1, hf.c2⟩, hf.v1, hf.v2, hf.s1, hf.s2⟩
    obtain ⟨c1, c2, v1, v2, s1, s2, q1, q2, t1, t2, n1, n2⟩ := hf
    have d1 : decide (q < 0) = false := by simp; omega
    have d2 : decide (1099511627776 < q) = false := by simp; omega
    have d3 : decide (t < 0) = false := by simp; omega
    have d4 : decide (1099511627776 < t) = false := by simp; omega
    have d5 : decide (n < 0) = false := by simp; omega
    have d6 : decide (1048576 < n) = false := by simp; omega
    obtain ⟨N, rfl⟩ := Int.eq_ofNat_of_zero_le n1
    simp only [hr, Bool.not_true, cond_false, d1, d2, d3, d4, d5, d6, Int.toNat_natCast]
    refine Ev.loopB (fun i => (qa V S C a t q i, t, (N : Int), tt V S C a t q i, (i : Int), V, S, a.1, a.2, C)) N (.inr (tt V S C a t q N)) rfl (fun i hi => ?_) ?_ (Ev.const fun n => rfl)
    · have hq := qa_bound (C := C) (t := t) (a := a) v1 v2 s1 q1 i
      have hq1 := qa_bound (C := C) (t := t) (a := a) v1 v2 s1 q1 (i + 1)
      have ht := tt_bound (C := C) (t := t) (a := a) (S := S) v1 v2 s1 q1 q2 i (by omega)
      have ht1 := tt_bound (C := C) (t := t) (a := a) (S := S) v1 v2 s1 q1 q2 (i + 1) (by omega)
      have w1 : wrap64 (t + i) = t + i := wrap64_id (by omega) (by omega)
      refine Ev.const fun n => ?_
      have htk := rtick_ n V S C (qa V S C a t q i) (t + i) a c1 c2 v1 v2 s1 s2 hq.1 (by omega)
      have hadd := radd_ n (tt V S C a t q i) (tk V S (gr C a (t + i)) (qa V S C a t q i)) ⟨by omega, by omega⟩ (by
        have : tk V S (gr C a (t + i)) (qa V S C a t q i) = qa V S C a t q (i + 1) := rfl
        rw [this]; exact ⟨by omega, by omega⟩) (by
        have : tt V S C a t q i + tk V S (gr C a (t + i)) (qa V S C a t q i) = tt V S C a t q (i + 1) := rfl
        rw [this]; omega) (by
        have : tt V S C a t q i + tk V S (gr C a (t + i)) (qa V S C a t q i) = tt V S C a t q (i + 1) := rfl
        rw [this]; omega)
      simp only [ofNat_lt_true hi, cond_true, w1, htk, Option.bind_some, hadd, wrap_succ (show i < 9223372036854775807 by omega)]
      rfl
    · simp only [ofNat_lt_irrefl, cond_false]
      exact Ev.ret _
end Go.Proofs.YtiildimlelphhaaGreatDoor.Fn
