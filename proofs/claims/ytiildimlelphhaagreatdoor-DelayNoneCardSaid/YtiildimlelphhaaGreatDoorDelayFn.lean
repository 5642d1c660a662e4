/- Chapter 26's functions: what each computes. -/
import Derived.Test.YtiildimlelphhaaGreatDoorDelay
namespace Go.Proofs.YtiildimlelphhaaGreatDoor.Fn
set_option linter.unusedVariables false
open Go Go.RowKit Go.Den Go.Circ

theorem sadd_ (n : Nat) (a b s : Int) (ha : I64 a) (hb : I64 b) (h1 : -1000000000000000000 ≤ a * b) (h2 : a * b ≤ 1000000000000000000) (h3 : -1000000000000000000 ≤ s) (h4 : s ≤ 1000000000000000000) : delay_sum_add n (a, b, s) = some (s + a * b) := by
  unfold delay_sum_add letJ
  simp only [wmul_ n a b ha hb (by omega) (by omega), Option.bind_some, wadd_ n s (a * b) (by omega) (by omega)]
  rfl
theorem line_even {f l σ : Int} {m : Nat} (h : 2 * σ = (f + l) * ((2 * m : Nat) : Int)) : (f + l) * (m : Int) = σ := by
  rw [show ((2 * m : Nat) : Int) = (m : Int) * 2 by omega, ← Int.mul_assoc] at h
  generalize (f + l) * (m : Int) = z at h ⊢
  omega
theorem line_odd {f l σ : Int} {m : Nat} (h : 2 * σ = (f + l) * ((2 * m + 1 : Nat) : Int)) : ∃ c, f + l = 2 * c ∧ c * ((2 * m + 1 : Nat) : Int) = σ := by
  refine ⟨σ - (f + l) * (m : Int), ?_, ?_⟩
  · rw [show ((2 * m + 1 : Nat) : Int) = (m : Int) * 2 + 1 by omega, Int.mul_add, Int.mul_one, ← Int.mul_assoc] at h
    generalize (f + l) * (m : Int) = z at h ⊢
    omega
  · have h2 : 2 * (σ - (f + l) * (m : Int)) = f + l := by
      have h := h
      rw [show ((2 * m + 1 : Nat) : Int) = (m : Int) * 2 + 1 by omega, Int.mul_add, Int.mul_one, ← Int.mul_assoc] at h
      generalize (f + l) * (m : Int) = z at h ⊢
      omega
    rw [← h2, Int.mul_assoc] at h
    generalize (σ - (f + l) * (m : Int)) * ((2 * m + 1 : Nat) : Int) = z at h ⊢
    omega
theorem sline_ (n : Nat) (f l s σ : Int) (k : Nat) (hσ : 2 * σ = (f + l) * k) (hf : -100000000000000 ≤ f) (hf' : f ≤ 100000000000000) (hl : -100000000000000 ≤ l) (hl' : l ≤ 100000000000000) (hk : k ≤ 6000)
    (h1 : -1000000000000000000 ≤ σ) (h2 : σ ≤ 1000000000000000000) (h3 : -1000000000000000000 ≤ s) (h4 : s ≤ 1000000000000000000) : delay_sum_line n (f, l, (k : Int), s) = some (s + σ) := by
  obtain ⟨m, hm⟩ : ∃ m : Nat, k = 2 * m ∨ k = 2 * m + 1 := ⟨k / 2, by omega⟩
  have b1 : -9223372036854775808 ≤ f + l := by omega
  have b2 : f + l ≤ 9223372036854775807 := by omega
  have b3 : -9223372036854775808 ≤ (m : Int) := by omega
  have b4 : (m : Int) ≤ 9223372036854775807 := by omega
  have b5 : (k : Int) ≤ 9223372036854775807 := by omega
  have b6 : -9223372036854775808 ≤ (k : Int) := by omega
  unfold delay_sum_line
  simp only [show (!((2 : Int) == 0)) = true from rfl, show (!((2 : Nat) == 0)) = true from rfl, cond_true, wrap64_id b1 b2]
  rcases hm with rfl | rfl
  · have e3 := line_even hσ
    have em : Int.tmod ((2 * m : Nat) : Int) 2 = 0 := by rw [show ((2 * m : Nat) : Int) = 2 * (m : Int) by omega]; exact Int.mul_tmod_right 2 _
    have e1 : Int.tdiv ((2 * m : Nat) : Int) 2 = (m : Int) := by rw [show ((2 * m : Nat) : Int) = 2 * (m : Int) by omega]; exact Int.mul_tdiv_cancel_left _ (by decide)
    simp only [em, e1, wrap64_id b3 b4, show ((0 : Int) == 0) = true from rfl, cond_true]
    rw [sadd_ n (f + l) _ s ⟨b1, b2⟩ ⟨b3, b4⟩ (by rw [e3]; exact h1) (by rw [e3]; exact h2) h3 h4, e3]
    rfl
  · obtain ⟨c, hc, e3⟩ := line_odd hσ
    have em : Int.tmod ((2 * m + 1 : Nat) : Int) 2 = 1 := by rw [tmod_pos (by decide), if_pos (by omega)]; omega
    have b7 : -9223372036854775808 ≤ c := by omega
    have b8 : c ≤ 9223372036854775807 := by omega
    have e1 : Int.tdiv (f + l) 2 = c := by rw [hc]; exact Int.mul_tdiv_cancel_left _ (by decide)
    simp only [em, e1, wrap64_id b7 b8, show ((1 : Int) == 0) = false from rfl, cond_false]
    rw [sadd_ n c _ s ⟨b7, b8⟩ ⟨b6, b5⟩ (by rw [e3]; exact h1) (by rw [e3]; exact h2) h3 h4, e3]
    rfl
/-- How often one may fall by d. -/
theorem falls {q d : Int} {k : Nat} (hq : 0 ≤ q) (hd : 0 < d) (hk : q < d * k) : ∃ m : Nat, q / d = m ∧ m < k ∧ d * (m : Int) ≤ q ∧ ∀ j : Nat, m < j → q ≤ d * (j : Int) := by
  obtain ⟨m, hm⟩ : ∃ m : Nat, q / d = m := Int.eq_ofNat_of_zero_le (Int.ediv_nonneg hq (by omega))
  have hq1 : d * (q / d) ≤ q := Int.mul_ediv_self_le (by omega)
  have hq2 := Int.lt_mul_ediv_self_add (x := q) (k := d) hd
  rw [hm] at hq1 hq2
  refine ⟨m, hm, ?_, hq1, fun j hj => ?_⟩
  · apply Nat.lt_of_not_le
    intro hle
    have := Int.mul_le_mul_of_nonneg_left (show (k : Int) ≤ m by omega) (show 0 ≤ d by omega)
    omega
  · have h6 := Int.mul_le_mul_of_nonneg_left (show (m : Int) + 1 ≤ j by omega) (show 0 ≤ d by omega)
    rw [Int.mul_add, Int.mul_one] at h6
    omega
theorem strPlain_ (n : Nat) (q by_ s : Int) (k : Nat) (hq : 0 ≤ q) (hq' : q ≤ 8000000000000) (hb : -1000000000 ≤ by_) (hb' : by_ ≤ 1000000000) (hk : k ≤ 6000) (h3 : 0 ≤ s) (h4 : s ≤ 100000000000000000) (hp : 0 ≤ q + by_ * k) :
    delay_sum_line n (q + by_, q + by_ * k, (k : Int), s) = some (s + ss q by_ k) := by
  have hm := mul_lo hb hb' (show (0 : Int) ≤ k by omega) (show (k : Int) ≤ 6000 by omega) (by decide)
  have hss := ss_le hb' hq hq' k hk
  have hsn := ss_nonneg (q := q) by_ k
  have h0 := ss_pos hq k hp
  generalize ss q by_ k = z at hss hsn h0 ⊢
  generalize by_ * (k : Int) = y at hm h0 hp ⊢
  exact sline_ n _ _ s z k h0 (by omega) (by omega) (by omega) (by omega) hk (by omega) (by omega) (by omega) (by omega)
theorem stretch_ (n : Nat) (q by_ s : Int) (k : Nat) (hq : 0 ≤ q) (hq' : q ≤ 8000000000000) (hb : -1000000000 ≤ by_) (hb' : by_ ≤ 1000000000) (hk : k ≤ 6000) (h3 : 0 ≤ s) (h4 : s ≤ 100000000000000000) :
    delay_sum_stretch n (q, by_, (k : Int), s) = some (max 0 (q + by_ * k), s + ss q by_ k) := by
  have hm := mul_lo hb hb' (show (0 : Int) ≤ k by omega) (show (k : Int) ≤ 6000 by omega) (by decide)
  have w1 : wrap64 (by_ * (k : Int)) = by_ * k := wrap64_id (by omega) (by omega)
  have w2 : wrap64 (q + by_ * k) = q + by_ * k := by clear w1; exact wrap64_id (by omega) (by omega)
  have w3 : wrap64 (q + by_) = q + by_ := by clear w1 w2; exact wrap64_id (by omega) (by omega)
  have w4 : wrap64 (0 - by_) = -by_ := by clear w1 w2 w3; rw [wrap64_id (by omega) (by omega)]; omega
  unfold delay_sum_stretch letJ
  simp only [w1, w2, w3, w4]
  clear w1 w2 w3 w4
  by_cases h5 : q + by_ * k < 0
  · have h0 : by_ < 0 := by
      apply Int.lt_of_not_ge
      intro h
      have := Int.mul_nonneg h (show (0 : Int) ≤ k by omega)
      omega
    obtain ⟨d, rfl⟩ : ∃ d : Int, by_ = -d := ⟨-by_, by omega⟩
    have hd0 : 0 < d := by omega
    obtain ⟨m, hm1, hm2, hm3, hm4⟩ := falls (q := q) (d := d) (k := k) hq hd0 (by rw [Int.neg_mul] at h5; omega)
    have hne : (!(d == 0)) = true := by simp; omega
    have hdm : 0 ≤ d * (m : Int) := Int.mul_nonneg (by omega) (by omega)
    have e1 : Int.tdiv q d = (m : Int) := by rw [Int.tdiv_eq_ediv_of_nonneg hq, hm1]
    have w5 : wrap64 (m : Int) = m := wrap64_id (by omega) (by omega)
    have w6 : wrap64 (-d * (m : Int)) = -d * m := by clear w5; rw [Int.neg_mul]; exact wrap64_id (by omega) (by omega)
    have w7 : wrap64 (q + -d * (m : Int)) = q + -d * m := by clear w5 w6; rw [Int.neg_mul]; exact wrap64_id (by omega) (by omega)
    have hcut : ss q (-d) k = ss q (-d) m := ss_cut m k (by omega) fun j hj hj' => by
      have := hm4 j hj
      rw [Int.neg_mul]; omega
    simp only [h0, h5, decide_true, cond_true, Int.neg_neg, hne, e1, w5, w6, w7]
    rw [strPlain_ n q (-d) s m hq hq' hb hb' (by omega) h3 h4 (by rw [Int.neg_mul]; omega), hcut, Int.max_eq_left (by omega)]
    rfl
  · have hp : 0 ≤ q + by_ * k := by omega
    have hl := strPlain_ n q by_ s k hq hq' hb hb' hk h3 h4 hp
    rw [Int.max_eq_right hp]
    by_cases h0 : by_ < 0
    · simp only [h0, h5, decide_true, decide_false, cond_true, cond_false, hl]
      rfl
    · simp only [h0, decide_false, cond_false, hl]
      rfl
/-- The ticks alike from here on. -/
theorem alikeFn_ (V S C t : Int) (a : Int × Int) (h1 : 1 ≤ C) (h2 : C ≤ 6000) (ht : 0 ≤ t) (ht' : t < C) :
    ∃ k : Nat, (1 ≤ k ∧ t + k ≤ C ∧ ∀ j : Nat, j < k → gr C a (t + j) = gr C a t) ∧ Ev (fun n => delay_alike n (V, S, a.1, a.2, C, t)) (gr C a t, (k : Int)) := by
  have hin : ∀ n, circle_In n (C, a.1, a.2, t) = some (gr C a t) := fun n => by
    rw [in_]; unfold gr; congr 1; exact decide_eq_decide.2 ⟨fun h => h.2.2, fun h => ⟨h1, h2, h⟩⟩
  -- the loop over arcs in form, one of which has the tick
  have loop : ∀ (T : Int → Prop) (l : List (Int × Int)), Arcs C T l → l.length ≤ 3 → TS C l t → (∀ j, 0 ≤ j → j < C → T j → gr C a j = gr C a t) →
      ∃ y : (Bool × Int) ⊕ Bool, Ev (fun n => iterL (Y := (Bool × Int) ⊕ (Bool)) n (fun (x6 : Int × Bool × Int × Int × Int × Int × Int × Int × Int × List (Int × Int)) =>
      let e0 := atI (0, 0) x6.2.2.2.2.2.2.2.2.2 x6.2.2.2.1
      let e1 := e0.1
      let e2 := e0.2
      bif decide (x6.2.2.2.1 < x6.2.2.1) then
        bif inB x6.2.2.2.1 x6.2.2.2.2.2.2.2.2.2.length then
          (circle_In n (x6.2.2.2.2.2.2.2.2.1, e1, e2, x6.1)).bind fun y7 =>
          bif !y7 then
            some (.inl (x6.1, x6.2.1, x6.2.2.1, wrap64 (x6.2.2.2.1 + 1), x6.2.2.2.2))
          else
          bif !(x6.2.2.2.2.2.2.2.2.1 == 0) then
            some (.inr (.inl (x6.2.1, mn (wrap64 (e2 - (Int.tmod (wrap64 ((wrap64 (x6.1 - e1)) + x6.2.2.2.2.2.2.2.2.1)) x6.2.2.2.2.2.2.2.2.1))) (wrap64 (x6.2.2.2.2.2.2.2.2.1 - x6.1)))))
          else
          none
        else
        none
      else
      some (.inr (.inr x6.2.1))) (t, gr C a t, (l.length : Int), 0, V, S, a.1, a.2, C, l)) y ∧ ∃ k : Nat, y = .inl (gr C a t, (k : Int)) ∧ 1 ≤ k ∧ t + k ≤ C ∧ ∀ j : Nat, j < k → gr C a (t + j) = gr C a t := by
    intro T l hA hl hts hT
    refine Ev.iterP (fun x => ∃ i : Nat, i ≤ l.length ∧ x = (t, gr C a t, (l.length : Int), (i : Int), V, S, a.1, a.2, C, l) ∧ ∀ m, m < i → ¬ HasT C (l.getD m (0, 0)) t) (fun x => (x.2.2.1 - x.2.2.2.1).toNat) _ ?_ _ ⟨0, by omega, rfl, fun m hm => by omega⟩
    rintro x ⟨i, hi, rfl, hno⟩
    have hlt : i < l.length := by
      apply Nat.lt_of_le_of_ne hi
      intro e
      obtain ⟨b, hb, hh⟩ := hts
      obtain ⟨m, hm, rfl⟩ := List.mem_iff_getElem.1 hb
      exact hno m (by omega) (by rw [getD_lt _ _ _ hm]; exact hh)
    simp only [atI_nat, inB_nat, decide_eq_true hlt, ofNat_lt_true hlt, cond_true]
    obtain ⟨b, hb⟩ : ∃ b, l.getD i (0, 0) = b := ⟨_, rfl⟩
    rw [hb]
    have hbm : IsArc C T b := (hA.mem b).1 (by rw [← hb]; exact getD_mem _ _ _ hlt)
    simp only [in_, Option.bind_some]
    by_cases hh : HasT C b t
    · right
      refine ⟨.inl (gr C a t, mn (wrap64 (b.2 - (Int.tmod (wrap64 ((wrap64 (t - b.1)) + C)) C))) (wrap64 (C - t))), Ev.const fun n => ?_, ?_⟩
      · rw [decide_eq_true (show 1 ≤ C ∧ C ≤ 6000 ∧ HasT C b t from ⟨h1, h2, hh⟩)]
        have hc : (!(C == 0)) = true := by simp; omega
        simp only [Bool.not_true, cond_false, hc, cond_true]
      · have hb2 := hbm
        obtain ⟨b1, b2, b3, b4, _, _⟩ := hbm
        have e1 : wrap64 (t - b.1) = t - b.1 := wrap64_id (by omega) (by omega)
        have e2 : wrap64 (t - b.1 + C) = t - b.1 + C := wrap64_id (by omega) (by omega)
        have e3 : Int.tmod (t - b.1 + C) C = (t - b.1) % C := by rw [tmod_pos (by omega), if_pos (by omega), Int.add_emod_right]
        have g1 := Int.emod_nonneg (t - b.1) (show C ≠ 0 by omega)
        have g2 := Int.emod_lt_of_pos (t - b.1) (show 0 < C by omega)
        have e4 : wrap64 (b.2 - (t - b.1) % C) = b.2 - (t - b.1) % C := wrap64_id (by omega) (by omega)
        have e5 : wrap64 (C - t) = C - t := wrap64_id (by omega) (by omega)
        rw [e1, e2, e3, e4, e5, mn_eq]
        have hge : (t - b.1) % C < b.2 := by
          rcases hh.2 with h | h
          · omega
          · exact h
        obtain ⟨k, hk⟩ : ∃ k : Nat, min (b.2 - (t - b.1) % C) (C - t) = k := Int.eq_ofNat_of_zero_le (by omega)
        refine ⟨k, by rw [hk], by omega, by omega, fun j hj => ?_⟩
        have hTj : T (t + j) := by
          refine hb2.in_ (by omega) (by omega) ⟨hh.1, ?_⟩
          right
          have e6 : (t + (j : Int) - b.1) = (t - b.1) + j := by omega
          rw [e6, ← Int.emod_add_emod, Int.emod_eq_of_lt (by omega) (by omega)]
          omega
        exact hT _ (by omega) (by omega) hTj
    · left
      refine ⟨(t, gr C a t, (l.length : Int), ((i + 1 : Nat) : Int), V, S, a.1, a.2, C, l), Ev.const fun n => ?_, ⟨i + 1, by omega, rfl, fun m hm => ?_⟩, ?_⟩
      · rw [decide_eq_false (fun h => hh h.2.2)]
        simp only [Bool.not_false, cond_true, wrap_succ (show i < 9223372036854775807 by omega)]
      · by_cases e : m = i
        · rw [e, hb]; exact hh
        · exact hno m (by omega)
      · simp only; omega
  have hTS : TS C [a] t ↔ gr C a t = true := by unfold TS gr; simp
  have hTSj : ∀ j, TS C [a] j ↔ gr C a j = true := fun j => by unfold TS gr; simp
  by_cases hg : gr C a t = true
  · obtain ⟨y, hy, k, rfl, hk1, hk2, hk3⟩ := loop (TS C [a]) (setOf C [a]) (setOf_arcs h1 h2 _) (by have := setOf_len C [a]; simp at this; omega) ((setOf_ts h1 h2 _ ht ht').2 (hTS.2 hg)) (fun j _ _ hj => by rw [(hTSj j).1 hj, hg])
    refine ⟨k, ⟨hk1, hk2, hk3⟩, ?_⟩
    unfold delay_alike letJ
    refine Ev.bindS hin ?_
    refine Ev.bind (set_ C [a] (by simp)) ?_
    simp only [hg, Bool.not_true, cond_false]
    rw [hg] at hy
    exact Ev.bind hy (Ev.ret _)
  · have hg' : gr C a t = false := by simpa using hg
    obtain ⟨y, hy, k, rfl, hk1, hk2, hk3⟩ := loop (fun j => ¬ TS C [a] j) (restOf C [a]) (restOf_arcs h1 h2 _) (by have := restOf_len C [a]; simp at this; omega) ((restOf_ts h1 h2 _ ht ht').2 fun h => hg (hTS.1 h)) (fun j _ _ hj => by rw [hg']; exact Bool.eq_false_iff.2 fun h => hj ((hTSj j).2 h))
    refine ⟨k, ⟨hk1, hk2, hk3⟩, ?_⟩
    unfold delay_alike letJ
    refine Ev.bindS hin ?_
    refine Ev.bind (set_ C [a] (by simp)) ?_
    simp only [hg', Bool.not_false, cond_true]
    refine Ev.bind (rest_ C [a] (by simp)) ?_
    rw [hg'] at hy
    exact Ev.bind hy (Ev.ret _)
end Go.Proofs.YtiildimlelphhaaGreatDoor.Fn
