/- What the document's fractions come to. -/
import Derived.Test.YtiildimlelphhaaGreatDoorPartsF
namespace Go.Proofs.YtiildimlelphhaaGreatDoor.Fn
set_option linter.unusedVariables false
open Go Go.RowKit Go.Den Go.Circ

/-- A fraction in its right form. -/
def rgt (a d : Int) : Bool := decide (1 ≤ d) && (Nat.gcd a.natAbs d.natAbs == 1)
theorem rgt_pos {a d : Int} (h : rgt a d = true) : 1 ≤ d := by unfold rgt at h; simp at h; exact h.1
theorem rgt_gcd {a d : Int} (h : rgt a d = true) : Nat.gcd a.natAbs d.natAbs = 1 := by unfold rgt at h; simp at h; exact h.2
theorem wpos {d : Int} (h : 1 ≤ d) (hd : I64 d) : IntKind.wrap .u64 d = (d.natAbs : Int) := by
  have := hd.2
  rw [wu64]; omega
theorem rright02_ (a d : Int) (ha : I64 a) (hd : I64 d) : Ev (fun n => ref02_Right n (a, d)) (rgt a d) := by
  unfold ref02_Right rgt
  have := ha.1; have := ha.2; have := hd.1; have := hd.2
  by_cases h : 1 ≤ d
  · simp only [decide_eq_true h, cond_true, Bool.true_and, wpos h hd]
    refine Ev.bindS (fun n => rsize_ n a ha) ?_
    refine Ev.bind (rgcd02_ a.natAbs d.natAbs (by omega) (by omega)) ?_
    have e : ((((Nat.gcd a.natAbs d.natAbs : Nat) : Int) == 1)) = (Nat.gcd a.natAbs d.natAbs == 1) := by
      generalize Nat.gcd a.natAbs d.natAbs = g
      rw [Bool.eq_iff_iff, beq_iff_eq, beq_iff_eq]; omega
    rw [e]; exact Ev.ret _
  · simp only [decide_eq_false h, cond_false, Bool.false_and]
    exact Ev.ret _
theorem rnorm_ (a d : Int) (ha : I64 a) (hd : I64 d) (h : rgt a d = true) : Ev (fun n => ref02_Norm n (a, d)) (a, d) := by
  unfold ref02_Norm
  refine Ev.bind (rright02_ a d ha hd) ?_
  simp only [h, Bool.not_true, cond_false]
  exact Ev.ret _
theorem few_dec (p q r s : Prop) [Decidable p] [Decidable q] [Decidable r] [Decidable s] :
    (bif decide p then bif decide q then bif decide r then some (decide s) else some false else some false else some false) = some (decide (p ∧ q ∧ r ∧ s)) := by
  by_cases h1 : p
  · by_cases h2 : q
    · by_cases h3 : r
      · by_cases h4 : s <;> simp [h1, h2, h3, h4]
      · simp [h1, h2, h3]
    · simp [h1, h2]
  · simp [h1]
theorem few_e (x : Nat) : decide ((x : Int) < 1073741824) = decide (x < 1073741824) := decide_eq_decide.2 (by omega)
theorem few_txt (n : Nat) (a b c d : Int) : ref02_few n (a, b, c, d) = (ref01_Size n a).bind fun y1 => bif decide (y1 < 1073741824) then (ref01_Size n c).bind fun y2 => bif decide (y2 < 1073741824) then bif decide (b < 1073741824) then some (decide (d < 1073741824)) else some false else some false else some false := rfl
theorem rfew_ (n : Nat) (a b c d : Int) (ha : I64 a) (hc : I64 c) : ref02_few n (a, b, c, d) = some (decide (a.natAbs < 1073741824 ∧ c.natAbs < 1073741824 ∧ b < 1073741824 ∧ d < 1073741824)) := by
  rw [few_txt, rsize_ n a ha, Option.bind_some, rsize_ n c hc, Option.bind_some, few_e, few_e]
  exact few_dec _ _ _ _
theorem redF_zero (s t : Bool) (D : Nat) : redF s 0 D = redF t 0 D := by rw [redF_made, redF_made, Nat.zero_div]; exact madeF_zero _ _ _
theorem prod_small {a c : Int} (ha : a.natAbs < 1073741824) (hc : c.natAbs < 1073741824) : wrap64 (a * c) = a * c ∧ I64 (a * c) := by
  have h := Nat.mul_le_mul (show a.natAbs ≤ 1073741823 by omega) (show c.natAbs ≤ 1073741823 by omega)
  rw [← Int.natAbs_mul] at h
  generalize a * c = p at h
  exact ⟨wrap64_id (by omega) (by omega), by omega, by omega⟩
theorem sgn_mul {a c : Int} (ha : a ≠ 0) (hc : c ≠ 0) : decide (a * c < 0) = !(decide (a < 0) == decide (c < 0)) := by
  rcases Int.lt_or_gt_of_ne ha with h1 | h1 <;> rcases Int.lt_or_gt_of_ne hc with h2 | h2
  · have := Int.mul_pos_of_neg_of_neg h1 h2
    rw [decide_eq_false (by omega), decide_eq_true h1, decide_eq_true h2]; rfl
  · have := Int.mul_neg_of_neg_of_pos h1 h2
    rw [decide_eq_true this, decide_eq_true h1, decide_eq_false (by omega)]; rfl
  · have := Int.mul_neg_of_pos_of_neg h1 h2
    rw [decide_eq_true this, decide_eq_false (by omega), decide_eq_true h2]; rfl
  · have := Int.mul_pos h1 h2
    rw [decide_eq_false (by omega), decide_eq_false (by omega), decide_eq_false (by omega)]; rfl
theorem sgn_pos {a d : Int} (hd : 0 < d) : decide (a * d < 0) = decide (a < 0) := by
  by_cases h0 : a = 0
  · subst h0; rw [Int.zero_mul]
  · rw [sgn_mul h0 (by omega), decide_eq_false (show ¬ d < 0 by omega)]
    cases decide (a < 0) <;> rfl
/-- Two sizes multiplied and trimmed. -/
theorem tt_ (x y : Nat) (hx : x < 18446744073709551616) (hy : y < 18446744073709551616) : ∃ c d, (Okd d ∧ val d = x * y ∧ d.length ≤ 14) ∧ Ev (fun n => ref01_Times n ((x : Int), (y : Int))) (Dl c) ∧ Ev (fun n => ref02_trim n (Dl c)) (Dl d) := by
  obtain ⟨c, ⟨h1, h2, h3⟩, h4⟩ := times_ x y hx hy
  obtain ⟨d, ⟨k1, k2, k3⟩, k4⟩ := trim_ c h1 (by omega)
  exact ⟨c, d, ⟨k1, by rw [k2, h2], by omega⟩, h4, k4⟩
theorem rmul_ (a b c d : Int) (ha : I64 a) (hb : I64 b) (hc : I64 c) (hd : I64 d) (h1 : rgt a b = true) (h2 : rgt c d = true) :
    Ev (fun n => ref02_Mul n (a, b, c, d)) (redF (!(decide (a < 0) == decide (c < 0))) (a.natAbs * c.natAbs) (b.natAbs * d.natAbs)) := by
  unfold ref02_Mul
  have pb := rgt_pos h1
  have pd := rgt_pos h2
  refine Ev.bind (rnorm_ a b ha hb h1) (Ev.bind (rnorm_ c d hc hd h2) (Ev.bindS (fun n => rfew_ n a b c d ha hc) ?_))
  by_cases hf : a.natAbs < 1073741824 ∧ c.natAbs < 1073741824 ∧ b < 1073741824 ∧ d < 1073741824
  · obtain ⟨f1, f2, f3, f4⟩ := hf
    obtain ⟨w1, i1⟩ := prod_small f1 f2
    obtain ⟨w2, i2⟩ := prod_small (a := b) (c := d) (by omega) (by omega)
    simp only [decide_eq_true (show a.natAbs < 1073741824 ∧ c.natAbs < 1073741824 ∧ b < 1073741824 ∧ d < 1073741824 from ⟨f1, f2, f3, f4⟩), cond_true, w1, w2]
    have hbd : 0 < b * d := Int.mul_pos (by omega) (by omega)
    have e : ofF (a * c) (b * d) = redF (!(decide (a < 0) == decide (c < 0))) (a.natAbs * c.natAbs) (b.natAbs * d.natAbs) := by
      unfold ofF
      rw [if_neg (by clear w1 w2; omega), Int.natAbs_mul, Int.natAbs_mul]
      by_cases hz : a = 0 ∨ c = 0
      · have : a.natAbs * c.natAbs = 0 := by rcases hz with rfl | rfl <;> simp
        rw [this]; exact redF_zero _ _ _
      · rw [sgn_mul (fun h => hz (.inl h)) (fun h => hz (.inr h)), decide_eq_false (show ¬ b * d < 0 by clear w1 w2; omega)]
        congr 1
        cases decide (a < 0) <;> cases decide (c < 0) <;> rfl
    exact Ev.bind (e ▸ rof_ _ _ i1 i2) (Ev.ret _)
  · have := ha.1; have := ha.2; have := hb.2; have := hc.1; have := hc.2; have := hd.2
    simp only [decide_eq_false hf, cond_false, wpos pb hb, wpos pd hd]
    obtain ⟨u, v, ⟨v1, v2, v3⟩, t1, t2⟩ := tt_ a.natAbs c.natAbs (by omega) (by omega)
    obtain ⟨u', v', ⟨v1', v2', v3'⟩, t1', t2'⟩ := tt_ b.natAbs d.natAbs (by omega) (by omega)
    have low := lowest_ v v' (!(decide (a < 0) == decide (c < 0))) v1 v1' (by omega) (by omega) (by rw [v2']; exact Nat.mul_pos (by omega) (by omega))
    rw [v2, v2'] at low
    refine Ev.bindS (fun n => rsize_ n a ha) (Ev.bindS (fun n => rsize_ n c hc) ?_)
    exact Ev.bind t1 (Ev.bind t2 (Ev.bind t1' (Ev.bind t2' (Ev.bind low (Ev.ret _)))))
theorem rdiv_ (a b c d : Int) (ha : I64 a) (hb : I64 b) (hc : I64 c) (hd : I64 d) (h1 : rgt a b = true) (h2 : rgt c d = true) :
    Ev (fun n => ref02_Div n (a, b, c, d)) (if c = 0 then (0, 0, 3) else redF (!(decide (a < 0) == decide (c < 0))) (a.natAbs * d.natAbs) (b.natAbs * c.natAbs)) := by
  unfold ref02_Div
  have pb := rgt_pos h1
  have pd := rgt_pos h2
  refine Ev.bind (rnorm_ a b ha hb h1) (Ev.bind (rnorm_ c d hc hd h2) ?_)
  by_cases hc0 : c = 0
  · have e : (c == 0) = true := by rw [beq_iff_eq]; exact hc0
    rw [if_pos hc0]
    simp only [e, cond_true]
    exact Ev.ret _
  have e : (c == 0) = false := by rw [beq_eq_false_iff_ne]; exact hc0
  rw [if_neg hc0]
  simp only [e, cond_false]
  refine (Ev.bindS (fun n => rfew_ n a b c d ha hc) ?_)
  by_cases hf : a.natAbs < 1073741824 ∧ c.natAbs < 1073741824 ∧ b < 1073741824 ∧ d < 1073741824
  · obtain ⟨f1, f2, f3, f4⟩ := hf
    obtain ⟨w1, i1⟩ := prod_small (a := a) (c := d) f1 (by omega)
    obtain ⟨w2, i2⟩ := prod_small (a := b) (c := c) (by omega) f2
    simp only [decide_eq_true (show a.natAbs < 1073741824 ∧ c.natAbs < 1073741824 ∧ b < 1073741824 ∧ d < 1073741824 from ⟨f1, f2, f3, f4⟩), cond_true, w1, w2]
    have e : ofF (a * d) (b * c) = redF (!(decide (a < 0) == decide (c < 0))) (a.natAbs * d.natAbs) (b.natAbs * c.natAbs) := by
      unfold ofF
      rw [if_neg (Int.mul_ne_zero (by omega) hc0), Int.natAbs_mul, Int.natAbs_mul, sgn_pos (by omega), Int.mul_comm b c, sgn_pos (by omega)]
    exact Ev.bind (e ▸ rof_ _ _ i1 i2) (Ev.ret _)
  · have := ha.1; have := ha.2; have := hb.2; have := hc.1; have := hc.2; have := hd.2
    simp only [decide_eq_false hf, cond_false, wpos pb hb, wpos pd hd]
    obtain ⟨u, v, ⟨v1, v2, v3⟩, t1, t2⟩ := tt_ a.natAbs d.natAbs (by omega) (by omega)
    obtain ⟨u', v', ⟨v1', v2', v3'⟩, t1', t2'⟩ := tt_ b.natAbs c.natAbs (by omega) (by omega)
    have low := lowest_ v v' (!(decide (a < 0) == decide (c < 0))) v1 v1' (by omega) (by omega) (by rw [v2']; exact Nat.mul_pos (by omega) (by omega))
    rw [v2, v2'] at low
    refine Ev.bindS (fun n => rsize_ n a ha) ?_
    refine Ev.bind t1 (Ev.bind t2 ?_)
    refine Ev.bindS (fun n => rsize_ n c hc) ?_
    exact (Ev.bind t1' (Ev.bind t2' (Ev.bind low (Ev.ret _))))
theorem rgt_one : rgt 1 1 = true := by decide
theorem i64_one : I64 1 := ⟨by omega, by omega⟩
/-- One less a fraction that is not above it. -/
theorem rsub_ (a d : Int) (ha : I64 a) (hd : I64 d) (h1 : rgt a d = true) (h0 : 0 ≤ a) (hle : a ≤ d) :
    Ev (fun n => ref02_Sub n (1, 1, a, d)) (redF false (d - a).natAbs d.natAbs) := by
  unfold ref02_Sub
  have pd := rgt_pos h1
  have := ha.1; have := ha.2; have := hd.2
  refine Ev.bind (rnorm_ a d ha hd h1) ?_
  have em : ∀ n, ref02_minus n (a, d) = some (-a, d, true) := fun n => by
    unfold ref02_minus
    have e : (a == (-9223372036854775808)) = false := by rw [beq_eq_false_iff_ne]; omega
    have w : wrap64 (0 - a) = -a := by rw [wrap64_id (by omega) (by omega)]; omega
    simp only [e, cond_false, w]
  refine Ev.bindS em ?_
  simp only [cond_true]
  suffices h : Ev (fun n => ref02_Add n (1, 1, -a, d)) (redF false (d - a).natAbs d.natAbs) from Ev.bind h (Ev.ret _)
  have hna : I64 (-a) := ⟨by omega, by omega⟩
  have hr2 : rgt (-a) d = true := by unfold rgt at h1 ⊢; rw [Int.natAbs_neg]; exact h1
  unfold ref02_Add
  refine Ev.bind (rnorm_ 1 1 i64_one i64_one rgt_one) (Ev.bind (rnorm_ (-a) d hna hd hr2) (Ev.bindS (fun n => rfew_ n 1 1 (-a) d i64_one hna) ?_))
  by_cases hf : (1 : Int).natAbs < 1073741824 ∧ (-a).natAbs < 1073741824 ∧ (1 : Int) < 1073741824 ∧ d < 1073741824
  · simp only [decide_eq_true hf, cond_true]
    have w1 : wrap64 (wrap64 (1 * d) + wrap64 (-a * 1)) = d - a := by
      rw [Int.one_mul, Int.mul_one, wrap64_id (n := d) (by omega) (by omega), wrap64_id (n := -a) (by omega) (by omega), wrap64_id (by omega) (by omega)]; omega
    have w2 : wrap64 (1 * d) = d := by rw [Int.one_mul, wrap64_id (by omega) (by omega)]
    rw [w1, w2]
    have e : ofF (d - a) d = redF false (d - a).natAbs d.natAbs := by
      unfold ofF
      clear w1 w2
      rw [if_neg (by omega), decide_eq_false (show ¬ (d - a < 0) by omega), decide_eq_false (show ¬ (d < 0) by omega)]; rfl
    exact Ev.bind (e ▸ rof_ _ _ (by clear w1 w2; exact ⟨by omega, by omega⟩) hd) (Ev.ret _)
  · simp only [decide_eq_false hf, cond_false, wpos pd hd, wpos (show (1 : Int) ≤ 1 by omega) i64_one]
    have hp : 0 < d.natAbs := by omega
    obtain ⟨u, v, ⟨v1, v2, v3⟩, t1, t2⟩ := tt_ (1 : Int).natAbs d.natAbs (by omega) (by omega)
    obtain ⟨u', v', ⟨v1', v2', v3'⟩, t1', t2'⟩ := tt_ (-a).natAbs (1 : Int).natAbs (by omega) (by omega)
    rw [show (1 : Int).natAbs = 1 from rfl, Nat.one_mul] at v2
    rw [show (1 : Int).natAbs = 1 from rfl, Nat.mul_one, Int.natAbs_neg] at v2'
    refine Ev.bindS (fun n => rsize_ n 1 i64_one) ?_
    refine Ev.bind t1 (Ev.bind t2 ?_)
    refine Ev.bindS (fun n => rsize_ n (-a) hna) ?_
    refine Ev.bind t1' (Ev.bind t2' (Ev.bind t1 (Ev.bind t2 ?_)))
    have dn : decide ((1 : Int) < 0) = false := rfl
    by_cases ha0 : a = 0
    · subst ha0
      simp only [show ((decide ((1 : Int) < 0)) == decide (-(0 : Int) < 0)) = true from rfl, cond_true]
      obtain ⟨p, ⟨p1, p2, p3⟩, tp⟩ := plus_ v v' v1 v1' (by omega) (by omega)
      obtain ⟨q, ⟨q1, q2, q3⟩, tq⟩ := trim_ p p1 (by omega)
      have low := lowest_ q v false q1 v1 (by omega) (by omega) (by rw [v2]; exact hp)
      rw [q2, p2, v2, v2', show d.natAbs + (0 : Int).natAbs = (d - 0).natAbs by omega] at low
      exact Ev.bind tp (Ev.bind tq (Ev.bind low (Ev.ret _)))
    · have e : ((decide ((1 : Int) < 0)) == decide (-a < 0)) = false := by rw [dn, decide_eq_true (show -a < 0 by omega)]; rfl
      have hle2 : val v' ≤ val v := by rw [v2, v2']; omega
      obtain ⟨p, q, ⟨q1, q2, q3⟩, tp, tq⟩ := less_ v v' v1 v1' (by omega) hle2
      have low := lowest_ q v false q1 v1 (by omega) (by omega) (by rw [v2]; exact hp)
      rw [q2, v2, v2', show d.natAbs - a.natAbs = (d - a).natAbs by omega] at low
      simp only [e, cond_false]
      refine Ev.bind (order_ v v' v1 v1' (by omega) (by omega)) ?_
      simp only [ordF_ge, decide_eq_true hle2, cond_true]
      exact Ev.bind tp (Ev.bind tq (Ev.bind low (Ev.ret _)))
end Go.Proofs.YtiildimlelphhaaGreatDoor.Fn
