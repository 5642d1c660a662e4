/- Chapter 25's steady queue, of the program: what ticks do, together. -/
import Derived.Test.YtiildimlelphhaaGreatDoorLaw26S
import Derived.Test.YtiildimlelphhaaGreatDoorFnM0
namespace Go.Proofs.YtiildimlelphhaaGreatDoor.Fn
set_option linter.unusedVariables false
open Go Go.RowKit Go.Den Go.Circ

def qgr (C A L t : Int) : Bool := if L < 1 then false else if C ≤ L then true else decide ((t % C - A % C) % C < L)
def qnrm (C A L : Int) : Int × Int := if L < 1 then (0, 0) else if C ≤ L then (0, C) else (A % C, L)
theorem q_gr_nrm (C A L t : Int) (h1 : 1 ≤ C) : qgr C (qnrm C A L).1 (qnrm C A L).2 t = qgr C A L t := by
  unfold qnrm qgr
  by_cases hL : L < 1
  · simp [hL]
  · by_cases hC : C ≤ L
    · simp [hL, hC]; omega
    · simp [hL, hC]
theorem norm25 (n : Nat) (C A L : Int) (h1 : 1 ≤ C) (h2 : C ≤ 6000) : circle_Norm n (C, A, L) = some (qnrm C A L) := by
  have := norm_ n C (A, L)
  rw [this]
  unfold normOf qnrm
  simp only
  by_cases hL : L < 1
  · rw [if_pos (by omega), if_pos hL]
  · rw [if_neg (by omega), if_neg hL]
theorem in39 (n : Nat) (C A L t : Int) (h1 : 1 ≤ C) (h2 : C ≤ 6000) : circle_In n (C, A, L, t) = some (qgr C A L t) := by
  have := in_ n C (A, L) t
  rw [this]
  congr 1
  unfold qgr HasT
  simp only
  by_cases hL : L < 1
  · rw [if_pos hL, decide_eq_false (by omega)]
  · rw [if_neg hL]
    by_cases hC : C ≤ L
    · rw [if_pos hC, decide_eq_true (by omega)]
    · rw [if_neg hC, ← Int.sub_emod]
      exact decide_eq_decide.2 (by omega)
theorem q_gr_cycle (C A L t : Int) : qgr C A L (t + C) = qgr C A L t := by unfold qgr; simp
/-- Within one cycle, for an arc in form. -/
theorem q_gr_in (C a l t : Int) (ha : 0 ≤ a) (ha' : a < C) (hl : 0 < l) (hl' : l < C) (ht : 0 ≤ t) (ht' : t < C) : qgr C a l t = if a ≤ t then decide (t - a < l) else decide (t - a + C < l) := by
  unfold qgr
  rw [if_neg (by omega), if_neg (by omega), Int.emod_eq_of_lt ht ht', Int.emod_eq_of_lt ha ha']
  by_cases h : a ≤ t
  · rw [Int.emod_eq_of_lt (by omega) (by omega)]; simp [h]
  · have : (t - a) % C = t - a + C := by
      rw [← Int.add_emod_right, Int.emod_eq_of_lt (by omega) (by omega)]
    rw [this]; simp [h]
theorem q_nrm_in (C A L : Int) (h1 : 1 ≤ C) : 0 ≤ (qnrm C A L).1 ∧ (qnrm C A L).1 < C ∧ 0 ≤ (qnrm C A L).2 ∧ (qnrm C A L).2 ≤ C := by
  have hb1 := Int.emod_nonneg A (b := C) (by omega)
  have hb2 := Int.emod_lt_of_pos A (b := C) (by omega)
  unfold qnrm
  split
  · simp; omega
  · split
    · simp; omega
    · simp; omega
/-- How far the colour of a tick lasts. -/
theorem until36 (n : Nat) (V S A L C t : Int) (h1 : 1 ≤ C) (h2 : C ≤ 6000) (ht : 0 ≤ t) (ht' : t < C) :
    ∃ g m, queue_until n (V, S, A, L, C, t) = some (g, m) ∧ 1 ≤ m ∧ t + m ≤ C ∧ ∀ j, t ≤ j → j < t + m → qgr C A L j = g := by
  obtain ⟨ha, ha', hl, hl'⟩ := q_nrm_in C A L h1
  have hgr := fun j => q_gr_nrm C A L j h1
  simp only [queue_until, norm25 _ _ _ _ h1 h2, Option.bind_some]
  generalize qnrm C A L = p at *
  obtain ⟨a, l⟩ := p
  simp only at *
  by_cases hl0 : l = 0
  · subst hl0
    refine ⟨false, C - t, ?_, by omega, by omega, fun j _ _ => by rw [← hgr]; simp [qgr]⟩
    simp [letJ, wrap64_id (n := C - t) (by omega) (by omega)]
  · by_cases hlC : l = C
    · subst hlC
      refine ⟨true, l - t, ?_, by omega, by omega, fun j _ _ => by rw [← hgr]; simp [qgr]; omega⟩
      simp [letJ, wrap64_id (n := l - t) (by omega) (by omega)]
      omega
    · have hin := fun j (h3 : 0 ≤ j) (h4 : j < C) => q_gr_in C a l j ha ha' (by omega) (by omega) h3 h4
      have b1 : (l == 0) = false := by simp [hl0]
      have b2 : (l == C) = false := by simp [hlC]
      simp only [letJ, b1, b2, cond_false, in39 _ _ _ _ _ h1 h2, Option.bind_some]
      have w1 : wrap64 (a + l) = a + l := wrap64_id (by omega) (by omega)
      have w2 : wrap64 (C - t) = C - t := wrap64_id (by omega) (by omega)
      have w3 : wrap64 (a + l - C) = a + l - C := wrap64_id (by omega) (by omega)
      have w4 : wrap64 (a - t) = a - t := wrap64_id (by omega) (by omega)
      simp only [w1, w2, w3, w4, mn_eq]
      have hgt := hin t ht ht'
      by_cases hat : a ≤ t
      · rw [if_pos hat] at hgt
        by_cases htl : t - a < l
        · -- green, up to the end
          have : qgr C a l t = true := by rw [hgt]; simp [htl]
          have hnf : decide (t < a + l - C) = false := by simp; omega
          refine ⟨true, min (a + l) C - t, ?_, by omega, by omega, fun j h3 h4 => by rw [← hgr, hin j (by omega) (by omega), if_pos (by omega)]; simp; omega⟩
          rw [this]
          have w5 : wrap64 (min (a + l) C - t) = min (a + l) C - t := wrap64_id (by omega) (by omega)
          by_cases hCe : C < a + l
          · simp [hCe, hnf, w5]
          · simp [hCe, w5]
        · have : qgr C a l t = false := by rw [hgt]; simp; omega
          have hna : decide (t < a) = false := by simp; omega
          refine ⟨false, C - t, ?_, by omega, by omega, fun j h3 h4 => by rw [← hgr, hin j (by omega) (by omega), if_pos (by omega)]; simp; omega⟩
          rw [this]
          simp [hna]
      · rw [if_neg hat] at hgt
        by_cases htl : t - a + C < l
        · have : qgr C a l t = true := by rw [hgt]; simp [htl]
          have hCe : C < a + l := by omega
          have hfl : decide (t < a + l - C) = true := by simp; omega
          refine ⟨true, min (a + l - C) C - t, ?_, by omega, by omega, fun j h3 h4 => by rw [← hgr, hin j (by omega) (by omega), if_neg (by omega)]; simp; omega⟩
          rw [this]
          have w5 : wrap64 (min (a + l - C) C - t) = min (a + l - C) C - t := wrap64_id (by omega) (by omega)
          simp [hCe, hfl, w5]
        · have : qgr C a l t = false := by rw [hgt]; simp; omega
          have hya : decide (t < a) = true := by simp; omega
          refine ⟨false, a - t, ?_, by omega, by omega, fun j h3 h4 => by rw [← hgr, hin j (by omega) (by omega), if_neg (by omega)]; simp; omega⟩
          rw [this]
          simp [hya]

/-! ### Ticks, one by one -/
def stp (V S : Int) (g : Bool) (q : Int) : Int := if g then max 0 (q + V - S) else q + V
def qrn (V S : Int) (G : Int → Bool) : Nat → Int → Int → Int
  | 0, _, q => q
  | k + 1, t, q => qrn V S G k (t + 1) (stp V S (G t) q)
/-- The greatest queue that is met, the first one too. -/
def qpk (V S : Int) (G : Int → Bool) : Nat → Int → Int → Int
  | 0, _, q => q
  | k + 1, t, q => max q (qpk V S G k (t + 1) (stp V S (G t) q))
section
variable {V S : Int} {G H : Int → Bool}
theorem q_stp_nonneg (hV : 0 ≤ V) {q : Int} (hq : 0 ≤ q) (g : Bool) : 0 ≤ stp V S g q := by unfold stp; split <;> omega
theorem q_stp_le (hV : 0 ≤ V) (hS : 0 ≤ S) {q : Int} (hq : 0 ≤ q) (g : Bool) : stp V S g q ≤ q + V := by unfold stp; split <;> omega
theorem q_rn_nonneg (hV : 0 ≤ V) : ∀ (k : Nat) (t q : Int), 0 ≤ q → 0 ≤ qrn V S G k t q
  | 0, _, _, h => h
  | k + 1, t, q, h => q_rn_nonneg hV k (t + 1) _ (q_stp_nonneg hV h _)
theorem q_rn_le (hV : 0 ≤ V) (hS : 0 ≤ S) : ∀ (k : Nat) (t q : Int), 0 ≤ q → qrn V S G k t q ≤ q + k * V := by
  intro k
  induction k with
  | zero => intro t q _; simp [qrn]
  | succ k ih =>
    intro t q hq
    have h1 := ih (t + 1) _ (q_stp_nonneg (S := S) hV hq (G t))
    have h2 := q_stp_le hV hS hq (G t)
    simp only [qrn]
    have : ((k + 1 : Nat) : Int) * V = k * V + V := by rw [Int.natCast_add, Int.add_mul]; simp
    omega
theorem q_rn_add : ∀ (k l : Nat) (t q : Int), qrn V S G (k + l) t q = qrn V S G l (t + k) (qrn V S G k t q) := by
  intro k
  induction k with
  | zero => intro l t q; simp [qrn]
  | succ k ih =>
    intro l t q
    rw [Nat.succ_add]
    simp only [qrn]
    rw [ih]
    congr 1
    omega
theorem q_pk_ge : ∀ (k : Nat) (t q : Int), q ≤ qpk V S G k t q
  | 0, _, _ => Int.le_refl _
  | k + 1, t, q => by simp only [qpk]; omega
theorem q_rn_le_pk : ∀ (k : Nat) (t q : Int), qrn V S G k t q ≤ qpk V S G k t q
  | 0, _, _ => Int.le_refl _
  | k + 1, t, q => by have := q_rn_le_pk k (t + 1) (stp V S (G t) q); simp only [qpk, qrn]; omega
theorem q_pk_add : ∀ (k l : Nat) (t q : Int), qpk V S G (k + l) t q = max (qpk V S G k t q) (qpk V S G l (t + k) (qrn V S G k t q)) := by
  intro k
  induction k with
  | zero => intro l t q; have := q_pk_ge (V := V) (S := S) (G := G) l t q; simp [qrn, qpk]; omega
  | succ k ih =>
    intro l t q
    rw [Nat.succ_add]
    simp only [qpk, qrn]
    rw [ih]
    have : t + 1 + (k : Int) = t + ((k + 1 : Nat) : Int) := by omega
    rw [this]
    omega
theorem q_rn_congr : ∀ (k : Nat) (t q : Int), (∀ j, t ≤ j → j < t + k → G j = H j) → qrn V S G k t q = qrn V S H k t q := by
  intro k
  induction k with
  | zero => intro t q _; rfl
  | succ k ih =>
    intro t q h
    simp only [qrn]
    rw [h t (by omega) (by omega), ih _ _ fun j h1 h2 => h j (by omega) (by omega)]
theorem q_pk_congr : ∀ (k : Nat) (t q : Int), (∀ j, t ≤ j → j < t + k → G j = H j) → qpk V S G k t q = qpk V S H k t q := by
  intro k
  induction k with
  | zero => intro t q _; rfl
  | succ k ih =>
    intro t q h
    simp only [qpk]
    rw [h t (by omega) (by omega), ih _ _ fun j h1 h2 => h j (by omega) (by omega)]
theorem q_rn_shift (p : Int) : ∀ (k : Nat) (t q : Int), (∀ j, G (j + p) = G j) → qrn V S G k (t + p) q = qrn V S G k t q := by
  intro k
  induction k with
  | zero => intro t q _; rfl
  | succ k ih =>
    intro t q h
    simp only [qrn]
    rw [h t, show t + p + 1 = t + 1 + p by omega, ih _ _ h]
theorem q_pk_shift (p : Int) : ∀ (k : Nat) (t q : Int), (∀ j, G (j + p) = G j) → qpk V S G k (t + p) q = qpk V S G k t q := by
  intro k
  induction k with
  | zero => intro t q _; rfl
  | succ k ih =>
    intro t q h
    simp only [qpk]
    rw [h t, show t + p + 1 = t + 1 + p by omega, ih _ _ h]
theorem q_times_shift {p : Int} (h : ∀ j, G (j + p) = G j) (c : Nat) (j : Int) : G (j + c * p) = G j := by
  induction c with
  | zero => simp
  | succ c ih =>
    have : j + ((c + 1 : Nat) : Int) * p = j + c * p + p := by rw [Int.natCast_add, Int.add_mul]; simp; omega
    rw [this, h, ih]
end
/-! ### Effects -/
/-- The effect e is that of k ticks from t on. -/
structure Eff (V S : Int) (e : Int × Int × Int × Int) (k : Nat) (G : Int → Bool) (t : Int) : Prop where
  by1 : -(k * 1000000000) ≤ e.1
  by2 : e.1 ≤ k * 1000000000
  ls1 : -2305843009213693952 - k * 1000000000 ≤ e.2.1
  ls2 : e.2.1 ≤ k * 1000000000
  tp1 : 0 ≤ e.2.2.1
  tp2 : e.2.2.1 ≤ k * 1000000000
  hi1 : -2305843009213693952 - k * 1000000000 ≤ e.2.2.2
  hi2 : e.2.2.2 ≤ k * 1000000000
  after : ∀ q, 0 ≤ q → max (q + e.1) e.2.1 = qrn V S G k t q
  peak : ∀ q, 0 ≤ q → max (q + e.2.2.1) e.2.2.2 = qpk V S G k t q
section
variable {V S : Int} {G H : Int → Bool}
theorem Eff.congr {e : Int × Int × Int × Int} {k : Nat} {t u : Int} (h : Eff V S e k G t) (h1 : ∀ q, qrn V S G k t q = qrn V S H k u q) (h2 : ∀ q, qpk V S G k t q = qpk V S H k u q) : Eff V S e k H u :=
  { h with after := fun q hq => (h.after q hq).trans (h1 q), peak := fun q hq => (h.peak q hq).trans (h2 q) }
theorem eff_nothing (t : Int) : Eff V S (0, -2305843009213693952, 0, -2305843009213693952) 0 G t where
  by1 := by simp
  by2 := by simp
  ls1 := by simp
  ls2 := by simp
  tp1 := by simp
  tp2 := by simp
  hi1 := by simp
  hi2 := by simp
  after := fun q hq => by simp [qrn]; omega
  peak := fun q hq => by simp [qpk]; omega
theorem eff_tick (n : Nat) (hV : 0 ≤ V) (hV' : V ≤ 1000000000) (hS : 0 ≤ S) (hS' : S ≤ 1000000000) (g : Bool) (t : Int) : ∃ e, queue_tick n (V, if g then S else 0) = some e ∧ Eff V S e 1 (fun _ => g) t := by
  unfold queue_tick
  cases g with
  | false =>
    have w : wrap64 (V - 0) = V := by rw [wrap64_id (by omega) (by omega)]; omega
    simp only [Bool.false_eq_true, if_false, w, mx_eq]
    refine ⟨_, rfl, ?_⟩
    constructor <;> simp <;> (try omega)
    · intro q hq; simp [qrn, stp]; omega
    · intro q hq; simp [qpk, stp]; omega
  | true =>
    have w : wrap64 (V - S) = V - S := wrap64_id (by omega) (by omega)
    simp only [if_true, w, mx_eq]
    by_cases h0 : 0 < S
    · simp only [h0, decide_true, cond_true]
      refine ⟨_, rfl, ?_⟩
      constructor <;> simp <;> (try omega)
      · intro q hq; simp [qrn, stp]; omega
      · intro q hq; simp [qpk, stp]; omega
    · simp only [h0, decide_false, cond_false]
      refine ⟨_, rfl, ?_⟩
      constructor <;> simp <;> (try omega)
      · intro q hq; simp [qrn, stp]; omega
      · intro q hq; simp [qpk, stp]; omega
theorem eff_then (n : Nat) (hV : 0 ≤ V) {a b : Int × Int × Int × Int} {k l : Nat} {t : Int} (hk : k ≤ 1073741824) (hl : l ≤ 1073741824) (ha : Eff V S a k G t) (hb : Eff V S b l G (t + k)) :
    ∃ c, queue_effect_then n (a.1, a.2.1, a.2.2.1, a.2.2.2, b) = some c ∧ Eff V S c (k + l) G t := by
  obtain ⟨a1, a2, a3, a4, a5, a6, a7, a8, a9, a10⟩ := ha
  obtain ⟨b1, b2, b3, b4, b5, b6, b7, b8, b9, b10⟩ := hb
  obtain ⟨x1, x2, x3, x4⟩ := a
  obtain ⟨y1, y2, y3, y4⟩ := b
  simp only at *
  unfold queue_effect_then
  simp only [mx_eq]
  rw [wrap64_id (n := x1 + y1) (by omega) (by omega), wrap64_id (n := x2 + y1) (by omega) (by omega), wrap64_id (n := x1 + y3) (by omega) (by omega), wrap64_id (n := x2 + y3) (by omega) (by omega)]
  refine ⟨_, rfl, ?_⟩
  have hkl : ((k + l : Nat) : Int) = k + l := by omega
  constructor <;> simp only [hkl] <;> (try omega)
  · intro q hq
    have h1 := a9 q hq
    have h2 := b9 (qrn V S G k t q) (q_rn_nonneg hV k t q hq)
    rw [q_rn_add, ← h2, ← h1]
    omega
  · intro q hq
    have h1 := a9 q hq
    have h3 := a10 q hq
    have h2 := b10 (qrn V S G k t q) (q_rn_nonneg hV k t q hq)
    rw [q_pk_add, ← h2, ← h3, ← h1]
    omega
theorem eff_shift {e : Int × Int × Int × Int} {k a : Nat} {p : Nat} {t : Int} (h : Eff V S e k G t) (hp : ∀ j, G (j + p) = G j) (hd : p ∣ a) : Eff V S e k G (t + a) := by
  obtain ⟨c, rfl⟩ := hd
  have hs : ∀ j, G (j + ((p * c : Nat) : Int)) = G j := by
    intro j
    have := q_times_shift hp c j
    have e : ((p * c : Nat) : Int) = c * p := by rw [Int.natCast_mul, Int.mul_comm]
    rw [e]; exact this
  exact h.congr (fun q => (q_rn_shift _ k t q hs).symm) (fun q => (q_pk_shift _ k t q hs).symm)
/-- As many times. -/
theorem eff_times (hV : 0 ≤ V) {e : Int × Int × Int × Int} {k : Nat} {t : Int} (hk : 0 < k) (he : Eff V S e k G t) (hp : ∀ j, G (j + k) = G j) {m : Int} (hm : 0 ≤ m) {T : Nat} (hT : m * k = T) (hT' : T ≤ 1073741824) :
    ∃ c, Ev (fun n => queue_effect_times n (e.1, e.2.1, e.2.2.1, e.2.2.2, m)) c ∧ Eff V S c T G t := by
  have main := Ev.iterP (L := fun n (x2 : Int × Int × Int × Int × Int × Int × Int × Int × Int × Int × Int × Int × Int) =>
    bif decide (0 < x2.1) then
      letJ (fun (x4 : Int × Int × Int × Int × Int × Int × Int × Int × Int × Int × Int × Int × Int) =>
        (queue_effect_then n (x4.2.1, x4.2.2.1, x4.2.2.2.1, x4.2.2.2.2.1, x4.2.1, x4.2.2.1, x4.2.2.2.1, x4.2.2.2.2.1)).bind fun y6 =>
        bif decide ((0 : Int) ≤ 1) then
          some (.inl (shr .i64 x4.1 1, y6.1, y6.2.1, y6.2.2.1, y6.2.2.2, x4.2.2.2.2.2))
        else
        none) fun J5 =>
      bif (bits2 .and .i64 x2.1 1) == 1 then
        (queue_effect_then n (x2.2.2.2.2.2.2.2.2.2.1, x2.2.2.2.2.2.2.2.2.2.2.1, x2.2.2.2.2.2.2.2.2.2.2.2.1, x2.2.2.2.2.2.2.2.2.2.2.2.2, x2.2.1, x2.2.2.1, x2.2.2.2.1, x2.2.2.2.2.1)).bind fun y3 =>
        J5 (x2.1, x2.2.1, x2.2.2.1, x2.2.2.2.1, x2.2.2.2.2.1, x2.2.2.2.2.2.1, x2.2.2.2.2.2.2.1, x2.2.2.2.2.2.2.2.1, x2.2.2.2.2.2.2.2.2.1, y3)
      else
      J5 x2
    else
    some (.inr x2.2.2.2.2.2))
    (fun x => ∃ a b : Nat, Eff V S x.2.2.2.2.2.2.2.2.2 a G t ∧ Eff V S (x.2.1, x.2.2.1, x.2.2.2.1, x.2.2.2.2.1) b G t ∧ k ∣ a ∧ k ∣ b ∧ 0 ≤ x.1 ∧ (a : Int) + x.1 * b = T ∧ 0 < b)
    (fun x => x.1.toNat) (fun y => Eff V S y.2.2.2.2 T G t) ?_ (m, e.1, e.2.1, e.2.2.1, e.2.2.2, 0, 0, 0, 0, (0, -2305843009213693952, 0, -2305843009213693952))
    ⟨0, k, eff_nothing t, he, Nat.dvd_zero k, Nat.dvd_refl k, hm, by simpa using hT, hk⟩
  · obtain ⟨y, h1, h2⟩ := main
    exact ⟨y.2.2.2.2, Ev.bind (Ev.const fun n => rfl) (Ev.bind h1 (Ev.ret _)), h2⟩
  · rintro ⟨m, e1, e2, e3, e4, z1, z2, z3, z4, acc⟩ ⟨a, b, ha, hb, hda, hdb, hm, hab, hb0⟩
    simp only at *
    by_cases h0 : 0 < m
    · left
      have hbm : (b : Int) ≤ m * b := by
        have := Int.mul_le_mul_of_nonneg_right (c := (b : Int)) (show (1 : Int) ≤ m by omega) (by omega)
        simpa using this
      have hbT : b ≤ 1073741824 := by omega
      have haT : a ≤ 1073741824 := by omega
      have hmT : m ≤ m * b := by
        have := Int.mul_le_mul_of_nonneg_left (c := m) (show (1 : Int) ≤ b by omega) (by omega)
        simpa using this
      simp only [h0, decide_true, cond_true, letJ, show decide ((0 : Int) ≤ 1) = true from rfl, and_one (m := m) (by omega) (by omega), shr_one]
      have hsq : ∀ n, ∃ c, queue_effect_then n (e1, e2, e3, e4, e1, e2, e3, e4) = some c ∧ Eff V S c (b + b) G t := fun n => eff_then n hV hbT hbT hb (eff_shift hb hp hdb)
      obtain ⟨c, hc1, hc2⟩ := hsq 0
      have hc : ∀ n, queue_effect_then n (e1, e2, e3, e4, e1, e2, e3, e4) = some c := fun n => hc1
      have hdd : k ∣ b + b := Nat.dvd_add hdb hdb
      by_cases hodd : m % 2 = 1
      · obtain ⟨d, hd1, hd2⟩ := eff_then 0 hV haT hbT ha (eff_shift hb hp hda)
        have hd : ∀ n, queue_effect_then n (acc.1, acc.2.1, acc.2.2.1, acc.2.2.2, e1, e2, e3, e4) = some d := fun n => hd1
        refine ⟨(m / 2, c.1, c.2.1, c.2.2.1, c.2.2.2, z1, z2, z3, z4, d), ?_, ⟨a + b, b + b, hd2, hc2, Nat.dvd_add hda hdb, hdd, by omega, ?_, by omega⟩, by omega⟩
        · refine Ev.const fun n => ?_
          have : (m % 2 == 1) = true := by simp [hodd]
          simp only [this, cond_true, hd, hc, Option.bind_some]
        · have e2 : m = m / 2 * 2 + 1 := by omega
          have e3 : m * (b : Int) = (m / 2) * (b + b) + b := by
            conv => lhs; rw [e2, Int.add_mul, Int.mul_assoc]
            rw [Int.one_mul]; congr 2; omega
          rw [e3] at hab
          have : ((a + b : Nat) : Int) = a + b := by omega
          have h4 : ((b + b : Nat) : Int) = b + b := by omega
          show ((a + b : Nat) : Int) + m / 2 * ((b + b : Nat) : Int) = T
          rw [this, h4]
          omega
      · refine ⟨(m / 2, c.1, c.2.1, c.2.2.1, c.2.2.2, z1, z2, z3, z4, acc), ?_, ⟨a, b + b, ha, hc2, hda, hdd, by omega, ?_, by omega⟩, by omega⟩
        · refine Ev.const fun n => ?_
          have : (m % 2 == 1) = false := by simp; omega
          simp only [this, cond_false, hc, Option.bind_some]
        · have e2 : m = m / 2 * 2 := by omega
          have e3 : m * (b : Int) = (m / 2) * (b + b) := by
            conv => lhs; rw [e2, Int.mul_assoc]
            congr 1; omega
          rw [e3] at hab
          have h4 : ((b + b : Nat) : Int) = b + b := by omega
          rw [h4]
          exact hab
    · right
      have hm0 : m = 0 := by omega
      subst hm0
      refine ⟨(z1, z2, z3, z4, acc), Ev.const fun n => by simp, ?_⟩
      simp at hab
      have hab' : a = T := by omega
      subst hab'
      exact ha
/-- A stretch of one colour. -/
theorem eff_row (hV : 0 ≤ V) (hV' : V ≤ 1000000000) (hS : 0 ≤ S) (hS' : S ≤ 1000000000) (A L C : Int) (g : Bool) {k : Nat} (hk : k ≤ 6000) {t : Int} (hg : ∀ j, t ≤ j → j < t + k → G j = g) :
    ∃ c, Ev (fun n => queue_row n (V, S, A, L, C, g, (k : Int))) c ∧ Eff V S c k G t := by
  obtain ⟨e, he1, he2⟩ := eff_tick 0 hV hV' hS hS' g t
  obtain ⟨c, hc1, hc2⟩ := eff_times hV (by omega) he2 (fun _ => rfl) (m := (k : Int)) (by omega) (T := k) (by simp) (by omega)
  refine ⟨c, ?_, hc2.congr (fun q => (q_rn_congr k t q fun j h1 h2 => (hg j h1 h2).symm)) (fun q => (q_pk_congr k t q fun j h1 h2 => (hg j h1 h2).symm))⟩
  have h := Ev.bind (F := fun n => queue_tick n (V, if g then S else 0)) (G := fun n y => (queue_effect_times n (y.1, y.2.1, y.2.2.1, y.2.2.2, (k : Int))).bind fun z => some z) (Ev.const fun n => he1) (Ev.bind hc1 (Ev.ret _))
  exact h.congr fun n => by cases g <;> rfl
end
section
variable {V S A L C : Int}
/-- From tick t to tick u of one cycle. -/
theorem eff_from (hV : 0 ≤ V) (hV' : V ≤ 1000000000) (hS : 0 ≤ S) (hS' : S ≤ 1000000000) (h1 : 1 ≤ C) (h2 : C ≤ 6000) {t u : Int} (ht : 0 ≤ t) (htu : t ≤ u) (hu : u ≤ C) {k : Nat} (hk : (k : Int) = u - t) :
    ∃ c, Ev (fun n => queue_from n (V, S, A, L, C, t, u)) c ∧ Eff V S c k (qgr C A L) t := by
  refine Ev.bindE (Q := fun y => y = (0, -2305843009213693952, 0, -2305843009213693952)) ⟨_, Ev.const fun n => rfl, rfl⟩ ?_
  rintro _ rfl
  refine Ev.bindE (Q := fun y : Int × Int × Int × Int × Int × Int × Int × Int => Eff V S y.2.2.2.2 k (qgr C A L) t) (Ev.iterP
    (fun x : Int × Int × Int × Int × Int × Int × Int × Int × Int × Int × Int × Int × Int × Int × Int => t ≤ x.1 ∧ x.1 ≤ u ∧ x.2.1 = u ∧ x.2.2.1 = V ∧ x.2.2.2.1 = S ∧ x.2.2.2.2.1 = A ∧ x.2.2.2.2.2.1 = L ∧ x.2.2.2.2.2.2.1 = C ∧ ∃ a : Nat, (a : Int) = x.1 - t ∧ Eff V S x.2.2.2.2.2.2.2.2.2.2.2 a (qgr C A L) t)
    (fun x => (u - x.1).toNat) _ ?_ _ ?_) ?_
  · rintro ⟨t', u', V', S', A', L', C', z1, z2, z3, z4, acc⟩ ⟨i1, i2, rfl, rfl, rfl, rfl, rfl, rfl, a, ha, hacc⟩
    simp only at *
    by_cases h0 : t' < u'
    · left
      obtain ⟨g, m, hg1, hm1, hm2, hg2⟩ := until36 0 V' S' A' L' C' t' h1 h2 (by omega) (by omega)
      have w1 : wrap64 (u' - t') = u' - t' := wrap64_id (by omega) (by omega)
      obtain ⟨b, hb⟩ : ∃ b : Nat, (b : Int) = min m (u' - t') := ⟨(min m (u' - t')).toNat, by omega⟩
      obtain ⟨c, hc1, hc2⟩ := eff_row (G := qgr C' A' L') hV hV' hS hS' A' L' C' g (k := b) (t := t') (by omega) (fun j h3 h4 => hg2 j h3 (by omega))
      have hta : t + (a : Int) = t' := by omega
      obtain ⟨d, hd1, hd2⟩ := eff_then 0 hV (k := a) (l := b) (by omega) (by omega) hacc (by rw [hta]; exact hc2)
      have w2 : wrap64 (t' + b) = t' + b := wrap64_id (by omega) (by omega)
      refine ⟨(t' + b, u', V', S', A', L', C', z1, z2, z3, z4, d), ?_, ⟨by simp only; omega, by simp only; omega, rfl, rfl, rfl, rfl, rfl, rfl, a + b, by simp only; omega, hd2⟩, by simp only; omega⟩
      simp only [h0, decide_true, cond_true]
      refine Ev.bind (a := (g, m)) (Ev.const fun n => hg1) ?_
      simp only [w1, mn_eq, ← hb]
      refine Ev.bind hc1 ?_
      refine Ev.bind (a := d) (Ev.const fun n => hd1) ?_
      rw [w2]
      exact Ev.ret _
    · right
      refine ⟨(z1, z2, z3, z4, acc), Ev.const fun n => by simp [h0], ?_⟩
      have : a = k := by omega
      rw [← this]; exact hacc
  · exact ⟨Int.le_refl _, htu, rfl, rfl, rfl, rfl, rfl, rfl, 0, by simp, eff_nothing t⟩
  · intro y hy
    exact Ev.retE _ hy
/-- Any number of ticks from any tick on. -/
theorem eff_all (hV : 0 ≤ V) (hV' : V ≤ 1000000000) (hS : 0 ≤ S) (hS' : S ≤ 1000000000) (h1 : 1 ≤ C) (h2 : C ≤ 6000) {t : Int} (ht : 0 ≤ t) {k : Nat} (hk : k ≤ 1073741824) :
    ∃ c, Ev (fun n => queue_all n (V, S, A, L, C, t, (k : Int))) c ∧ Eff V S c k (qgr C A L) t := by
  have m1 := Int.emod_nonneg t (b := C) (by omega)
  have m2 := Int.emod_lt_of_pos t (b := C) (by omega)
  have hmod : Int.tmod t C = t % C := Int.tmod_eq_emod_of_nonneg ht
  have hper : ∀ j, qgr C A L (j + C) = qgr C A L j := q_gr_cycle C A L
  obtain ⟨Cn, rfl⟩ := Int.eq_ofNat_of_zero_le (show 0 ≤ C by omega)
  -- from t's place in the cycle to t
  have back : ∀ c k', Eff V S c k' (qgr Cn A L) (t % Cn) → Eff V S c k' (qgr Cn A L) t := by
    intro c k' h
    obtain ⟨q, hq⟩ := Int.eq_ofNat_of_zero_le (Int.ediv_nonneg ht (show 0 ≤ (Cn : Int) by omega))
    have e : t = t % Cn + ((Cn * q : Nat) : Int) := by
      have := Int.emod_add_mul_ediv t Cn
      rw [hq] at this
      rw [Int.natCast_mul]; omega
    have := eff_shift (a := Cn * q) (p := Cn) h hper (Nat.dvd_mul_right _ _)
    rw [← e] at this
    exact this
  have w1 : wrap64 ((Cn : Int) - t % Cn) = Cn - t % Cn := wrap64_id (by omega) (by omega)
  have w2 : wrap64 ((k : Int) - (Cn - t % Cn)) = k - (Cn - t % Cn) := wrap64_id (by omega) (by omega)
  have w3 : wrap64 (t % Cn + k) = t % Cn + k := wrap64_id (by omega) (by omega)
  have hc0 : ((Cn : Int) == 0) = false := by simp; omega
  have unf : ∀ n, queue_all n (V, S, A, L, (Cn : Int), t, (k : Int)) = bif decide ((k : Int) ≤ Cn - t % Cn) then
      (queue_from n (V, S, A, L, (Cn : Int), t % Cn, t % Cn + k)).bind fun y1 => some y1
    else
      (queue_from n (V, S, A, L, (Cn : Int), t % Cn, Cn)).bind fun y2 =>
      (queue_from n (V, S, A, L, (Cn : Int), 0, Cn)).bind fun y3 =>
        (queue_effect_times n (y3.1, y3.2.1, y3.2.2.1, y3.2.2.2, wrap64 (Int.tdiv (k - (Cn - t % Cn)) Cn))).bind fun y4 =>
        (queue_effect_then n (y2.1, y2.2.1, y2.2.2.1, y2.2.2.2, y4)).bind fun y5 =>
          (queue_from n (V, S, A, L, (Cn : Int), 0, Int.tmod (k - (Cn - t % Cn)) Cn)).bind fun y6 =>
          (queue_effect_then n (y5.1, y5.2.1, y5.2.2.1, y5.2.2.2, y6)).bind fun y7 =>
          some y7 := by
    intro n
    simp only [queue_all, hmod, w1, w2, w3, hc0, Bool.not_false, cond_true]
  by_cases hle : (k : Int) ≤ Cn - t % Cn
  · obtain ⟨c, hc1, hc2⟩ := eff_from (A := A) (L := L) hV hV' hS hS' h1 h2 m1 (u := t % Cn + k) (by omega) (by omega) (k := k) (by omega)
    refine ⟨c, ?_, back c k hc2⟩
    refine Ev.congr (F := fun n => (queue_from n (V, S, A, L, (Cn : Int), t % Cn, t % Cn + k)).bind fun y1 => some y1) (Ev.bind hc1 (Ev.ret _)) fun n => ?_
    rw [unf]; simp only [hle, decide_true, cond_true]
  · -- the rest of this cycle, whole cycles, a part of one
    obtain ⟨j, hj⟩ : ∃ j : Nat, (j : Int) = Cn - t % Cn := ⟨(Cn - t % Cn).toNat, by omega⟩
    obtain ⟨r, hr⟩ : ∃ r : Nat, (r : Int) = k - (Cn - t % Cn) := ⟨(k - (Cn - t % Cn)).toNat, by omega⟩
    have hdiv : Int.tdiv (k - (Cn - t % Cn)) Cn = ((r / Cn : Nat) : Int) := by rw [← hr, Int.tdiv_eq_ediv_of_nonneg (by omega)]; simp
    have hmodr : Int.tmod (k - (Cn - t % Cn)) Cn = ((r % Cn : Nat) : Int) := by rw [← hr, Int.tmod_eq_emod_of_nonneg (by omega)]; simp
    have hrc : r / Cn * Cn + r % Cn = r := by rw [Nat.mul_comm]; exact Nat.div_add_mod r Cn
    have hrlt : r % Cn < Cn := Nat.mod_lt _ (by omega)
    have hTle : r / Cn * Cn ≤ r := Nat.div_mul_le_self r Cn
    have hqle : r / Cn ≤ r := Nat.div_le_self r Cn
    generalize r / Cn = q at *
    generalize r % Cn = m at *
    obtain ⟨y2, p1, p2⟩ := eff_from (A := A) (L := L) hV hV' hS hS' h1 h2 m1 (u := (Cn : Int)) (by omega) (by omega) (k := j) hj
    obtain ⟨y3, p3, p4⟩ := eff_from (A := A) (L := L) hV hV' hS hS' h1 h2 (t := 0) (u := (Cn : Int)) (by omega) (by omega) (by omega) (k := Cn) (by omega)
    obtain ⟨y4, p5, p6⟩ := eff_times hV (by omega) p4 hper (m := (q : Int)) (by omega) (T := q * Cn) (by rw [Int.natCast_mul]) (by omega)
    obtain ⟨y6, p7, p8⟩ := eff_from (A := A) (L := L) hV hV' hS hS' h1 h2 (t := 0) (u := (m : Int)) (by omega) (by omega) (by omega) (k := m) (by omega)
    have s1 : Eff V S y4 (q * Cn) (qgr Cn A L) (t % Cn + (j : Int)) := by
      have := eff_shift (a := Cn) (p := Cn) p6 hper (Nat.dvd_refl _)
      have e : t % Cn + (j : Int) = 0 + (Cn : Int) := by omega
      rw [e]; exact this
    obtain ⟨y5, p9, p10⟩ := eff_then 0 hV (by omega) (by omega) p2 s1
    have s2 : Eff V S y6 (m) (qgr Cn A L) (t % Cn + ((j + q * Cn : Nat) : Int)) := by
      have := eff_shift (a := Cn + q * Cn) (p := Cn) p8 hper (Nat.dvd_add (Nat.dvd_refl _) (Nat.dvd_mul_left _ _))
      have e : t % Cn + ((j + q * Cn : Nat) : Int) = 0 + ((Cn + q * Cn : Nat) : Int) := by omega
      rw [e]; exact this
    obtain ⟨y7, p11, p12⟩ := eff_then 0 hV (by omega) (by omega) p10 s2
    have w4 : wrap64 (q : Int) = (q : Int) := wrap64_id (by omega) (by omega)
    have hsum : j + q * Cn + m = k := by omega
    rw [hsum] at p12
    refine ⟨y7, ?_, back y7 k p12⟩
    refine Ev.congr ?_ unf
    simp only [hle, decide_false, cond_false, hdiv, hmodr, w4]
    exact Ev.bind p1 (Ev.bind p3 (Ev.bind p5 (Ev.bind (a := y5) (Ev.const fun n => p9) (Ev.bind p7 (Ev.bind (a := y7) (Ev.const fun n => p11) (Ev.ret _))))))
end
/-- How many ticks are green. -/
def qgc (G : Int → Bool) : Nat → Int → Nat
  | 0, _ => 0
  | k + 1, t => (if G t then 1 else 0) + qgc G k (t + 1)
section
variable {V S A L C : Int} {G : Int → Bool}
theorem q_gc_le : ∀ (k : Nat) (t : Int), qgc G k t ≤ k
  | 0, _ => Nat.le_refl _
  | k + 1, t => by have := q_gc_le k (t + 1); simp only [qgc]; split <;> omega
theorem q_gc_add : ∀ (k l : Nat) (t : Int), qgc G (k + l) t = qgc G k t + qgc G l (t + k) := by
  intro k
  induction k with
  | zero => intro l t; simp [qgc]
  | succ k ih =>
    intro l t
    rw [Nat.succ_add]
    simp only [qgc]
    rw [ih]
    have : t + 1 + (k : Int) = t + ((k + 1 : Nat) : Int) := by omega
    rw [this]; omega
theorem q_gc_all {g : Bool} : ∀ (k : Nat) (t : Int), (∀ j, t ≤ j → j < t + k → G j = g) → qgc G k t = if g then k else 0 := by
  intro k
  induction k with
  | zero => intro t _; simp [qgc]
  | succ k ih =>
    intro t h
    simp only [qgc]
    rw [h t (by omega) (by omega), ih (t + 1) fun j h1 h2 => h j (by omega) (by omega)]
    cases g <;> simp; omega
theorem q_gc_shift (p : Int) (h : ∀ j, G (j + p) = G j) : ∀ (k : Nat) (t : Int), qgc G k (t + p) = qgc G k t := by
  intro k
  induction k with
  | zero => intro t; rfl
  | succ k ih =>
    intro t
    simp only [qgc]
    rw [h t, show t + p + 1 = t + 1 + p by omega, ih]
/-- In a cycle as many ticks are green as the arc has. -/
theorem q_gc_cycle (h1 : 1 ≤ C) (k : Nat) (hk : (k : Int) = C) : (qgc (qgr C A L) k 0 : Int) = (qnrm C A L).2 := by
  obtain ⟨ha, ha', hl, hl'⟩ := q_nrm_in C A L h1
  have hg : qgr C A L = qgr C (qnrm C A L).1 (qnrm C A L).2 := by funext j; exact (q_gr_nrm C A L j h1).symm
  rw [hg]
  generalize qnrm C A L = p at *
  obtain ⟨a, l⟩ := p
  simp only at *
  by_cases hl0 : l = 0
  · subst hl0
    rw [q_gc_all (g := false) k 0 fun j _ _ => by simp [qgr]]
    simp
  · by_cases hlC : l = C
    · rw [q_gc_all (g := true) k 0 fun j _ _ => by unfold qgr; rw [if_neg (by omega), if_pos (by omega)]]
      simp; omega
    · obtain ⟨an, rfl⟩ := Int.eq_ofNat_of_zero_le ha
      obtain ⟨ln, rfl⟩ := Int.eq_ofNat_of_zero_le hl
      have hper : ∀ j, qgr C an ln (j + C) = qgr C an ln j := q_gr_cycle C an ln
      -- a cycle from 0, a cycle from the arc's begin
      have e1 : k = an + (k - an) := by omega
      have e2 : qgc (qgr C an ln) k 0 = qgc (qgr C an ln) k an := by
        have s1 : qgc (qgr C an ln) (an + (k - an)) 0 = qgc (qgr C an ln) an 0 + qgc (qgr C an ln) (k - an) (0 + an) := q_gc_add _ _ _
        have s2 : qgc (qgr C an ln) ((k - an) + an) an = qgc (qgr C an ln) (k - an) an + qgc (qgr C an ln) an (an + ((k - an : Nat) : Int)) := q_gc_add _ _ _
        have s3 : qgc (qgr C an ln) an (an + ((k - an : Nat) : Int)) = qgc (qgr C an ln) an 0 := by
          have := q_gc_shift C hper an 0
          rw [show (an : Int) + ((k - an : Nat) : Int) = 0 + C by omega]; exact this
        rw [← e1] at s1
        rw [show k - an + an = k by omega] at s2
        rw [s1, s2, s3, Int.zero_add]; omega
      rw [e2]
      have at_ : ∀ i, 0 ≤ i → i < C → qgr C an ln (an + i) = decide (i < ln) := by
        intro i h2 h3
        unfold qgr
        rw [if_neg (by omega), if_neg (by omega)]
        have : ((an + i) % C - an % C) % C = i := by
          rw [← Int.sub_emod]
          rw [show (an : Int) + i - an = i by omega, Int.emod_eq_of_lt h2 h3]
        rw [this]
      have s4 : qgc (qgr C an ln) (ln + (k - ln)) an = qgc (qgr C an ln) ln an + qgc (qgr C an ln) (k - ln) (an + ln) := q_gc_add _ _ _
      rw [show ln + (k - ln) = k by omega] at s4
      rw [s4, q_gc_all (g := true) ln an fun j h2 h3 => by
          have := at_ (j - an) (by omega) (by omega)
          rw [show (an : Int) + (j - an) = j by omega] at this
          rw [this]; simp; omega,
        q_gc_all (g := false) (k - ln) (an + ln) fun j h2 h3 => by
          have := at_ (j - an) (by omega) (by omega)
          rw [show (an : Int) + (j - an) = j by omega] at this
          rw [this]; simp; omega]
      simp
/-- A great queue only moves. -/
theorem q_rn_great (hV : 0 ≤ V) (hS : 0 ≤ S) : ∀ (k : Nat) (t q : Int), k * S ≤ q → qrn V S G k t q = q + k * V - S * qgc G k t := by
  intro k
  induction k with
  | zero => intro t q _; simp [qrn, qgc]
  | succ k ih =>
    intro t q hq
    have e1 : ((k + 1 : Nat) : Int) * S = k * S + S := by rw [Int.natCast_add, Int.add_mul]; simp
    have e2 : ((k + 1 : Nat) : Int) * V = k * V + V := by rw [Int.natCast_add, Int.add_mul]; simp
    have e3 : 0 ≤ (k : Int) * S := Int.mul_nonneg (by omega) hS
    rw [e1] at hq
    simp only [qrn, qgc]
    rw [e2]
    cases hg : G t with
    | true =>
      have : stp V S true q = q + V - S := by unfold stp; simp; omega
      rw [this, ih (t + 1) _ (by omega)]
      simp only [if_true]
      rw [Int.natCast_add, Int.mul_add]
      simp; omega
    | false =>
      have : stp V S false q = q + V := by unfold stp; simp
      rw [this, ih (t + 1) _ (by omega)]
      simp; omega
theorem eff_sum (hV : 0 ≤ V) (hS : 0 ≤ S) (hS' : S ≤ 1000000000) {e : Int × Int × Int × Int} {k : Nat} {t : Int} (hk : k ≤ 6000) (h : Eff V S e k G t) : e.1 = k * V - S * qgc G k t := by
  have hkS : (k : Int) * S ≤ 6000 * 1000000000 := by
    have h1 := Int.mul_le_mul_of_nonneg_right (c := S) (show (k : Int) ≤ 6000 by omega) hS
    omega
  have h1 := h.after 4611686018427387904 (by omega)
  rw [q_rn_great hV hS k t _ (by omega)] at h1
  have := h.by1
  have := h.ls2
  omega
theorem serves15 (n : Nat) (hR0 : (1 ≤ C ∧ C ≤ 6000) ∧ 0 ≤ V ∧ V ≤ 1000000000 ∧ 0 ≤ S ∧ S ≤ 1000000000) : queue_Serves n (V, S, A, L, C) = some (decide (V * C ≤ S * (qnrm C A L).2)) := by
  obtain ⟨⟨c1, c2⟩, v1, v2, s1, s2⟩ := id hR0
  obtain ⟨ha, ha', hl, hl'⟩ := q_nrm_in C A L c1
  have b1 : 0 ≤ V * C := Int.mul_nonneg v1 (by omega)
  have b2 : V * C ≤ 1000000000 * 6000 := by
    have h1 := Int.mul_le_mul_of_nonneg_right (c := C) v2 (by omega)
    omega
  have b3 : 0 ≤ S * (qnrm C A L).2 := Int.mul_nonneg s1 hl
  have b4 : S * (qnrm C A L).2 ≤ 1000000000 * 6000 := by
    have h1 := Int.mul_le_mul_of_nonneg_right (c := (qnrm C A L).2) s2 hl
    omega
  unfold queue_Serves
  simp only [show ∀ n, queue_Right n (V, S, A, L, C) = some (rightB V S C) from fun n => qright_ n V S C (A, L), Option.bind_some, rightB_iff.2 hR0, cond_true, norm25 _ _ _ _ c1 c2]
  rw [wrap64_id (by omega) (by omega), wrap64_id (by omega) (by omega)]
/-- What a steady queue is. -/
theorem steady13 (hR0 : (1 ≤ C ∧ C ≤ 6000) ∧ 0 ≤ V ∧ V ≤ 1000000000 ∧ 0 ≤ S ∧ S ≤ 1000000000) (hs : V * C ≤ S * (qnrm C A L).2) : ∃ q : Int, Ev (fun n => queue_Steady n (V, S, A, L, C)) (q, true) ∧ 0 ≤ q ∧ q ≤ 6000000000000 ∧ ∃ k : Nat, (k : Int) = C ∧ qrn V S (qgr C A L) k 0 q = q ∧ (0 < q → q - 1 < qrn V S (qgr C A L) k 0 (q - 1)) := by
  obtain ⟨⟨c1, c2⟩, v1, v2, s1, s2⟩ := id hR0
  obtain ⟨k, rfl⟩ := Int.eq_ofNat_of_zero_le (show 0 ≤ C by omega)
  obtain ⟨c, hc1, hc2⟩ := eff_all (A := A) (L := L) (t := 0) v1 v2 s1 s2 c1 c2 (by omega) (k := k) (by omega)
  have hsum := eff_sum v1 s1 s2 (by omega) hc2
  have hgc := q_gc_cycle (A := A) (L := L) c1 k rfl
  have hby : c.1 ≤ 0 := by
    rw [hsum, hgc, Int.mul_comm (k : Int) V]; omega
  have hls := hc2.ls2
  have haft := hc2.after
  refine ⟨max 0 c.2.1, ?_, by omega, by omega, k, rfl, ?_, ?_⟩
  · have hsv := fun n => serves15 (A := A) (L := L) n hR0
    refine Ev.congr (F := fun n => (queue_all n (V, S, A, L, (k : Int), 0, (k : Int))).bind fun y2 => some (mx 0 y2.2.1, true)) (Ev.bind hc1 ?_) fun n => ?_
    · rw [mx_eq]; exact Ev.ret _
    · unfold queue_Steady; simp only [hsv, Option.bind_some, hs, decide_true, Bool.not_true, cond_false]
  · rw [← haft _ (by omega)]
    by_cases h0 : 0 ≤ c.2.1
    · omega
    · have h1 := haft 0 (by omega)
      have h2 := q_rn_nonneg (V := V) (S := S) (G := qgr k A L) v1 k 0 0 (by omega)
      omega
  · intro hq
    rw [← haft _ (by omega)]
    omega
end
end Go.Proofs.YtiildimlelphhaaGreatDoor.Fn
