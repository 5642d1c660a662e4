/- The queue of chapter 25 in plain Lean: what any number of ticks do, told as one effect. -/
import Derived.Test.YthkcpgiibmajhaaFn1
import Derived.Test.YthkcpgiibmajhaaDenQ
namespace Go.Proofs.Ythkcpgiibmajhaa.Fn
open Go Go.RowKit Go.Den

/-! ### Green ticks -/
def gr (C A L t : Int) : Bool := if L < 1 then false else if C ≤ L then true else decide ((t % C - A % C) % C < L)
theorem tmod_cases (x C : Int) (h1 : 1 ≤ C) : (Int.tmod x C = x % C ∧ 0 ≤ Int.tmod x C) ∨ (Int.tmod x C = x % C - C ∧ Int.tmod x C < 0) := by
  have h2 := Int.emod_nonneg x (b := C) (by omega)
  have h3 := Int.emod_lt_of_pos x (b := C) (by omega)
  rw [Int.tmod_eq_emod]
  split
  · left; omega
  · right; omega
theorem mod_fix (x C : Int) (h1 : 1 ≤ C) (h2 : C ≤ 6000) : (if Int.tmod x C < 0 then wrap64 (Int.tmod x C + C) else Int.tmod x C) = x % C := by
  have h3 := Int.emod_nonneg x (b := C) (by omega)
  have h4 := Int.emod_lt_of_pos x (b := C) (by omega)
  rcases tmod_cases x C h1 with ⟨e, h⟩ | ⟨e, h⟩
  · rw [if_neg (by omega)]; exact e
  · rw [if_pos h, wrap64_id (by omega) (by omega)]; omega
theorem mod29 (n : Nat) (x C : Int) (h1 : 1 ≤ C) (h2 : C ≤ 6000) : f29 n (x, C) = some (x % C) := by
  have hc : (C == 0) = false := by simp; omega
  rw [← mod_fix x C h1 h2]
  simp only [f29, hc, Bool.not_false, cond_true]
  by_cases h : Int.tmod x C < 0
  · simp [h]
  · simp [h]
theorem mod34 (n : Nat) (x C : Int) (h1 : 1 ≤ C) (h2 : C ≤ 6000) : f34 n (x, C) = some (x % C) := by
  have hc : (C == 0) = false := by simp; omega
  have hc1 : decide (C < 1) = false := by simp; omega
  rw [← mod_fix x C h1 h2]
  simp only [f34, f38, hc, hc1, Bool.not_false, cond_true, cond_false]
  by_cases h : Int.tmod x C < 0
  · simp [h]
  · simp [h]
theorem cyc28 (n : Nat) (C : Int) : f28 n C = some (decide (1 ≤ C ∧ C ≤ 6000)) := by
  unfold f28
  by_cases h : 1 ≤ C <;> simp [h]
theorem cyc33 (n : Nat) (C : Int) : f33 n C = some (decide (1 ≤ C ∧ C ≤ 6000)) := by
  unfold f33
  by_cases h : 1 ≤ C <;> simp [h]
theorem in27 (n : Nat) (C A L t : Int) (h1 : 1 ≤ C) (h2 : C ≤ 6000) : f27 n (C, (A, L), t) = some (gr C A L t) := by
  have ha1 := Int.emod_nonneg t (b := C) (by omega)
  have ha2 := Int.emod_lt_of_pos t (b := C) (by omega)
  have hb1 := Int.emod_nonneg A (b := C) (by omega)
  have hb2 := Int.emod_lt_of_pos A (b := C) (by omega)
  simp only [f27, letJ, cyc28, Option.bind_some, h1, h2, and_self, decide_true, Bool.not_true, cond_false]
  unfold gr
  by_cases hL : L < 1
  · simp [hL]
  · by_cases hC : C ≤ L
    · simp [hL, hC]
    · simp only [hL, hC, decide_false, cond_false, if_false, mod29 _ _ _ h1 h2, Option.bind_some]
      rw [wrap64_id (by omega) (by omega)]
/-- The arc in form. -/
def nrm (C A L : Int) : Int × Int := if L < 1 then (0, 0) else if C ≤ L then (0, C) else (A % C, L)
theorem norm25 (n : Nat) (C A L : Int) (h1 : 1 ≤ C) (h2 : C ≤ 6000) : f25 n (C, (A, L)) = some (nrm C A L) := by
  simp only [f25, letJ, cyc33, Option.bind_some, h1, h2, and_self, decide_true, Bool.not_true, cond_false]
  unfold nrm
  by_cases hL : L < 1
  · simp [hL]
  · by_cases hC : C ≤ L
    · simp [hL, hC]
    · simp only [hL, hC, decide_false, cond_false, if_false, mod34 _ _ _ h1 h2, Option.bind_some]
theorem gr_nrm (C A L t : Int) (h1 : 1 ≤ C) : gr C (nrm C A L).1 (nrm C A L).2 t = gr C A L t := by
  unfold nrm gr
  by_cases hL : L < 1
  · simp [hL]
  · by_cases hC : C ≤ L
    · simp [hL, hC]; omega
    · simp [hL, hC]
theorem in39 (n : Nat) (C A L t : Int) (h1 : 1 ≤ C) (h2 : C ≤ 6000) : f39 n (C, (A, L), t) = some (gr C A L t) := by
  have ha1 := Int.emod_nonneg t (b := C) (by omega)
  have ha2 := Int.emod_lt_of_pos t (b := C) (by omega)
  have hb1 := Int.emod_nonneg A (b := C) (by omega)
  have hb2 := Int.emod_lt_of_pos A (b := C) (by omega)
  simp only [f39, norm25 _ _ _ _ h1 h2, Option.bind_some, mod34 _ _ _ h1 h2]
  unfold gr nrm
  by_cases hL : L < 1
  · simp [hL]
  · by_cases hC : C ≤ L
    · have h0 : decide (0 < C) = true := by simp; omega
      simp only [hL, hC, if_false, if_true, h0, cond_true]
      rw [wrap64_id (by omega) (by omega)]
      simp [ha2]
    · have h0 : decide (0 < L) = true := by simp; omega
      simp only [hL, hC, if_false, h0, cond_true]
      rw [wrap64_id (by omega) (by omega)]
theorem gr_cycle (C A L t : Int) : gr C A L (t + C) = gr C A L t := by unfold gr; simp
/-- Within one cycle, for an arc in form. -/
theorem gr_in (C a l t : Int) (ha : 0 ≤ a) (ha' : a < C) (hl : 0 < l) (hl' : l < C) (ht : 0 ≤ t) (ht' : t < C) : gr C a l t = if a ≤ t then decide (t - a < l) else decide (t - a + C < l) := by
  unfold gr
  rw [if_neg (by omega), if_neg (by omega), Int.emod_eq_of_lt ht ht', Int.emod_eq_of_lt ha ha']
  by_cases h : a ≤ t
  · rw [Int.emod_eq_of_lt (by omega) (by omega)]; simp [h]
  · have : (t - a) % C = t - a + C := by
      rw [← Int.add_emod_right, Int.emod_eq_of_lt (by omega) (by omega)]
    rw [this]; simp [h]
theorem nrm_in (C A L : Int) (h1 : 1 ≤ C) : 0 ≤ (nrm C A L).1 ∧ (nrm C A L).1 < C ∧ 0 ≤ (nrm C A L).2 ∧ (nrm C A L).2 ≤ C := by
  have hb1 := Int.emod_nonneg A (b := C) (by omega)
  have hb2 := Int.emod_lt_of_pos A (b := C) (by omega)
  unfold nrm
  split
  · simp; omega
  · split
    · simp; omega
    · simp; omega
/-- How far the colour of a tick lasts. -/
theorem until36 (n : Nat) (V S A L C t : Int) (h1 : 1 ≤ C) (h2 : C ≤ 6000) (ht : 0 ≤ t) (ht' : t < C) :
    ∃ g m, f36 n ((V, S, A, L, C), t) = some (g, m) ∧ 1 ≤ m ∧ t + m ≤ C ∧ ∀ j, t ≤ j → j < t + m → gr C A L j = g := by
  obtain ⟨ha, ha', hl, hl'⟩ := nrm_in C A L h1
  have hgr := fun j => gr_nrm C A L j h1
  simp only [f36, norm25 _ _ _ _ h1 h2, Option.bind_some]
  generalize nrm C A L = p at *
  obtain ⟨a, l⟩ := p
  simp only at *
  by_cases hl0 : l = 0
  · subst hl0
    refine ⟨false, C - t, ?_, by omega, by omega, fun j _ _ => by rw [← hgr]; simp [gr]⟩
    simp [letJ, wrap64_id (n := C - t) (by omega) (by omega)]
  · by_cases hlC : l = C
    · subst hlC
      refine ⟨true, l - t, ?_, by omega, by omega, fun j _ _ => by rw [← hgr]; simp [gr]; omega⟩
      simp [letJ, wrap64_id (n := l - t) (by omega) (by omega)]
      omega
    · have hin := fun j (h3 : 0 ≤ j) (h4 : j < C) => gr_in C a l j ha ha' (by omega) (by omega) h3 h4
      have b1 : (l == 0) = false := by simp [hl0]
      have b2 : (l == C) = false := by simp [hlC]
      simp only [letJ, b1, b2, cond_false, in39 _ _ _ _ _ h1 h2, Option.bind_some]
      have w1 : wrap64 (a + l) = a + l := wrap64_id (by omega) (by omega)
      have w2 : wrap64 (C - t) = C - t := wrap64_id (by omega) (by omega)
      have w3 : wrap64 (a + l - C) = a + l - C := wrap64_id (by omega) (by omega)
      have w4 : wrap64 (a - t) = a - t := wrap64_id (by omega) (by omega)
      simp only [w1, w2, w3, w4, mn_eq]
      have hgt := hin t ht ht'
      by_cases hat : a ≤ t
      · rw [if_pos hat] at hgt
        by_cases htl : t - a < l
        · -- green, up to the end
          have : gr C a l t = true := by rw [hgt]; simp [htl]
          have hnf : decide (t < a + l - C) = false := by simp; omega
          refine ⟨true, min (a + l) C - t, ?_, by omega, by omega, fun j h3 h4 => by rw [← hgr, hin j (by omega) (by omega), if_pos (by omega)]; simp; omega⟩
          rw [this]
          have w5 : wrap64 (min (a + l) C - t) = min (a + l) C - t := wrap64_id (by omega) (by omega)
          by_cases hCe : C < a + l
          · simp [hCe, hnf, w5]
          · simp [hCe, w5]
        · have : gr C a l t = false := by rw [hgt]; simp; omega
          have hna : decide (t < a) = false := by simp; omega
          refine ⟨false, C - t, ?_, by omega, by omega, fun j h3 h4 => by rw [← hgr, hin j (by omega) (by omega), if_pos (by omega)]; simp; omega⟩
          rw [this]
          simp [hna]
      · rw [if_neg hat] at hgt
        by_cases htl : t - a + C < l
        · have : gr C a l t = true := by rw [hgt]; simp [htl]
          have hCe : C < a + l := by omega
          have hfl : decide (t < a + l - C) = true := by simp; omega
          refine ⟨true, min (a + l - C) C - t, ?_, by omega, by omega, fun j h3 h4 => by rw [← hgr, hin j (by omega) (by omega), if_neg (by omega)]; simp; omega⟩
          rw [this]
          have w5 : wrap64 (min (a + l - C) C - t) = min (a + l - C) C - t := wrap64_id (by omega) (by omega)
          simp [hCe, hfl, w5]
        · have : gr C a l t = false := by rw [hgt]; simp; omega
          have hya : decide (t < a) = true := by simp; omega
          refine ⟨false, a - t, ?_, by omega, by omega, fun j h3 h4 => by rw [← hgr, hin j (by omega) (by omega), if_neg (by omega)]; simp; omega⟩
          rw [this]
          simp [hya]

/-! ### Ticks, one by one -/
def stp (V S : Int) (g : Bool) (q : Int) : Int := if g then max 0 (q + V - S) else q + V
def rn (V S : Int) (G : Int → Bool) : Nat → Int → Int → Int
  | 0, _, q => q
  | k + 1, t, q => rn V S G k (t + 1) (stp V S (G t) q)
/-- The greatest queue that is met, the first one too. -/
def pk (V S : Int) (G : Int → Bool) : Nat → Int → Int → Int
  | 0, _, q => q
  | k + 1, t, q => max q (pk V S G k (t + 1) (stp V S (G t) q))
section
variable {V S : Int} {G H : Int → Bool}
theorem stp_nonneg (hV : 0 ≤ V) {q : Int} (hq : 0 ≤ q) (g : Bool) : 0 ≤ stp V S g q := by unfold stp; split <;> omega
theorem stp_le (hV : 0 ≤ V) (hS : 0 ≤ S) {q : Int} (hq : 0 ≤ q) (g : Bool) : stp V S g q ≤ q + V := by unfold stp; split <;> omega
theorem rn_nonneg (hV : 0 ≤ V) : ∀ (k : Nat) (t q : Int), 0 ≤ q → 0 ≤ rn V S G k t q
  | 0, _, _, h => h
  | k + 1, t, q, h => rn_nonneg hV k (t + 1) _ (stp_nonneg hV h _)
theorem rn_le (hV : 0 ≤ V) (hS : 0 ≤ S) : ∀ (k : Nat) (t q : Int), 0 ≤ q → rn V S G k t q ≤ q + k * V := by
  intro k
  induction k with
  | zero => intro t q _; simp [rn]
  | succ k ih =>
    intro t q hq
    have h1 := ih (t + 1) _ (stp_nonneg (S := S) hV hq (G t))
    have h2 := stp_le hV hS hq (G t)
    simp only [rn]
    have : ((k + 1 : Nat) : Int) * V = k * V + V := by rw [Int.natCast_add, Int.add_mul]; simp
    omega
theorem rn_add : ∀ (k l : Nat) (t q : Int), rn V S G (k + l) t q = rn V S G l (t + k) (rn V S G k t q) := by
  intro k
  induction k with
  | zero => intro l t q; simp [rn]
  | succ k ih =>
    intro l t q
    rw [Nat.succ_add]
    simp only [rn]
    rw [ih]
    congr 1
    omega
theorem pk_ge : ∀ (k : Nat) (t q : Int), q ≤ pk V S G k t q
  | 0, _, _ => Int.le_refl _
  | k + 1, t, q => by simp only [pk]; omega
theorem rn_le_pk : ∀ (k : Nat) (t q : Int), rn V S G k t q ≤ pk V S G k t q
  | 0, _, _ => Int.le_refl _
  | k + 1, t, q => by have := rn_le_pk k (t + 1) (stp V S (G t) q); simp only [pk, rn]; omega
theorem pk_add : ∀ (k l : Nat) (t q : Int), pk V S G (k + l) t q = max (pk V S G k t q) (pk V S G l (t + k) (rn V S G k t q)) := by
  intro k
  induction k with
  | zero => intro l t q; have := pk_ge (V := V) (S := S) (G := G) l t q; simp [rn, pk]; omega
  | succ k ih =>
    intro l t q
    rw [Nat.succ_add]
    simp only [pk, rn]
    rw [ih]
    have : t + 1 + (k : Int) = t + ((k + 1 : Nat) : Int) := by omega
    rw [this]
    omega
theorem rn_congr : ∀ (k : Nat) (t q : Int), (∀ j, t ≤ j → j < t + k → G j = H j) → rn V S G k t q = rn V S H k t q := by
  intro k
  induction k with
  | zero => intro t q _; rfl
  | succ k ih =>
    intro t q h
    simp only [rn]
    rw [h t (by omega) (by omega), ih _ _ fun j h1 h2 => h j (by omega) (by omega)]
theorem pk_congr : ∀ (k : Nat) (t q : Int), (∀ j, t ≤ j → j < t + k → G j = H j) → pk V S G k t q = pk V S H k t q := by
  intro k
  induction k with
  | zero => intro t q _; rfl
  | succ k ih =>
    intro t q h
    simp only [pk]
    rw [h t (by omega) (by omega), ih _ _ fun j h1 h2 => h j (by omega) (by omega)]
theorem rn_shift (p : Int) : ∀ (k : Nat) (t q : Int), (∀ j, G (j + p) = G j) → rn V S G k (t + p) q = rn V S G k t q := by
  intro k
  induction k with
  | zero => intro t q _; rfl
  | succ k ih =>
    intro t q h
    simp only [rn]
    rw [h t, show t + p + 1 = t + 1 + p by omega, ih _ _ h]
theorem pk_shift (p : Int) : ∀ (k : Nat) (t q : Int), (∀ j, G (j + p) = G j) → pk V S G k (t + p) q = pk V S G k t q := by
  intro k
  induction k with
  | zero => intro t q _; rfl
  | succ k ih =>
    intro t q h
    simp only [pk]
    rw [h t, show t + p + 1 = t + 1 + p by omega, ih _ _ h]
theorem times_shift {p : Int} (h : ∀ j, G (j + p) = G j) (c : Nat) (j : Int) : G (j + c * p) = G j := by
  induction c with
  | zero => simp
  | succ c ih =>
    have : j + ((c + 1 : Nat) : Int) * p = j + c * p + p := by rw [Int.natCast_add, Int.add_mul]; simp; omega
    rw [this, h, ih]
end
/-! ### Effects -/
/-- The effect e is that of k ticks from t on. -/
structure Eff (V S : Int) (e : Int × Int × Int × Int) (k : Nat) (G : Int → Bool) (t : Int) : Prop where
  by1 : -(k * 1000000000) ≤ e.1
  by2 : e.1 ≤ k * 1000000000
  ls1 : -2305843009213693952 - k * 1000000000 ≤ e.2.1
  ls2 : e.2.1 ≤ k * 1000000000
  tp1 : 0 ≤ e.2.2.1
  tp2 : e.2.2.1 ≤ k * 1000000000
  hi1 : -2305843009213693952 - k * 1000000000 ≤ e.2.2.2
  hi2 : e.2.2.2 ≤ k * 1000000000
  after : ∀ q, 0 ≤ q → max (q + e.1) e.2.1 = rn V S G k t q
  peak : ∀ q, 0 ≤ q → max (q + e.2.2.1) e.2.2.2 = pk V S G k t q
section
variable {V S : Int} {G H : Int → Bool}
theorem Eff.congr {e : Int × Int × Int × Int} {k : Nat} {t u : Int} (h : Eff V S e k G t) (h1 : ∀ q, rn V S G k t q = rn V S H k u q) (h2 : ∀ q, pk V S G k t q = pk V S H k u q) : Eff V S e k H u :=
  { h with after := fun q hq => (h.after q hq).trans (h1 q), peak := fun q hq => (h.peak q hq).trans (h2 q) }
theorem eff_nothing (t : Int) : Eff V S (0, -2305843009213693952, 0, -2305843009213693952) 0 G t where
  by1 := by simp
  by2 := by simp
  ls1 := by simp
  ls2 := by simp
  tp1 := by simp
  tp2 := by simp
  hi1 := by simp
  hi2 := by simp
  after := fun q hq => by simp [rn]; omega
  peak := fun q hq => by simp [pk]; omega
theorem eff_tick (n : Nat) (hV : 0 ≤ V) (hV' : V ≤ 1000000000) (hS : 0 ≤ S) (hS' : S ≤ 1000000000) (g : Bool) (t : Int) : ∃ e, f40 n (V, if g then S else 0) = some e ∧ Eff V S e 1 (fun _ => g) t := by
  unfold f40
  cases g with
  | false =>
    have w : wrap64 (V - 0) = V := by rw [wrap64_id (by omega) (by omega)]; omega
    simp only [Bool.false_eq_true, if_false, w, mx_eq]
    refine ⟨_, rfl, ?_⟩
    constructor <;> simp <;> (try omega)
    · intro q hq; simp [rn, stp]; omega
    · intro q hq; simp [pk, stp]; omega
  | true =>
    have w : wrap64 (V - S) = V - S := wrap64_id (by omega) (by omega)
    simp only [if_true, w, mx_eq]
    by_cases h0 : 0 < S
    · simp only [h0, decide_true, cond_true]
      refine ⟨_, rfl, ?_⟩
      constructor <;> simp <;> (try omega)
      · intro q hq; simp [rn, stp]; omega
      · intro q hq; simp [pk, stp]; omega
    · simp only [h0, decide_false, cond_false]
      refine ⟨_, rfl, ?_⟩
      constructor <;> simp <;> (try omega)
      · intro q hq; simp [rn, stp]; omega
      · intro q hq; simp [pk, stp]; omega
theorem eff_then (n : Nat) (hV : 0 ≤ V) {a b : Int × Int × Int × Int} {k l : Nat} {t : Int} (hk : k ≤ 1073741824) (hl : l ≤ 1073741824) (ha : Eff V S a k G t) (hb : Eff V S b l G (t + k)) :
    ∃ c, f31 n (a, b) = some c ∧ Eff V S c (k + l) G t := by
  obtain ⟨a1, a2, a3, a4, a5, a6, a7, a8, a9, a10⟩ := ha
  obtain ⟨b1, b2, b3, b4, b5, b6, b7, b8, b9, b10⟩ := hb
  obtain ⟨x1, x2, x3, x4⟩ := a
  obtain ⟨y1, y2, y3, y4⟩ := b
  simp only at *
  unfold f31
  simp only [mx_eq]
  rw [wrap64_id (n := x1 + y1) (by omega) (by omega), wrap64_id (n := x2 + y1) (by omega) (by omega), wrap64_id (n := x1 + y3) (by omega) (by omega), wrap64_id (n := x2 + y3) (by omega) (by omega)]
  refine ⟨_, rfl, ?_⟩
  have hkl : ((k + l : Nat) : Int) = k + l := by omega
  constructor <;> simp only [hkl] <;> (try omega)
  · intro q hq
    have h1 := a9 q hq
    have h2 := b9 (rn V S G k t q) (rn_nonneg hV k t q hq)
    rw [rn_add, ← h2, ← h1]
    omega
  · intro q hq
    have h1 := a9 q hq
    have h3 := a10 q hq
    have h2 := b10 (rn V S G k t q) (rn_nonneg hV k t q hq)
    rw [pk_add, ← h2, ← h3, ← h1]
    omega
theorem eff_shift {e : Int × Int × Int × Int} {k a : Nat} {p : Nat} {t : Int} (h : Eff V S e k G t) (hp : ∀ j, G (j + p) = G j) (hd : p ∣ a) : Eff V S e k G (t + a) := by
  obtain ⟨c, rfl⟩ := hd
  have hs : ∀ j, G (j + ((p * c : Nat) : Int)) = G j := by
    intro j
    have := times_shift hp c j
    have e : ((p * c : Nat) : Int) = c * p := by rw [Int.natCast_mul, Int.mul_comm]
    rw [e]; exact this
  exact h.congr (fun q => (rn_shift _ k t q hs).symm) (fun q => (pk_shift _ k t q hs).symm)
/-- As many times. -/
theorem eff_times (hV : 0 ≤ V) {e : Int × Int × Int × Int} {k : Nat} {t : Int} (hk : 0 < k) (he : Eff V S e k G t) (hp : ∀ j, G (j + k) = G j) {m : Int} (hm : 0 ≤ m) {T : Nat} (hT : m * k = T) (hT' : T ≤ 1073741824) :
    ∃ c, Ev (fun n => f32 n (e, m)) c ∧ Eff V S c T G t := by
  have main := Ev.iterP (L := fun n (x2 : Int × Int × Int × Int × Int × Int × Int × Int × Int × Int × Int × Int × Int) =>
    bif decide (0 < x2.1) then
      letJ (fun (x4 : Int × Int × Int × Int × Int × Int × Int × Int × Int × Int × Int × Int × Int) =>
        (f31 n ((x4.2.1, x4.2.2.1, x4.2.2.2.1, x4.2.2.2.2.1), x4.2.1, x4.2.2.1, x4.2.2.2.1, x4.2.2.2.2.1)).bind fun y6 =>
        bif decide ((0 : Int) ≤ 1) then
          some (.inl (shr .i64 x4.1 1, y6.1, y6.2.1, y6.2.2.1, y6.2.2.2, x4.2.2.2.2.2))
        else
        none) fun J5 =>
      bif (bits2 .and .i64 x2.1 1) == 1 then
        (f31 n (x2.2.2.2.2.2.2.2.2.2, x2.2.1, x2.2.2.1, x2.2.2.2.1, x2.2.2.2.2.1)).bind fun y3 =>
        J5 (x2.1, x2.2.1, x2.2.2.1, x2.2.2.2.1, x2.2.2.2.2.1, x2.2.2.2.2.2.1, x2.2.2.2.2.2.2.1, x2.2.2.2.2.2.2.2.1, x2.2.2.2.2.2.2.2.2.1, y3)
      else
      J5 x2
    else
    some (.inr x2.2.2.2.2.2))
    (fun x => ∃ a b : Nat, Eff V S x.2.2.2.2.2.2.2.2.2 a G t ∧ Eff V S (x.2.1, x.2.2.1, x.2.2.2.1, x.2.2.2.2.1) b G t ∧ k ∣ a ∧ k ∣ b ∧ 0 ≤ x.1 ∧ (a : Int) + x.1 * b = T ∧ 0 < b)
    (fun x => x.1.toNat) (fun y => Eff V S y.2.2.2.2 T G t) ?_ (m, e.1, e.2.1, e.2.2.1, e.2.2.2, 0, 0, 0, 0, (0, -2305843009213693952, 0, -2305843009213693952))
    ⟨0, k, eff_nothing t, he, Nat.dvd_zero k, Nat.dvd_refl k, hm, by simpa using hT, hk⟩
  · obtain ⟨y, h1, h2⟩ := main
    exact ⟨y.2.2.2.2, Ev.bind (Ev.const fun n => rfl) (Ev.bind h1 (Ev.ret _)), h2⟩
  · rintro ⟨m, e1, e2, e3, e4, z1, z2, z3, z4, acc⟩ ⟨a, b, ha, hb, hda, hdb, hm, hab, hb0⟩
    simp only at *
    by_cases h0 : 0 < m
    · left
      have hbm : (b : Int) ≤ m * b := by
        have := Int.mul_le_mul_of_nonneg_right (c := (b : Int)) (show (1 : Int) ≤ m by omega) (by omega)
        simpa using this
      have hbT : b ≤ 1073741824 := by omega
      have haT : a ≤ 1073741824 := by omega
      have hmT : m ≤ m * b := by
        have := Int.mul_le_mul_of_nonneg_left (c := m) (show (1 : Int) ≤ b by omega) (by omega)
        simpa using this
      simp only [h0, decide_true, cond_true, letJ, show decide ((0 : Int) ≤ 1) = true from rfl, and_one (m := m) (by omega) (by omega), shr_one]
      have hsq : ∀ n, ∃ c, f31 n ((e1, e2, e3, e4), e1, e2, e3, e4) = some c ∧ Eff V S c (b + b) G t := fun n => eff_then n hV hbT hbT hb (eff_shift hb hp hdb)
      obtain ⟨c, hc1, hc2⟩ := hsq 0
      have hc : ∀ n, f31 n ((e1, e2, e3, e4), e1, e2, e3, e4) = some c := fun n => hc1
      have hdd : k ∣ b + b := Nat.dvd_add hdb hdb
      by_cases hodd : m % 2 = 1
      · obtain ⟨d, hd1, hd2⟩ := eff_then 0 hV haT hbT ha (eff_shift hb hp hda)
        have hd : ∀ n, f31 n (acc, e1, e2, e3, e4) = some d := fun n => hd1
        refine ⟨(m / 2, c.1, c.2.1, c.2.2.1, c.2.2.2, z1, z2, z3, z4, d), ?_, ⟨a + b, b + b, hd2, hc2, Nat.dvd_add hda hdb, hdd, by omega, ?_, by omega⟩, by omega⟩
        · refine Ev.const fun n => ?_
          have : (m % 2 == 1) = true := by simp [hodd]
          simp only [this, cond_true, hd, hc, Option.bind_some]
        · have e2 : m = m / 2 * 2 + 1 := by omega
          have e3 : m * (b : Int) = (m / 2) * (b + b) + b := by
            conv => lhs; rw [e2, Int.add_mul, Int.mul_assoc]
            rw [Int.one_mul]; congr 2; omega
          rw [e3] at hab
          have : ((a + b : Nat) : Int) = a + b := by omega
          have h4 : ((b + b : Nat) : Int) = b + b := by omega
          show ((a + b : Nat) : Int) + m / 2 * ((b + b : Nat) : Int) = T
          rw [this, h4]
          omega
      · refine ⟨(m / 2, c.1, c.2.1, c.2.2.1, c.2.2.2, z1, z2, z3, z4, acc), ?_, ⟨a, b + b, ha, hc2, hda, hdd, by omega, ?_, by omega⟩, by omega⟩
        · refine Ev.const fun n => ?_
          have : (m % 2 == 1) = false := by simp; omega
          simp only [this, cond_false, hc, Option.bind_some]
        · have e2 : m = m / 2 * 2 := by omega
          have e3 : m * (b : Int) = (m / 2) * (b + b) := by
            conv => lhs; rw [e2, Int.mul_assoc]
            congr 1; omega
          rw [e3] at hab
          have h4 : ((b + b : Nat) : Int) = b + b := by omega
          rw [h4]
          exact hab
    · right
      have hm0 : m = 0 := by omega
      subst hm0
      refine ⟨(z1, z2, z3, z4, acc), Ev.const fun n => by simp, ?_⟩
      simp at hab
      have hab' : a = T := by omega
      subst hab'
      exact ha
/-- A stretch of one colour. -/
theorem eff_row (hV : 0 ≤ V) (hV' : V ≤ 1000000000) (hS : 0 ≤ S) (hS' : S ≤ 1000000000) (A L C : Int) (g : Bool) {k : Nat} (hk : k ≤ 6000) {t : Int} (hg : ∀ j, t ≤ j → j < t + k → G j = g) :
    ∃ c, Ev (fun n => f37 n ((V, S, A, L, C), g, (k : Int))) c ∧ Eff V S c k G t := by
  obtain ⟨e, he1, he2⟩ := eff_tick 0 hV hV' hS hS' g t
  obtain ⟨c, hc1, hc2⟩ := eff_times hV (by omega) he2 (fun _ => rfl) (m := (k : Int)) (by omega) (T := k) (by simp) (by omega)
  refine ⟨c, ?_, hc2.congr (fun q => (rn_congr k t q fun j h1 h2 => (hg j h1 h2).symm)) (fun q => (pk_congr k t q fun j h1 h2 => (hg j h1 h2).symm))⟩
  have h := Ev.bind (F := fun n => f40 n (V, if g then S else 0)) (G := fun n y => (f32 n (y, (k : Int))).bind fun z => some z) (Ev.const fun n => he1) (Ev.bind hc1 (Ev.ret _))
  exact h.congr fun n => by cases g <;> rfl
end
end Go.Proofs.Ythkcpgiibmajhaa.Fn
