/- The queue of chapter 25 in plain Lean: the law QueueAgain. -/
import Derived.Test.YthkcpgiibmajhaaQueueC
namespace Go.Proofs.Ythkcpgiibmajhaa.Fn
open Go Go.RowKit Go.Den

/-- How many ticks are green. -/
def gc (G : Int → Bool) : Nat → Int → Nat
  | 0, _ => 0
  | k + 1, t => (if G t then 1 else 0) + gc G k (t + 1)
section
variable {V S A L C : Int} {G : Int → Bool}
theorem gc_le : ∀ (k : Nat) (t : Int), gc G k t ≤ k
  | 0, _ => Nat.le_refl _
  | k + 1, t => by have := gc_le k (t + 1); simp only [gc]; split <;> omega
theorem gc_add : ∀ (k l : Nat) (t : Int), gc G (k + l) t = gc G k t + gc G l (t + k) := by
  intro k
  induction k with
  | zero => intro l t; simp [gc]
  | succ k ih =>
    intro l t
    rw [Nat.succ_add]
    simp only [gc]
    rw [ih]
    have : t + 1 + (k : Int) = t + ((k + 1 : Nat) : Int) := by omega
    rw [this]; omega
theorem gc_all {g : Bool} : ∀ (k : Nat) (t : Int), (∀ j, t ≤ j → j < t + k → G j = g) → gc G k t = if g then k else 0 := by
  intro k
  induction k with
  | zero => intro t _; simp [gc]
  | succ k ih =>
    intro t h
    simp only [gc]
    rw [h t (by omega) (by omega), ih (t + 1) fun j h1 h2 => h j (by omega) (by omega)]
    cases g <;> simp; omega
theorem gc_shift (p : Int) (h : ∀ j, G (j + p) = G j) : ∀ (k : Nat) (t : Int), gc G k (t + p) = gc G k t := by
  intro k
  induction k with
  | zero => intro t; rfl
  | succ k ih =>
    intro t
    simp only [gc]
    rw [h t, show t + p + 1 = t + 1 + p by omega, ih]
/-- In a cycle as many ticks are green as the arc has. -/
theorem gc_cycle (h1 : 1 ≤ C) (k : Nat) (hk : (k : Int) = C) : (gc (gr C A L) k 0 : Int) = (nrm C A L).2 := by
  obtain ⟨ha, ha', hl, hl'⟩ := nrm_in C A L h1
  have hg : gr C A L = gr C (nrm C A L).1 (nrm C A L).2 := by funext j; exact (gr_nrm C A L j h1).symm
  rw [hg]
  generalize nrm C A L = p at *
  obtain ⟨a, l⟩ := p
  simp only at *
  by_cases hl0 : l = 0
  · subst hl0
    rw [gc_all (g := false) k 0 fun j _ _ => by simp [gr]]
    simp
  · by_cases hlC : l = C
    · rw [gc_all (g := true) k 0 fun j _ _ => by unfold gr; rw [if_neg (by omega), if_pos (by omega)]]
      simp; omega
    · obtain ⟨an, rfl⟩ := Int.eq_ofNat_of_zero_le ha
      obtain ⟨ln, rfl⟩ := Int.eq_ofNat_of_zero_le hl
      have hper : ∀ j, gr C an ln (j + C) = gr C an ln j := gr_cycle C an ln
      -- a cycle from 0, a cycle from the arc's begin
      have e1 : k = an + (k - an) := by omega
      have e2 : gc (gr C an ln) k 0 = gc (gr C an ln) k an := by
        have s1 : gc (gr C an ln) (an + (k - an)) 0 = gc (gr C an ln) an 0 + gc (gr C an ln) (k - an) (0 + an) := gc_add _ _ _
        have s2 : gc (gr C an ln) ((k - an) + an) an = gc (gr C an ln) (k - an) an + gc (gr C an ln) an (an + ((k - an : Nat) : Int)) := gc_add _ _ _
        have s3 : gc (gr C an ln) an (an + ((k - an : Nat) : Int)) = gc (gr C an ln) an 0 := by
          have := gc_shift C hper an 0
          rw [show (an : Int) + ((k - an : Nat) : Int) = 0 + C by omega]; exact this
        rw [← e1] at s1
        rw [show k - an + an = k by omega] at s2
        rw [s1, s2, s3, Int.zero_add]; omega
      rw [e2]
      have at_ : ∀ i, 0 ≤ i → i < C → gr C an ln (an + i) = decide (i < ln) := by
        intro i h2 h3
        unfold gr
        rw [if_neg (by omega), if_neg (by omega)]
        have : ((an + i) % C - an % C) % C = i := by
          rw [← Int.sub_emod]
          rw [show (an : Int) + i - an = i by omega, Int.emod_eq_of_lt h2 h3]
        rw [this]
      have s4 : gc (gr C an ln) (ln + (k - ln)) an = gc (gr C an ln) ln an + gc (gr C an ln) (k - ln) (an + ln) := gc_add _ _ _
      rw [show ln + (k - ln) = k by omega] at s4
      rw [s4, gc_all (g := true) ln an fun j h2 h3 => by
          have := at_ (j - an) (by omega) (by omega)
          rw [show (an : Int) + (j - an) = j by omega] at this
          rw [this]; simp; omega,
        gc_all (g := false) (k - ln) (an + ln) fun j h2 h3 => by
          have := at_ (j - an) (by omega) (by omega)
          rw [show (an : Int) + (j - an) = j by omega] at this
          rw [this]; simp; omega]
      simp
/-- A great queue only moves. -/
theorem rn_great (hV : 0 ≤ V) (hS : 0 ≤ S) : ∀ (k : Nat) (t q : Int), k * S ≤ q → rn V S G k t q = q + k * V - S * gc G k t := by
  intro k
  induction k with
  | zero => intro t q _; simp [rn, gc]
  | succ k ih =>
    intro t q hq
    have e1 : ((k + 1 : Nat) : Int) * S = k * S + S := by rw [Int.natCast_add, Int.add_mul]; simp
    have e2 : ((k + 1 : Nat) : Int) * V = k * V + V := by rw [Int.natCast_add, Int.add_mul]; simp
    have e3 : 0 ≤ (k : Int) * S := Int.mul_nonneg (by omega) hS
    rw [e1] at hq
    simp only [rn, gc]
    rw [e2]
    cases hg : G t with
    | true =>
      have : stp V S true q = q + V - S := by unfold stp; simp; omega
      rw [this, ih (t + 1) _ (by omega)]
      simp only [if_true]
      rw [Int.natCast_add, Int.mul_add]
      simp; omega
    | false =>
      have : stp V S false q = q + V := by unfold stp; simp
      rw [this, ih (t + 1) _ (by omega)]
      simp; omega
theorem eff_sum (hV : 0 ≤ V) (hS : 0 ≤ S) (hS' : S ≤ 1000000000) {e : Int × Int × Int × Int} {k : Nat} {t : Int} (hk : k ≤ 6000) (h : Eff V S e k G t) : e.1 = k * V - S * gc G k t := by
  have hkS : (k : Int) * S ≤ 6000 * 1000000000 := by
    have h1 := Int.mul_le_mul_of_nonneg_right (c := S) (show (k : Int) ≤ 6000 by omega) hS
    omega
  have h1 := h.after 4611686018427387904 (by omega)
  rw [rn_great hV hS k t _ (by omega)] at h1
  have := h.by1
  have := h.ls2
  omega
theorem serves15 (n : Nat) (hR : RightF V S C) : f15 n (V, S, A, L, C) = some (decide (V * C ≤ S * (nrm C A L).2)) := by
  obtain ⟨⟨c1, c2⟩, ⟨v1, v2⟩, s1, s2⟩ := id hR
  obtain ⟨ha, ha', hl, hl'⟩ := nrm_in C A L c1
  have b1 : 0 ≤ V * C := Int.mul_nonneg v1 (by omega)
  have b2 : V * C ≤ 1000000000 * 6000 := by
    have h1 := Int.mul_le_mul_of_nonneg_right (c := C) v2 (by omega)
    omega
  have b3 : 0 ≤ S * (nrm C A L).2 := Int.mul_nonneg s1 hl
  have b4 : S * (nrm C A L).2 ≤ 1000000000 * 6000 := by
    have h1 := Int.mul_le_mul_of_nonneg_right (c := (nrm C A L).2) s2 hl
    omega
  unfold f15
  simp only [right14, Option.bind_some, hR, decide_true, cond_true, norm25 _ _ _ _ c1 c2]
  rw [wrap64_id (by omega) (by omega), wrap64_id (by omega) (by omega)]
/-- What a steady queue is. -/
theorem steady13 (hR : RightF V S C) (hs : V * C ≤ S * (nrm C A L).2) : ∃ q : Int, Ev (fun n => f13 n (V, S, A, L, C)) (q, true) ∧ 0 ≤ q ∧ q ≤ 6000000000000 ∧ ∃ k : Nat, (k : Int) = C ∧ rn V S (gr C A L) k 0 q = q ∧ (0 < q → q - 1 < rn V S (gr C A L) k 0 (q - 1)) := by
  obtain ⟨⟨c1, c2⟩, ⟨v1, v2⟩, s1, s2⟩ := id hR
  obtain ⟨k, rfl⟩ := Int.eq_ofNat_of_zero_le (show 0 ≤ C by omega)
  obtain ⟨c, hc1, hc2⟩ := eff_all (A := A) (L := L) (t := 0) v1 v2 s1 s2 c1 c2 (by omega) (k := k) (by omega)
  have hsum := eff_sum v1 s1 s2 (by omega) hc2
  have hgc := gc_cycle (A := A) (L := L) c1 k rfl
  have hby : c.1 ≤ 0 := by
    rw [hsum, hgc, Int.mul_comm (k : Int) V]; omega
  have hls := hc2.ls2
  have haft := hc2.after
  refine ⟨max 0 c.2.1, ?_, by omega, by omega, k, rfl, ?_, ?_⟩
  · have hsv := fun n => serves15 (A := A) (L := L) n hR
    refine Ev.congr (F := fun n => (f23 n ((V, S, A, L, (k : Int)), 0, (k : Int))).bind fun y2 => some (mx 0 y2.2.1, true)) (Ev.bind hc1 ?_) fun n => ?_
    · rw [mx_eq]; exact Ev.ret _
    · unfold f13; simp only [hsv, Option.bind_some, hs, decide_true, Bool.not_true, cond_false]
  · rw [← haft _ (by omega)]
    by_cases h0 : 0 ≤ c.2.1
    · omega
    · have h1 := haft 0 (by omega)
      have h2 := rn_nonneg (V := V) (S := S) (G := gr k A L) v1 k 0 0 (by omega)
      omega
  · intro hq
    rw [← haft _ (by omega)]
    omega
theorem cycles_again {k : Nat} {q : Int} (hk : (k : Int) = C) (h : rn V S (gr C A L) k 0 q = q) : ∀ c : Nat, rn V S (gr C A L) (c * k) 0 q = q := by
  intro c
  induction c with
  | zero => simp [rn]
  | succ c ih =>
    rw [Nat.succ_mul, rn_add, ih]
    have hper : ∀ j, gr C A L (j + ((c * k : Nat) : Int)) = gr C A L j := by
      intro j
      have := times_shift (p := C) (gr_cycle C A L) c j
      rw [Int.natCast_mul, hk]; exact this
    have := rn_shift (V := V) (S := S) ((c * k : Nat) : Int) k 0 q hper
    rw [this, h]
theorem queueAgain (cycles : Int) : Ev (fun n => f6 n ((V, S, A, L, C), cycles)) true := by
  have wake : Ev (fun n => (f11 n ()).bind fun y3 => some y3) true := Ev.bind awake11 (Ev.ret _)
  by_cases hR : RightF V S C
  · obtain ⟨⟨c1, c2⟩, ⟨v1, v2⟩, s1, s2⟩ := id hR
    have hsv := fun n => serves15 (A := A) (L := L) n hR
    by_cases hs : V * C ≤ S * (nrm C A L).2
    · obtain ⟨q, hq1, hq2, hq3, k, hk, hq4, hq5⟩ := steady13 hR hs
      refine Ev.bind hq1 (Ev.bind (a := true) (Ev.const fun n => by rw [right14]; simp [hR]) ?_)
      simp only [Bool.not_true, cond_false]
      refine Ev.bind (a := true) (Ev.const fun n => by rw [hsv]; simp [hs]) ?_
      simp only [letJ, beq_self_eq_true, Bool.not_true, cond_false]
      by_cases g1 : cycles < 0
      · simp only [g1, decide_true, cond_true]; exact wake
      · simp only [g1, decide_false, cond_false]
        by_cases g2 : 100000 < cycles
        · simp only [g2, decide_true, cond_true]; exact wake
        · simp only [g2, decide_false, cond_false]
          obtain ⟨cn, rfl⟩ := Int.eq_ofNat_of_zero_le (show 0 ≤ cycles by omega)
          have hck : ((cn * k : Nat) : Int) = cn * C := by rw [Int.natCast_mul, hk]
          have hckb : cn * k ≤ 100000 * 6000 := Nat.mul_le_mul (by omega) (by omega)
          have w1 : wrap64 ((cn : Int) * C) = ((cn * k : Nat) : Int) := by rw [← hck]; exact wrap64_id (by omega) (by omega)
          rw [w1]
          have hA1 : Asks q 0 ((cn * k : Nat) : Int) := ⟨⟨hq2, by omega⟩, ⟨by omega, by omega⟩, by omega, by omega⟩
          refine Ev.bind (after7 hR hA1) ?_
          rw [cycles_again hk hq4 cn]
          simp only [beq_self_eq_true, Bool.not_true, cond_false]
          by_cases g3 : 0 < q
          · simp only [g3, decide_true, cond_true]
            have w2 : wrap64 (q - 1) = q - 1 := wrap64_id (by omega) (by omega)
            have hA2 : Asks (q - 1) 0 (k : Int) := ⟨⟨by omega, by omega⟩, ⟨by omega, by omega⟩, by omega, by omega⟩
            rw [w2]
            have hb := after7 (A := A) (L := L) hR hA2
            rw [hk] at hb
            refine Ev.bind hb ?_
            have h5 := hq5 g3
            have hne : (rn V S (gr C A L) k 0 (q - 1) == q - 1) = false := by simp; omega
            simp only [beq_self_eq_true, Bool.not_true, cond_false, hne]
            exact wake
          · simp only [g3, decide_false, cond_false]; exact wake
    · refine Ev.bind (a := (0, false)) (Ev.const fun n => by unfold f13; simp [hsv, hs]) (Ev.bind (a := true) (Ev.const fun n => by rw [right14]; simp [hR]) ?_)
      simp only [Bool.not_true, cond_false]
      refine Ev.bind (a := false) (Ev.const fun n => by rw [hsv]; simp [hs]) ?_
      simp only [letJ, beq_self_eq_true, Bool.not_true, Bool.not_false, cond_false, cond_true]
      exact wake
  · have h15 : ∀ n, f15 n (V, S, A, L, C) = some false := fun n => by unfold f15; simp [right14, hR]
    refine Ev.bind (a := (0, false)) (Ev.const fun n => by unfold f13; simp [h15]) (Ev.bind (a := false) (Ev.const fun n => by rw [right14]; simp [hR]) ?_)
    simp only [Bool.not_false, cond_true, beq_self_eq_true]
    exact wake
end
theorem queueAgainPure (x0 : PD.Ty Θ.T (.agg [.int .i64, .int .i64, .int .i64, .int .i64, .int .i64])) (x1 : PD.Ty Θ.T (.one (.int .i64))) (_ : WfA Θ _ x0) (_ : WfA Θ _ x1) : Ev (fun n => f6 n (x0, x1)) true :=
  queueAgain x1
end Go.Proofs.Ythkcpgiibmajhaa.Fn
