/- Chapter 3 of the document's answer in plain Lean: which ticks arcs have, and the arcs in form that have just some ticks. -/
import Derived.Test.YthkcpgiibmajhaaQueueC
namespace Go.Proofs.Ythkcpgiibmajhaa.Fn
open Go Go.RowKit Go.Den

/-- Is tick j one of some arc's? -/
def anyIn (C : Int) (l : List (Int × Int)) (j : Int) : Bool := l.any fun a => gr C a.1 a.2 j
/-- All ticks of a cycle, one by one. -/
def tk (C : Int) (l : List (Int × Int)) : List Bool := (List.range C.toNat).map fun (j : Nat) => anyIn C l (j : Int)
theorem tk_len (C : Int) (l : List (Int × Int)) : (tk C l).length = C.toNat := by simp [tk]
theorem mod_shift {C at_ k j : Int} (ha : 0 ≤ at_) (ha' : at_ < C) (hk : 0 ≤ k) (hk' : k < C) (hj : 0 ≤ j) (hj' : j < C) : (at_ + k) % C = j ↔ (j - at_) % C = k := by
  have e1 : (at_ + k) % C = if at_ + k < C then at_ + k else at_ + k - C := by
    split
    · exact Int.emod_eq_of_lt (by omega) (by omega)
    · rw [← Int.sub_emod_right, Int.emod_eq_of_lt (by omega) (by omega)]
  have e2 : (j - at_) % C = if at_ ≤ j then j - at_ else j - at_ + C := by
    split
    · exact Int.emod_eq_of_lt (by omega) (by omega)
    · rw [← Int.add_emod_right, Int.emod_eq_of_lt (by omega) (by omega)]
  rw [e1, e2]
  split <;> split <;> omega
/-- Row by row: what is set so far. -/
def OutIs (C : Int) (out : List Bool) (f : Int → Bool) : Prop := out.length = C.toNat ∧ ∀ j : Nat, (j : Int) < C → out[j]? = some (f j)
theorem outIs_eq {C : Int} {out : List Bool} {f : Int → Bool} (h : OutIs C out f) : out = (List.range C.toNat).map fun (j : Nat) => f (j : Int) := by
  apply List.ext_getElem?
  intro i
  by_cases hi : (i : Int) < C
  · have : i < C.toNat := by omega
    rw [h.2 i hi]
    simp [this]
  · have h2 : C.toNat ≤ i := by omega
    rw [List.getElem?_eq_none (by rw [h.1]; exact h2), List.getElem?_eq_none (by simpa using h2)]
theorem ticks22 {C : Int} (h1 : 1 ≤ C) (h2 : C ≤ 6000) {l : List (Int × Int)} (hl : l.length ≤ 1000000) : Ev (fun n => f22 n (C, l)) (tk C l) := by
  have hcc : (C == C && decide (0 ≤ C) && decide (C * 1 ≤ 281474976710656)) = true := by simp; omega
  obtain ⟨Cn, rfl⟩ := Int.eq_ofNat_of_zero_le (show 0 ≤ C by omega)
  have hc0 : ((Cn : Int) == 0) = false := by simp; omega
  have main : ∃ y, Ev (fun n => f22 n ((Cn : Int), l)) y ∧ y = tk Cn l := by
    unfold f22
    simp only [cyc28, h1, h2, and_self, decide_true, Option.bind_some, Bool.not_true, cond_false, hcc, cond_true]
    refine Ev.bindE (Q := fun y => y = tk Cn l) (Ev.iterP
      (fun x : Int × List (Int × Int) × Int × List Bool => x.1 = Cn ∧ x.2.1 = l ∧ 0 ≤ x.2.2.1 ∧ x.2.2.1 ≤ l.length ∧ OutIs Cn x.2.2.2 fun j => anyIn Cn (l.take x.2.2.1.toNat) j)
      (fun x => (l.length - x.2.2.1).toNat) _ ?_ _ ?_) (fun y hy => Ev.retE _ hy)
    · rintro ⟨C', l', i, out⟩ ⟨rfl, rfl, i1, i2, hout⟩
      simp only at *
      obtain ⟨im, rfl⟩ := Int.eq_ofNat_of_zero_le i1
      by_cases h0 : (im : Int) < (l'.length : Int)
      · left
        have hlt : im < l'.length := by omega
        have hin : inB (im : Int) l'.length = true := by simp [inB]; omega
        have hat : atI (0, 0) l' (im : Int) = l'[im] := by simp [atI, List.getD_eq_getElem?_getD, hlt]
        generalize hA : l'[im] = A at *
        have m1 := Int.emod_nonneg A.1 (b := Cn) (by omega)
        have m2 := Int.emod_lt_of_pos A.1 (b := Cn) (by omega)
        have hinner := Ev.iterP (L := fun (_ : Nat) (x4 : Int × (List (Int × Int)) × Int × Int × Int × Int × List Bool) =>
              let e3 := Int.tmod (wrap64 (x4.2.2.2.2.1 + x4.2.2.2.2.2.1)) x4.1
              bif decide (x4.2.2.2.2.2.1 < x4.2.2.2.1) then
                bif !(x4.1 == 0) then
                  bif inB e3 x4.2.2.2.2.2.2.length then
                    (some (.inl (x4.1, x4.2.1, x4.2.2.1, x4.2.2.2.1, x4.2.2.2.2.1, wrap64 (x4.2.2.2.2.2.1 + 1), List.set x4.2.2.2.2.2.2 (Int.toNat e3) true)) : Option ((Int × (List (Int × Int)) × Int × Int × Int × Int × List Bool) ⊕ (Int × (List (Int × Int)) × Int × List Bool)))
                  else
                  none
                else
                none
              else
              some (.inr (x4.1, x4.2.1, x4.2.2.1, x4.2.2.2.2.2.2)))
          (fun x => x.1 = Cn ∧ x.2.1 = l' ∧ x.2.2.1 = im ∧ x.2.2.2.1 = min A.2 Cn ∧ x.2.2.2.2.1 = A.1 % Cn ∧ 0 ≤ x.2.2.2.2.2.1 ∧ (x.2.2.2.2.2.1 = 0 ∨ x.2.2.2.2.2.1 ≤ min A.2 Cn) ∧ OutIs Cn x.2.2.2.2.2.2 fun j => anyIn Cn (l'.take im) j || decide ((j - A.1 % Cn) % Cn < x.2.2.2.2.2.1))
          (fun x => (min A.2 Cn - x.2.2.2.2.2.1).toNat)
          (fun y => y.1 = Cn ∧ y.2.1 = l' ∧ y.2.2.1 = im ∧ OutIs Cn y.2.2.2 fun j => anyIn Cn (l'.take (im + 1)) j) ?_ ((Cn : Int), l', (im : Int), min A.2 Cn, A.1 % Cn, 0, out) ?_
        · obtain ⟨y, hy1, e1, e2, e3, e4⟩ := hinner
          have w3 : wrap64 ((im : Int) + 1) = ((im + 1 : Nat) : Int) := by rw [wrap64_id (by omega) (by omega)]; omega
          refine ⟨((Cn : Int), l', ((im + 1 : Nat) : Int), y.2.2.2), ?_, ⟨rfl, rfl, by simp only; omega, by simp only; omega, by simpa using e4⟩, by simp only; omega⟩
          simp only [h0, decide_true, cond_true, hin, hat, mod29 _ _ _ h1 h2, Option.bind_some, mn_eq]
          refine Ev.bind hy1 ?_
          rw [e1, e2, e3, w3]
          exact Ev.ret _
        · rintro ⟨C', l2, i', n', at_, k, o⟩ ⟨rfl, rfl, rfl, rfl, rfl, k1, k2, ho⟩
          simp only at *
          obtain ⟨ho1, ho2⟩ := ho
          by_cases hk : k < min A.2 Cn
          · left
            have w1 : wrap64 (A.1 % Cn + k) = A.1 % Cn + k := wrap64_id (by omega) (by omega)
            have w2 : wrap64 (k + 1) = k + 1 := wrap64_id (by omega) (by omega)
            have hm : Int.tmod (A.1 % Cn + k) Cn = (A.1 % Cn + k) % Cn := Int.tmod_eq_emod_of_nonneg (by omega)
            have q1 := Int.emod_nonneg (A.1 % Cn + k) (b := Cn) (by omega)
            have q2 := Int.emod_lt_of_pos (A.1 % Cn + k) (b := Cn) (by omega)
            have hin2 : inB ((A.1 % Cn + k) % Cn) o.length = true := by unfold inB; rw [ho1]; simp only [Bool.and_eq_true, decide_eq_true_eq]; omega
            refine ⟨((Cn : Int), l2, (im : Int), min A.2 Cn, A.1 % Cn, k + 1, List.set o (Int.toNat ((A.1 % Cn + k) % Cn)) true), Ev.const fun n => ?_, ⟨rfl, rfl, rfl, rfl, rfl, by simp only; omega, .inr (by simp only; omega), by simp [ho1], fun j hj => ?_⟩, by simp only; omega⟩
            · simp only [hk, decide_true, cond_true, hc0, Bool.not_false, w1, w2, hm, hin2]
            · simp only
              have hshift := mod_shift (C := Cn) (at_ := A.1 % Cn) (k := k) (j := (j : Int)) m1 m2 (by omega) (by omega) (by omega) hj
              rw [List.getElem?_set]
              by_cases he : (A.1 % Cn + k) % Cn = (j : Int)
              · have e5 : ((A.1 % Cn + k) % Cn).toNat = j := by omega
                rw [if_pos e5, if_pos (by rw [ho1]; omega)]
                have := hshift.1 he
                rw [this, decide_eq_true (show k < k + 1 by omega), Bool.or_true]
              · rw [if_neg (by omega), ho2 j hj]
                have hne : ¬ ((j : Int) - A.1 % Cn) % Cn = k := fun e => he (hshift.2 e)
                have : decide (((j : Int) - A.1 % Cn) % Cn < k + 1) = decide (((j : Int) - A.1 % Cn) % Cn < k) := by
                  apply decide_eq_decide.2; omega
                rw [this]
          · right
            refine ⟨((Cn : Int), l2, (im : Int), o), Ev.const fun n => by simp [hk], rfl, rfl, rfl, ho1, fun j hj => ?_⟩
            simp only
            rw [ho2 j hj, List.take_succ_eq_append_getElem hlt]
            unfold anyIn
            rw [List.any_append]
            congr 1
            simp only [List.any_cons, List.any_nil, Bool.or_false, hA]
            have q1 := Int.emod_nonneg ((j : Int) - A.1 % Cn) (b := Cn) (by omega)
            have q2 := Int.emod_lt_of_pos ((j : Int) - A.1 % Cn) (b := Cn) (by omega)
            have hjm : (j : Int) % Cn = j := Int.emod_eq_of_lt (by omega) hj
            unfold gr
            rw [hjm]
            congr 1
            by_cases c1 : A.2 < 1
            · rw [if_pos c1]; exact decide_eq_false (by omega)
            · rw [if_neg c1]
              by_cases c2 : (Cn : Int) ≤ A.2
              · rw [if_pos c2]; exact decide_eq_true (by omega)
              · rw [if_neg c2]; apply decide_eq_decide.2; omega
        · refine ⟨rfl, rfl, rfl, rfl, rfl, Int.le_refl _, .inl rfl, hout.1, fun j hj => ?_⟩
          simp only
          have q1 := Int.emod_nonneg ((j : Int) - A.1 % Cn) (b := Cn) (by omega)
          have := hout.2 j hj
          simp only [Int.toNat_natCast] at this
          rw [this]
          have : decide (((j : Int) - A.1 % Cn) % Cn < 0) = false := decide_eq_false (by omega)
          simp only [this, Bool.or_false]
      · right
        refine ⟨out, Ev.const fun n => by simp [h0], ?_⟩
        have e := outIs_eq hout
        have e2 : l'.take (im : Int).toNat = l' := List.take_of_length_le (by omega)
        rw [e2] at e
        simpa [tk] using e
    · refine ⟨rfl, rfl, Int.le_refl _, by simp, by simp, fun j hj => ?_⟩
      simp only
      have : j < Cn := by omega
      simp [anyIn, this]
  obtain ⟨y, h3, rfl⟩ := main
  exact h3

/-! ### The arcs in form that have just some ticks -/
def bt (b : List Bool) (j : Nat) : Bool := b.getD j false
/-- How many ticks from i on, round the circle, are set: f at most. -/
def rl (b : List Bool) : Nat → Nat → Nat
  | _, 0 => 0
  | i, f + 1 => if bt b (i % b.length) then rl b (i + 1) f + 1 else 0
/-- Does an arc begin at i? -/
def begins (b : List Bool) (i : Nat) : Bool := bt b i && !(bt b ((i + b.length - 1) % b.length))
def frm (b : List Bool) : List (Int × Int) := if b.count true = b.length ∧ 0 < b.length then [(0, (b.length : Int))]
  else (List.range b.length).filterMap fun (i : Nat) => if begins b i then some ((i : Int), (rl b i b.length : Int)) else none
theorem rl_of {b : List Bool} : ∀ (K i f : Nat), K < f → (∀ m, m < K → bt b ((i + m) % b.length) = true) → bt b ((i + K) % b.length) = false → rl b i f = K := by
  intro K
  induction K with
  | zero =>
    intro i f hf _ h
    cases f with
    | zero => omega
    | succ f => simp only [rl]; rw [Nat.add_zero] at h; simp [h]
  | succ K ih =>
    intro i f hf h h'
    cases f with
    | zero => omega
    | succ f =>
      have h0 := h 0 (by omega)
      rw [Nat.add_zero] at h0
      simp only [rl]
      rw [if_pos h0, ih (i + 1) f (by omega) (fun m hm => by have := h (m + 1) (by omega); rwa [show i + (m + 1) = i + 1 + m by omega] at this) (by rwa [show i + (K + 1) = i + 1 + K by omega] at h')]
theorem mod_cast_ (a b : Nat) : ((a : Int) % (b : Int)) = ((a % b : Nat) : Int) := rfl
theorem atI_bt (b : List Bool) (i : Nat) : atI false b (i : Int) = bt b i := by simp [atI, bt]
def runL (x13 : (List Bool) × Int × Int × Int × List (Int × Int)) : Option (((List Bool) × Int × Int × Int × List (Int × Int)) ⊕ ((List Bool) × Int × Int × Int × List (Int × Int))) :=
  let e3 := Int.tmod (wrap64 (x13.2.2.1 + x13.2.2.2.1)) x13.2.1
  bif !(x13.2.1 == 0) then
    bif inB e3 x13.1.length then
      bif atI false x13.1 e3 then
        some (.inl (x13.1, x13.2.1, x13.2.2.1, wrap64 (x13.2.2.2.1 + 1), x13.2.2.2.2))
      else
      some (.inr x13)
    else
    none
  else
  none
theorem runStep {b : List Bool} (hb : b.length ≤ 1000000) {im k : Nat} (hi : im < b.length) (hk : k < b.length) (out : List (Int × Int)) :
    runL (b, (b.length : Int), (im : Int), (k : Int), out) = if bt b ((im + k) % b.length) then some (.inl (b, (b.length : Int), (im : Int), ((k + 1 : Nat) : Int), out)) else some (.inr (b, (b.length : Int), (im : Int), (k : Int), out)) := by
  have w3 : wrap64 ((im : Int) + k) = ((im + k : Nat) : Int) := by rw [wrap64_id (by omega) (by omega)]; omega
  have w4 : wrap64 ((k : Int) + 1) = ((k + 1 : Nat) : Int) := by rw [wrap64_id (by omega) (by omega)]; omega
  have hm3 : Int.tmod (((im + k : Nat) : Int)) (b.length : Int) = (((im + k) % b.length : Nat) : Int) := (Int.tmod_eq_emod_of_nonneg (Int.natCast_nonneg _)).trans (mod_cast_ _ _)
  have hlt3 : (im + k) % b.length < b.length := Nat.mod_lt _ (by omega)
  generalize hr : (im + k) % b.length = r at *
  have hin3 : inB (r : Int) b.length = true := by unfold inB; simp only [Bool.and_eq_true, decide_eq_true_eq]; omega
  have hc0 : ((b.length : Int) == 0) = false := by rw [beq_eq_false_iff_ne]; omega
  unfold runL
  simp only [w3, w4, hm3, hc0, Bool.not_false, cond_true, hin3, atI_bt]
  cases bt b r <;> rfl
theorem run_ok {b : List Bool} (hb : b.length ≤ 1000000) {im : Nat} (hi : im < b.length) (out : List (Int × Int)) (hp : bt b ((im + b.length - 1) % b.length) = false) :
    Ev (fun n => iterL n runL (b, (b.length : Int), (im : Int), 0, out)) (b, (b.length : Int), (im : Int), (rl b im b.length : Int), out) := by
  obtain ⟨y, h1, K, h2, hK, h3, h4⟩ := Ev.iterP (L := fun (_ : Nat) => runL)
    (fun x => ∃ k : Nat, x = (b, (b.length : Int), (im : Int), (k : Int), out) ∧ k < b.length ∧ ∀ m, m < k → bt b ((im + m) % b.length) = true)
    (fun x => (b.length - x.2.2.2.1).toNat)
    (fun y => ∃ K : Nat, y = (b, (b.length : Int), (im : Int), (K : Int), out) ∧ K < b.length ∧ (∀ m, m < K → bt b ((im + m) % b.length) = true) ∧ bt b ((im + K) % b.length) = false)
    (by
      rintro _ ⟨k, rfl, hk, hall⟩
      cases hkv : bt b ((im + k) % b.length) with
      | true =>
        left
        have hall' : ∀ m, m < k + 1 → bt b ((im + m) % b.length) = true := fun m hm => by
          by_cases e : m = k
          · rw [e]; exact hkv
          · exact hall m (by omega)
        have hk1 : k + 1 < b.length := by
          rcases Nat.lt_or_ge (k + 1) b.length with h | h
          · exact h
          · exfalso
            have := hall' (b.length - 1) (by omega)
            rw [show im + (b.length - 1) = im + b.length - 1 by omega, hp] at this
            cases this
        refine ⟨(b, (b.length : Int), (im : Int), ((k + 1 : Nat) : Int), out), Ev.const fun n => ?_, ⟨k + 1, rfl, hk1, hall'⟩, ?_⟩
        · rw [runStep hb hi hk, if_pos hkv]
        · simp only; omega
      | false =>
        right
        refine ⟨(b, (b.length : Int), (im : Int), (k : Int), out), Ev.const fun n => ?_, k, rfl, hk, hall, hkv⟩
        rw [runStep hb hi hk, if_neg (by rw [hkv]; simp)])
    (b, (b.length : Int), (im : Int), 0, out) ⟨0, rfl, by omega, fun m hm => by omega⟩
  subst h2
  rw [rl_of K im b.length hK h3 h4]
  exact h1
theorem form21 {b : List Bool} (hb : b.length ≤ 1000000) : Ev (fun n => f21 n b) (frm b) := by
  have main : ∃ y, Ev (fun n => f21 n b) y ∧ y = frm b := by
    unfold f21
    refine Ev.bindE (Q := fun y : List Bool × Int × Int => y = (b, (b.length : Int), (b.count true : Int))) (Ev.iterP
      (fun x : List Bool × Int × Int × Int => x.1 = b ∧ x.2.1 = b.length ∧ 0 ≤ x.2.2.2 ∧ x.2.2.2 ≤ b.length ∧ x.2.2.1 = ((b.take x.2.2.2.toNat).count true : Int))
      (fun x => (b.length - x.2.2.2).toNat) _ ?_ _ ?_) ?_
    · rintro ⟨b', c', k, i⟩ ⟨h1', h2', i1, i2, h3'⟩
      simp only at h1' h2' i1 i2 h3'
      subst h1' h2' h3'
      simp only
      obtain ⟨im, rfl⟩ := Int.eq_ofNat_of_zero_le i1
      simp only [Int.toNat_natCast] at *
      have hcnt : (b'.take im).count true ≤ b'.length := Nat.le_trans List.count_le_length (by simp; omega)
      by_cases h0 : (im : Int) < (b'.length : Int)
      · left
        have hlt : im < b'.length := by omega
        have hin : inB (im : Int) b'.length = true := by simp [inB]; omega
        have w1 : wrap64 ((im : Int) + 1) = ((im + 1 : Nat) : Int) := by rw [wrap64_id (by omega) (by omega)]; omega
        have hbt : bt b' im = b'[im] := by simp [bt, hlt]
        have htake : (b'.take (im + 1)).count true = (b'.take im).count true + if b'[im] then 1 else 0 := by
          rw [List.take_succ_eq_append_getElem hlt, List.count_append]
          congr 1
          cases b'[im] <;> simp
        simp only [h0, decide_true, cond_true, hin, atI_bt, w1]
        cases hv : bt b' im with
        | true =>
          rw [hbt] at hv
          rw [hv] at htake
          have w2 : wrap64 (((b'.take im).count true : Int) + 1) = (((b'.take im).count true + 1 : Nat) : Int) := by rw [wrap64_id (by omega) (by omega)]; omega
          refine ⟨(b', (b'.length : Int), (((b'.take im).count true + 1 : Nat) : Int), ((im + 1 : Nat) : Int)), Ev.const fun n => by rw [w2]; rfl, ⟨rfl, rfl, by simp only; omega, by simp only; omega, ?_⟩, by simp only; omega⟩
          simp only [Int.toNat_natCast]
          rw [htake]; simp
        | false =>
          rw [hbt] at hv
          rw [hv] at htake
          refine ⟨(b', (b'.length : Int), ((b'.take im).count true : Int), ((im + 1 : Nat) : Int)), Ev.const fun n => rfl, ⟨rfl, rfl, by simp only; omega, by simp only; omega, ?_⟩, by simp only; omega⟩
          simp only [Int.toNat_natCast]
          rw [htake]; simp
      · right
        refine ⟨(b', (b'.length : Int), ((b'.take im).count true : Int)), Ev.const fun n => by simp [h0], ?_⟩
        have : b'.take im = b' := List.take_of_length_le (by omega)
        rw [this]
    · exact ⟨rfl, rfl, Int.le_refl _, by simp, by simp⟩
    · rintro _ rfl
      simp only [letJ]
      -- what follows where not all ticks are set
      have rest : ∀ hno : b.count true ≠ b.length ∨ b.length = 0, ∃ y, Ev (fun n => (iterL (Y := (List (Int × Int))) n (fun (x10 : (List Bool) × Int × Int × List (Int × Int)) =>
          let e1 := x10.1.length
          let e2 := Int.tmod (wrap64 ((wrap64 (x10.2.2.1 + x10.2.1)) - 1)) x10.2.1
          bif decide (x10.2.2.1 < x10.2.1) then
            letJ (fun (x11 : (List Bool) × Int × Int × Bool × List (Int × Int)) =>
              bif x11.2.2.2.1 then
                some (.inl (x11.1, x11.2.1, wrap64 (x11.2.2.1 + 1), x11.2.2.2.2))
              else
              (iterL (Y := ((List Bool) × Int × Int × Int × List (Int × Int))) n (fun (x13 : (List Bool) × Int × Int × Int × List (Int × Int)) =>
                let e3 := Int.tmod (wrap64 (x13.2.2.1 + x13.2.2.2.1)) x13.2.1
                bif !(x13.2.1 == 0) then
                  bif inB e3 x13.1.length then
                    bif atI false x13.1 e3 then
                      some (.inl (x13.1, x13.2.1, x13.2.2.1, wrap64 (x13.2.2.2.1 + 1), x13.2.2.2.2))
                    else
                    some (.inr x13)
                  else
                  none
                else
                none) (x11.1, x11.2.1, x11.2.2.1, 0, x11.2.2.2.2)).bind fun (z14 : (List Bool) × Int × Int × Int × List (Int × Int)) =>
                let e4 := (z14.2.2.1, z14.2.2.2.1) :: []
                bif fitB (z14.2.2.2.2.length + e4.length) 16 then
                  some (.inl (z14.1, z14.2.1, wrap64 (z14.2.2.1 + 1), z14.2.2.2.2 ++ e4))
                else
                none) fun J12 =>
            bif inB x10.2.2.1 e1 then
              bif !(atI false x10.1 x10.2.2.1) then
                J12 (x10.1, x10.2.1, x10.2.2.1, true, x10.2.2.2)
              else
              bif !(x10.2.1 == 0) then
                bif inB e2 e1 then
                  J12 (x10.1, x10.2.1, x10.2.2.1, atI false x10.1 e2, x10.2.2.2)
                else
                none
              else
              none
            else
            none
          else
          some (.inr x10.2.2.2)) (b, (b.length : Int), 0, [])).bind fun (z15 : List (Int × Int)) =>
          some z15) y ∧ y = (List.range b.length).filterMap fun (i : Nat) => if begins b i then some ((i : Int), (rl b i b.length : Int)) else none := by
        intro hno
        refine Ev.bindE (Q := fun y => y = (List.range b.length).filterMap fun (i : Nat) => if begins b i then some ((i : Int), (rl b i b.length : Int)) else none) (Ev.iterP
          (fun x : List Bool × Int × Int × List (Int × Int) => x.1 = b ∧ x.2.1 = b.length ∧ 0 ≤ x.2.2.1 ∧ x.2.2.1 ≤ b.length ∧ x.2.2.2 = (List.range x.2.2.1.toNat).filterMap fun (i : Nat) => if begins b i then some ((i : Int), (rl b i b.length : Int)) else none)
          (fun x => (b.length - x.2.2.1).toNat) _ ?_ _ ?_) (fun y hy => Ev.retE _ hy)
        · rintro ⟨b', c', i, out⟩ ⟨h1', h2', i1, i2, h3'⟩
          simp only at h1' h2' i1 i2 h3'
          subst h1' h2' h3'
          simp only
          obtain ⟨im, rfl⟩ := Int.eq_ofNat_of_zero_le i1
          simp only [Int.toNat_natCast] at *
          by_cases h0 : (im : Int) < (b'.length : Int)
          · left
            have hlt : im < b'.length := by omega
            have hc0 : ((b'.length : Int) == 0) = false := by rw [beq_eq_false_iff_ne]; omega
            have hin : inB (im : Int) b'.length = true := by simp [inB]; omega
            have w1 : wrap64 ((im : Int) + 1) = ((im + 1 : Nat) : Int) := by rw [wrap64_id (by omega) (by omega)]; omega
            have w2 : wrap64 (wrap64 ((im : Int) + b'.length) - 1) = ((im + b'.length - 1 : Nat) : Int) := by
              rw [wrap64_id (n := (im : Int) + b'.length) (by omega) (by omega), wrap64_id (by omega) (by omega)]; omega
            have hm : Int.tmod (((im + b'.length - 1 : Nat) : Int)) (b'.length : Int) = (((im + b'.length - 1) % b'.length : Nat) : Int) := (Int.tmod_eq_emod_of_nonneg (Int.natCast_nonneg _)).trans (mod_cast_ _ _)
            have hlt2 : (im + b'.length - 1) % b'.length < b'.length := Nat.mod_lt _ (by omega)
            have hin2 : inB (((im + b'.length - 1) % b'.length : Nat) : Int) b'.length = true := by unfold inB; simp only [Bool.and_eq_true, decide_eq_true_eq]; omega
            have hsucc : ∀ g : Nat → Option (Int × Int), (List.range (im + 1)).filterMap g = (List.range im).filterMap g ++ (g im).toList := by
              intro g
              rw [List.range_succ, List.filterMap_append]
              cases h : g im <;> simp [h]
            have hoLen : ((List.range im).filterMap fun (i : Nat) => if begins b' i then some ((i : Int), (rl b' i b'.length : Int)) else none).length ≤ im := by
              have := List.length_filterMap_le (fun (i : Nat) => if begins b' i then some ((i : Int), (rl b' i b'.length : Int)) else none) (List.range im)
              simpa using this
            generalize ho : ((List.range im).filterMap fun (i : Nat) => if begins b' i then some ((i : Int), (rl b' i b'.length : Int)) else none) = out at *
            have skip : begins b' im = false → out = (List.range (im + 1)).filterMap fun (i : Nat) => if begins b' i then some ((i : Int), (rl b' i b'.length : Int)) else none := by
              intro hbeg
              rw [hsucc, ho]; simp [hbeg]
            simp only [h0, decide_true, cond_true, hin, atI_bt, w1, w2, hm, hc0, Bool.not_false, hin2, letJ]
            cases hv : bt b' im with
            | false =>
              refine ⟨(b', (b'.length : Int), ((im + 1 : Nat) : Int), out), Ev.const fun n => rfl, ⟨rfl, rfl, by simp only; omega, by simp only; omega, by simpa using skip (by simp [begins, hv])⟩, by simp only; omega⟩
            | true =>
              cases hp : bt b' ((im + b'.length - 1) % b'.length) with
              | true =>
                refine ⟨(b', (b'.length : Int), ((im + 1 : Nat) : Int), out), Ev.const fun n => rfl, ⟨rfl, rfl, by simp only; omega, by simp only; omega, by simpa using skip (by simp [begins, hp])⟩, by simp only; omega⟩
              | false =>
                -- the run
                have hrun := run_ok hb hlt out hp
                generalize hrl : rl b' im b'.length = K at hrun
                refine ⟨(b', (b'.length : Int), ((im + 1 : Nat) : Int), out ++ [((im : Int), (K : Int))]), ?_, ⟨rfl, rfl, by simp only; omega, by simp only; omega, ?_⟩, by simp only; omega⟩
                · refine Ev.bind hrun ?_
                  have hfit : fitB (out.length + [((im : Int), (K : Int))].length) 16 = true := by unfold fitB; simp; omega
                  simp only [hfit, cond_true, w1]
                  exact Ev.ret _
                · simp only [Int.toNat_natCast]
                  rw [hsucc, ho]
                  have hbeg : begins b' im = true := by simp [begins, hv, hp]
                  simp [hbeg, hrl]
          · right
            refine ⟨_, Ev.const fun n => by simp [h0]; rfl, ?_⟩
            have : im = b'.length := by omega
            rw [this]
        · exact ⟨rfl, rfl, Int.le_refl _, by simp, by simp⟩
      by_cases hall : b.count true = b.length
      · by_cases hpos : 0 < b.length
        · have e1 : ((b.count true : Int) == (b.length : Int)) = true := by rw [hall]; simp
          have e2 : decide (0 < (b.length : Int)) = true := by simp; omega
          refine Ev.eqE (v := [(0, (b.length : Int))]) (fun n => by simp only [e1, e2, cond_true]) ?_
          unfold frm
          rw [if_pos ⟨hall, hpos⟩]
        · have e1 : ((b.count true : Int) == (b.length : Int)) = true := by rw [hall]; simp
          have e2 : decide (0 < (b.length : Int)) = false := decide_eq_false (by omega)
          obtain ⟨y, h1, h2⟩ := rest (.inr (by omega))
          refine ⟨y, ?_, ?_⟩
          · simp only [e1, e2, cond_true, cond_false]; exact h1
          · rw [h2]; unfold frm; rw [if_neg fun h => hpos h.2]
      · have e1 : ((b.count true : Int) == (b.length : Int)) = false := by simp; omega
        obtain ⟨y, h1, h2⟩ := rest (.inl hall)
        refine ⟨y, ?_, ?_⟩
        · simp only [e1, cond_false]; exact h1
        · rw [h2]; unfold frm; rw [if_neg fun h => hall h.1]
  obtain ⟨y, h3, rfl⟩ := main
  exact h3
end Go.Proofs.Ythkcpgiibmajhaa.Fn
