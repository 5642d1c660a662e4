/- Plain texts: what functions compute. -/
import Derived.Test.YtiildimlelphhaaGreatDoorCircFn
namespace Go.Proofs.YtiildimlelphhaaGreatDoor.Fn
open Go Go.RowKit Go.Den Go.Circ
set_option linter.unusedVariables false
set_option linter.unusedVariables false
theorem mod_cast_ (a b : Nat) : ((a : Int) % (b : Int)) = ((a % b : Nat) : Int) := rfl
theorem atI_bt (b : List Bool) (i : Nat) : atI false b (i : Int) = bt b i := by simp [atI, bt]
def runL (x13 : (List Bool) × Int × Int × Int × List (Int × Int)) : Option (((List Bool) × Int × Int × Int × List (Int × Int)) ⊕ ((List Bool) × Int × Int × Int × List (Int × Int))) :=
  let e3 := Int.tmod (wrap64 (x13.2.2.1 + x13.2.2.2.1)) x13.2.1
  bif !(x13.2.1 == 0) then
    bif inB e3 x13.1.length then
      bif atI false x13.1 e3 then
        some (.inl (x13.1, x13.2.1, x13.2.2.1, wrap64 (x13.2.2.2.1 + 1), x13.2.2.2.2))
      else
      some (.inr x13)
    else
    none
  else
  none
theorem runStep {b : List Bool} (hb : b.length ≤ 1000000) {im k : Nat} (hi : im < b.length) (hk : k < b.length) (out : List (Int × Int)) :
    runL (b, (b.length : Int), (im : Int), (k : Int), out) = if bt b ((im + k) % b.length) then some (.inl (b, (b.length : Int), (im : Int), ((k + 1 : Nat) : Int), out)) else some (.inr (b, (b.length : Int), (im : Int), (k : Int), out)) := by
  have w3 : wrap64 ((im : Int) + k) = ((im + k : Nat) : Int) := by rw [wrap64_id (by omega) (by omega)]; omega
  have w4 : wrap64 ((k : Int) + 1) = ((k + 1 : Nat) : Int) := by rw [wrap64_id (by omega) (by omega)]; omega
  have hm3 : Int.tmod (((im + k : Nat) : Int)) (b.length : Int) = (((im + k) % b.length : Nat) : Int) := (Int.tmod_eq_emod_of_nonneg (Int.natCast_nonneg _)).trans (mod_cast_ _ _)
  have hlt3 : (im + k) % b.length < b.length := Nat.mod_lt _ (by omega)
  generalize hr : (im + k) % b.length = r at *
  have hin3 : inB (r : Int) b.length = true := by unfold inB; simp only [Bool.and_eq_true, decide_eq_true_eq]; omega
  have hc0 : ((b.length : Int) == 0) = false := by rw [beq_eq_false_iff_ne]; omega
  unfold runL
  simp only [w3, w4, hm3, hc0, Bool.not_false, cond_true, hin3, atI_bt]
  cases bt b r <;> rfl
theorem run_ok {b : List Bool} (hb : b.length ≤ 1000000) {im : Nat} (hi : im < b.length) (out : List (Int × Int)) (hp : bt b ((im + b.length - 1) % b.length) = false) :
    Ev (fun n => iterL n runL (b, (b.length : Int), (im : Int), 0, out)) (b, (b.length : Int), (im : Int), (rl b im b.length : Int), out) := by
  obtain ⟨y, h1, K, h2, hK, h3, h4⟩ := Ev.iterP (L := fun (_ : Nat) => runL)
    (fun x => ∃ k : Nat, x = (b, (b.length : Int), (im : Int), (k : Int), out) ∧ k < b.length ∧ ∀ m, m < k → bt b ((im + m) % b.length) = true)
    (fun x => (b.length - x.2.2.2.1).toNat)
    (fun y => ∃ K : Nat, y = (b, (b.length : Int), (im : Int), (K : Int), out) ∧ K < b.length ∧ (∀ m, m < K → bt b ((im + m) % b.length) = true) ∧ bt b ((im + K) % b.length) = false)
    (by
      rintro _ ⟨k, rfl, hk, hall⟩
      cases hkv : bt b ((im + k) % b.length) with
      | true =>
        left
        have hall' : ∀ m, m < k + 1 → bt b ((im + m) % b.length) = true := fun m hm => by
          by_cases e : m = k
          · rw [e]; exact hkv
          · exact hall m (by omega)
        have hk1 : k + 1 < b.length := by
          rcases Nat.lt_or_ge (k + 1) b.length with h | h
          · exact h
          · exfalso
            have := hall' (b.length - 1) (by omega)
            rw [show im + (b.length - 1) = im + b.length - 1 by omega, hp] at this
            cases this
        refine ⟨(b, (b.length : Int), (im : Int), ((k + 1 : Nat) : Int), out), Ev.const fun n => ?_, ⟨k + 1, rfl, hk1, hall'⟩, ?_⟩
        · rw [runStep hb hi hk, if_pos hkv]
        · simp only; omega
      | false =>
        right
        refine ⟨(b, (b.length : Int), (im : Int), (k : Int), out), Ev.const fun n => ?_, k, rfl, hk, hall, hkv⟩
        rw [runStep hb hi hk, if_neg (by rw [hkv]; simp)])
    (b, (b.length : Int), (im : Int), 0, out) ⟨0, rfl, by omega, fun m hm => by omega⟩
  subst h2
  rw [rl_of K im b.length hK h3 h4]
  exact h1
set_option linter.unusedVariables false
theorem tks_get (C : Nat) (T : Int → Prop) [DecidablePred T] (i : Nat) (h : i < C) : (tks C T).getD i false = decide (T i) := by
  have := tks_bt C T (j := (i : Int)) (by omega) (by omega)
  simp only [BT, bt, Int.toNat_natCast] at this
  by_cases hT : T i
  · rw [this.2 hT, decide_eq_true hT]
  · rw [decide_eq_false hT]
    exact Bool.eq_false_iff.2 fun e => hT (this.1 e)
theorem tks_false (C : Nat) : List.replicate C false = tks C fun _ => False := bools_ext (by simp) fun j hj => by simp [bt, List.getD_eq_getElem?_getD, hj]
theorem tks_set (C : Nat) (T : Int → Prop) (i : Nat) : List.set (tks C T) i true = tks C fun j => T j ∨ j = i := by
  refine bools_ext (by simp [tks_len]) fun j hj => ?_
  have := tks_bt C T (j := (j : Int)) (by omega) (by omega)
  simp only [BT, bt, Int.toNat_natCast] at this
  simp only [bt, List.getD_eq_getElem?_getD, List.getElem?_set] at this ⊢
  by_cases h : i = j
  · subst h; simp [tks_len, hj]
  · rw [if_neg h, this]
    constructor
    · exact fun h => .inl h
    · rintro (h' | h')
      · exact h'
      · omega
/-- The ticks that a row of arcs has, in a list. -/
noncomputable def ticksOf (C : Int) (l : List (Int × Int)) : List Bool := if 1 ≤ C ∧ C ≤ 6000 then tks C.toNat (TS C l) else []
theorem ticksOf_len (C : Int) (l : List (Int × Int)) (h : 1 ≤ C ∧ C ≤ 6000) : (ticksOf C l).length = C.toNat := by unfold ticksOf; rw [if_pos h, tks_len]
/-- The arcs in form that have the ticks of T. -/
noncomputable def formOf (C : Int) (T : Int → Prop) : List (Int × Int) := if 1 ≤ C ∧ C ≤ 6000 then frm (tks C.toNat T) else []
theorem formOf_eq {C : Int} {T : Int → Prop} {A : List (Int × Int)} (hc : 1 ≤ C ∧ C ≤ 6000) (hA : Arcs C T A) : formOf C T = A := by
  unfold formOf; rw [if_pos hc]
  have e : ((C.toNat : Nat) : Int) = C := by omega
  exact frm_tks (by omega) (by rw [e]; exact hA)
theorem formOf_set (C : Int) (l : List (Int × Int)) : formOf C (TS C l) = setOf C l := by
  by_cases hc : 1 ≤ C ∧ C ≤ 6000
  · exact formOf_eq hc (setOf_arcs hc.1 hc.2 l)
  · unfold formOf; rw [if_neg hc, setOf_out (by omega)]
set_option linter.unusedVariables false
/-- All are right, or there is a first one that is not. -/
theorem first_bad (P : Nat → Bool) : ∀ n, (∀ i, i < n → P i = true) ∨ ∃ i, i < n ∧ P i = false ∧ ∀ k, k < i → P k = true := by
  intro n
  induction n with
  | zero => exact .inl fun i h => by omega
  | succ n ih =>
    rcases ih with h | ⟨i, h1, h2, h3⟩
    · cases hp : P n with
      | true =>
        refine .inl fun i hi => ?_
        by_cases e : i = n
        · rw [e]; exact hp
        · exact h i (by omega)
      | false => exact .inr ⟨n, by omega, hp, h⟩
    · exact .inr ⟨i, by omega, h2, h3⟩
/-! ### Sets of ticks -/
theorem ticksOf_getD {C : Int} (hc : 1 ≤ C ∧ C ≤ 6000) (l : List (Int × Int)) (i : Nat) (h : (i : Int) < C) : (ticksOf C l).getD i false = true ↔ TS C l i := by
  unfold ticksOf; rw [if_pos hc]
  have := tks_bt C.toNat (TS C l) (j := (i : Int)) (by omega) (by omega)
  simpa [BT, bt] using this
/-- A row of bools, made one by one. -/
def mk (n : Nat) (f : Nat → Bool) : List Bool := (List.range n).map f
theorem mk_len (n : Nat) (f : Nat → Bool) : (mk n f).length = n := by simp [mk]
theorem mk_snoc (n : Nat) (f : Nat → Bool) (i : Nat) (h : i < n) : (mk n f).take (i + 1) = (mk n f).take i ++ [f i] := by
  rw [take_snoc _ i false (by rw [mk_len]; exact h)]
  congr 2
  simp [mk, List.getD_eq_getElem?_getD, h]
theorem mk_tks {C : Int} (hc : 1 ≤ C ∧ C ≤ 6000) {f : Nat → Bool} {T : Int → Prop} (h : ∀ i : Nat, (i : Int) < C → (f i = true ↔ T i)) : mk C.toNat f = tks C.toNat T :=
  bools_ext (mk_len _ _) fun j hj => by
    simp only [bt, mk, List.getD_eq_getElem?_getD, List.getElem?_map, List.getElem?_range hj, Option.map_some, Option.getD_some]
    exact h j (by omega)
theorem wide_zero {C : Int} {T : Int → Prop} {f : List (Int × Int)} (hf : Arcs C T f) : f.foldl wide (0, 0) = widestOf f := by
  cases f with
  | nil => rfl
  | cons a r =>
    have := ((hf.mem a).1 (by simp)).2.2.1
    have e : wide (0, 0) a = a := by unfold wide; rw [if_pos (by simp only; omega)]
    simp only [List.foldl_cons, e, widestOf]
theorem tks_setv (C : Nat) (T : Int → Prop) (i : Nat) (v : Bool) : List.set (tks C T) i v = tks C fun j => (j = i ∧ v = true) ∨ (j ≠ i ∧ T j) := by
  refine bools_ext (by simp [tks_len]) fun j hj => ?_
  have := tks_bt C T (j := (j : Int)) (by omega) (by omega)
  simp only [BT, bt, Int.toNat_natCast] at this
  simp only [bt, List.getD_eq_getElem?_getD, List.getElem?_set] at this ⊢
  by_cases h : i = j
  · subst h; simp [tks_len, hj]
  · rw [if_neg h, this]
    constructor
    · exact fun h' => .inr ⟨by omega, h'⟩
    · rintro (h' | h')
      · omega
      · exact h'.2
/-! ### Examples -/
theorem setOf_eval {C : Int} (hc : 1 ≤ C ∧ C ≤ 6000) (l : List (Int × Int)) : setOf C l = frm (mk C.toNat fun j => l.any fun a => decide (HasT C a j)) := by
  rw [← formOf_set]
  unfold formOf
  rw [if_pos hc, mk_tks hc (T := TS C l) fun i _ => by simp [TS]]
theorem restOf_eval {C : Int} (hc : 1 ≤ C ∧ C ≤ 6000) (l : List (Int × Int)) : restOf C l = frm (mk C.toNat fun j => !(l.any fun a => decide (HasT C a j))) := by
  rw [← formOf_eq hc (restOf_arcs hc.1 hc.2 l)]
  unfold formOf
  rw [if_pos hc, mk_tks hc (T := fun j => ¬ TS C l j) fun i _ => by simp [TS]]
end Go.Proofs.YtiildimlelphhaaGreatDoor.Fn
