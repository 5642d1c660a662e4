/- '==' of structs of numbers, bools and texts. -/
import Derived.Test.YtemhdliapelleaaDenC
import Derived.Laws.StructEq
namespace Go.Den
open Go Go.RowKit

def fieldsFlat : List Field → Nat → Bool
  | [], _ => true
  | f :: fs, i => (f.offset == i && f.name != "_") && fieldsFlat fs (i + 1)
section
variable {P : Program}
theorem kindV_spec {ft : TypeId} {u : Value} (h : kindV P ft u = true) : (∃ k n k', u = .int k n ∧ P.underlying ft = some (.int k')) ∨ (∃ b, u = .bool b ∧ P.underlying ft = some .bool) ∨ ∃ b, u = .string b ∧ P.underlying ft = some .string := by
  cases u <;> simp only [kindV] at h <;> try (cases h; done)
  · split at h <;> try (cases h; done)
    rename_i k hk
    exact .inr (.inl ⟨_, rfl, hk⟩)
  · split at h <;> try (cases h; done)
    rename_i k hk
    exact .inl ⟨_, _, _, rfl, hk⟩
  · split at h <;> try (cases h; done)
    rename_i hk
    exact .inr (.inr ⟨_, rfl, hk⟩)
theorem run_fields (d : Nat) (w : World) : ∀ (fs : List Field) (i : Nat) (p1 p2 us vs : List Value) (r : Bool), fieldsFlat fs i = true → kindsV P fs us = true → eqVals us vs = some r → p1.length = i → p2.length = i →
    (Op.eqFields (d + 1) (p1 ++ us).toArray (p2 ++ vs).toArray fs).run P w = .ok r w := by
  intro fs
  induction fs with
  | nil =>
    intro i p1 p2 us vs r _ hk he _ _
    cases us with
    | cons u us => simp [kindsV] at hk
    | nil =>
      cases vs with
      | cons v vs => simp [eqVals] at he
      | nil => simp [eqVals] at he; subst he; simp [Op.eqFields]
  | cons f fs ih =>
    intro i p1 p2 us vs r hf hk he h1 h2
    cases us with
    | nil => simp [kindsV] at hk
    | cons u us =>
    cases vs with
    | nil => cases u <;> simp [eqVals] at he
    | cons v vs =>
    simp only [fieldsFlat, Bool.and_eq_true, beq_iff_eq, bne_iff_ne, ne_eq] at hf
    obtain ⟨⟨hoff, hname⟩, hrest⟩ := hf
    simp only [kindsV, Bool.and_eq_true] at hk
    have part1 : ∀ (p l : List Value) (x : Value), p.length = i → P.underlying f.type = P.underlying f.type → ((isAgg f.type).run P w = .ok false w) → (part f.type (p ++ x :: l).toArray f.offset).run P w = .ok x w := by
      intro p l x hp _ hag
      have hget : (p ++ x :: l).toArray[f.offset]? = some x := by
        rw [hoff, ← hp]; simp
      simp [part, Sem.run_bind, hag, hget]
    have go : ∀ (q : Bool) (r' : Bool), eqVals us vs = some r' → r = (q && r') → ((isAgg f.type).run P w = .ok false w) → ((Op.equalIn (d + 1) f.type u v).run P w = .ok q w) → (Op.eqFields (d + 1) (p1 ++ u :: us).toArray (p2 ++ v :: vs).toArray (f :: fs)).run P w = .ok r w := by
      intro q r' hr' hr hag heq
      have e1 := part1 p1 us u h1 rfl hag
      have e2 := part1 p2 vs v h2 rfl hag
      have e3 := ih (i + 1) (p1 ++ [u]) (p2 ++ [v]) us vs r' hrest hk.2 hr' (by simp [h1]) (by simp [h2])
      simp only [List.append_assoc, List.singleton_append] at e3
      simp only [Op.eqFields, hname, ne_eq, not_false_eq_true, if_true, Sem.run_bind, e1, e2, heq, Result.andThen_ok]
      cases q with
      | false => simp [hr]
      | true => simp [e3, hr]
    rcases kindV_spec hk.1 with ⟨k, a, k', rfl, hu⟩ | ⟨a, rfl, hu⟩ | ⟨a, rfl, hu⟩
    · cases v <;> simp only [eqVals] at he <;> try (cases he; done)
      split at he <;> try (cases he; done)
      rename_i hkk
      subst hkk
      cases hr : eqVals us vs with
      | none => simp [hr] at he
      | some r' =>
        simp only [hr, Option.map_some, Option.some.injEq] at he
        exact go _ r' hr he.symm (by simp [isAgg, run_underlying hu]) (run_equalIn_int w d f.type _ _ _ _ hu)
    · cases v <;> simp only [eqVals] at he <;> try (cases he; done)
      cases hr : eqVals us vs with
      | none => simp [hr] at he
      | some r' =>
        simp only [hr, Option.map_some, Option.some.injEq] at he
        exact go _ r' hr he.symm (by simp [isAgg, run_underlying hu]) (run_equalIn_bool' w d f.type _ _ hu)
    · cases v <;> simp only [eqVals] at he <;> try (cases he; done)
      cases hr : eqVals us vs with
      | none => simp [hr] at he
      | some r' =>
        simp only [hr, Option.map_some, Option.some.injEq] at he
        exact go _ r' hr he.symm (by simp [isAgg, run_underlying hu]) (run_equalIn_string w d f.type _ _ hu)
/-- A struct of numbers, bools and texts is compared cell by cell. -/
theorem eqT_of {t : TypeId} (ht : P.underlying t = some (.struct (P.fieldsOf t))) (hp : P.stoodInHeld t = false) (hm : P.eqGuardType P.depth t = false) (hf : fieldsFlat (P.fieldsOf t).toList 0 = true) : EqT P t := by
  have key : ∀ (us vs : List Value) (r : Bool) (W : World), kindsV P (P.fieldsOf t).toList us = true → eqVals us vs = some r → (Op.equalIn 10000 t (.agg us.toArray) (.agg vs.toArray)).run P W = .ok r W := by
    intro us vs r W hk he
    rw [run_equalIn_struct W 9999 t _ _ ht hp]
    exact run_fields 9998 W _ 0 [] [] us vs r hf hk he rfl rfl
  constructor
  · intro us vs r x y W _ hk he
    simp only [Sem.run_bind, run_eqGuard_agg W _ _ _ _ _ _ hm, Result.andThen_ok, run_eql_struct, key us vs r W hk he]
  · intro us vs r x y W _ hk he
    simp only [Sem.run_bind, run_eqGuard_agg W _ _ _ _ _ _ hm, Result.andThen_ok, run_neq_struct, key us vs r W hk he]
end
end Go.Den
