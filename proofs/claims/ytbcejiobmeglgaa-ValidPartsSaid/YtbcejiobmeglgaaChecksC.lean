/- Chapter 7, of the program: what valid.Check's helpers compute: rings. -/
import Derived.Test.YtbcejiobmeglgaaChecksB
namespace Go.Proofs.Ytbcejiobmeglgaa.Fn
open Go Go.RowKit Go.Den
set_option linter.unusedVariables false
theorem ix_any {A : Type} (f : A → ByteArray) (l : List A) (k : ByteArray) : inOf (l.map f) k = !(decide (idxI (fun h => strEq (f h) k) l < 0)) := by
  rw [idxI_neg, Bool.not_not, inOf_comm, List.any_map]; rfl
theorem nameE_eq (ph : List PhaseT) (pos : Int) (seen : List ByteArray) (s : ByteArray) : nameE ph pos seen s = if inOf (ph.map (·.1)) s then (if !(inOf seen s) then (0, 0) else (71, pos)) else (72, pos) := by
  rw [ix_any]
  unfold nameE phaseIx
  by_cases h : idxI (fun h : PhaseT => strEq h.1 s) ph < 0
  · rw [if_pos h, decide_eq_true h]; rfl
  · rw [if_neg h, decide_eq_false h]
    cases inOf seen s <;> rfl
set_option maxHeartbeats 1000000 in
theorem crings_ (x : NodeT) (hm : MapB) (om : MapI) (hl : Sh x.2.2.2.2.1) (hp : Sh x.2.2.2.1) :
    Ev (fun n => valid_checker_rings n (x.1, x.2.1, x.2.2.1, x.2.2.2.1, x.2.2.2.2.1, x.2.2.2.2.2.1, x.2.2.2.2.2.2, hm, nset (x.2.2.2.1.map (·.1)), om))
      (resE (ringsE x.2.2.2.1 x.2.2.2.2.2.2 x.2.2.2.2.1) (x.1, x.2.1, x.2.2.1, x.2.2.2.1, x.2.2.2.2.1, x.2.2.2.2.2.1, x.2.2.2.2.2.2, hm, nset (x.2.2.2.1.map (·.1)), om)) := by
  obtain ⟨x1, x2, x3, x4, x5, x6, x7⟩ := x
  unfold valid_checker_rings ringsE
  simp only at hl hp ⊢
  refine Ev.loopS (st := fun k => (x7, x5, ((x5.length : Nat) : Int), (k : Int), x1, x2, x3, x4, x5, x6, x7, hm, nset (x4.map (·.1)), om, nset (allNames (x5.take k)))) x5.length (fun i => groupE x4 x7 (allNames (x5.take i)) (x5.getD i []))
    (x1, x2, x3, x4, x5, x6, x7, hm, nset (x4.map (·.1)), om, nset (allNames x5)) rfl (fun i hi _ => ?_) (fun _ => ?_) (fun h => ?_) (fun h => ?_)
  · simp only [ofNat_lt_true hi, cond_true, inB_nat, hi, decide_true, atI_nat, letJ, len_pos]
    rw [allNames_snoc _ _ hi]
    generalize allNames (x5.take i) = seen
    generalize x5.getD i [] = g
    unfold groupE
    by_cases h0 : g.length = 0
    · rw [if_pos (show g.length < 1 ∨ 2 < g.length from .inl (by omega))]
      refine Ev.no (by simp [h0]) ?_
      exact Ev.ret _
    refine Ev.yes (by simp [h0]) ?_
    by_cases h2 : 2 < g.length
    · rw [if_pos (show g.length < 1 ∨ 2 < g.length from .inr h2), decide_eq_false (show ¬ ((g.length : Nat) : Int) ≤ 2 by omega)]
      exact Ev.ret _
    rw [if_neg (show ¬ (g.length < 1 ∨ 2 < g.length) by omega), decide_eq_true (show ((g.length : Nat) : Int) ≤ 2 by omega)]
    refine Ev.must (fun _ => ?_) (fun h => by cases h)
    refine Ev.loopS (st := fun k => (x7, x5, ((x5.length : Nat) : Int), (i : Int), g, ((g.length : Nat) : Int), (k : Int), x1, x2, x3, x4, x5, x6, x7, hm, nset (x4.map (·.1)), om, nset (seen ++ namesG (g.take k)))) g.length (fun k => ringE x4 x7 (seen ++ namesG (g.take k)) (g.getD k zRow))
      (x7, x5, ((x5.length : Nat) : Int), (i : Int), x1, x2, x3, x4, x5, x6, x7, hm, nset (x4.map (·.1)), om, nset (seen ++ namesG g)) (by simp [namesG]) (fun k hk _ => ?_) (fun _ => ?_) (fun h => ?_) (fun h => ?_)
    · have hz : g.getD k (false, []) = g.getD k zRow := rfl
      simp only [ofNat_lt_true hk, cond_true, inB_nat, hk, decide_true, atI_nat, hz]
      rw [namesG_snoc _ _ hk, ← List.append_assoc]
      generalize seen ++ namesG (g.take k) = seen2
      generalize g.getD k zRow = r
      obtain ⟨r1, r2⟩ := r
      unfold ringE
      by_cases h0 : r2.length = 0
      · rw [if_pos (show r2.length < 1 ∨ 4 < r2.length from .inl (by omega))]
        refine Ev.no (by simp [h0]) ?_
        exact Ev.ret _
      refine Ev.yes (by simp [h0]) ?_
      by_cases h4 : 4 < r2.length
      · rw [if_pos (show r2.length < 1 ∨ 4 < r2.length from .inr h4), decide_eq_false (show ¬ ((r2.length : Nat) : Int) ≤ 4 by omega)]
        exact Ev.ret _
      rw [if_neg (show ¬ (r2.length < 1 ∨ 4 < r2.length) by omega), decide_eq_true (show ((r2.length : Nat) : Int) ≤ 4 by omega)]
      refine Ev.must (fun _ => ?_) (fun h => by cases h)
      unfold lineE
      refine Ev.loopS (st := fun m => (x7, x5, ((x5.length : Nat) : Int), (i : Int), g, ((g.length : Nat) : Int), (k : Int), r2, ((r2.length : Nat) : Int), (m : Int), x1, x2, x3, x4, x5, x6, x7, hm, nset (x4.map (·.1)), om, nset (seen2 ++ r2.take m))) r2.length (fun m => nameE x4 x7 (seen2 ++ r2.take m) (r2.getD m (ByteArray.mk #[])))
        (x7, x5, ((x5.length : Nat) : Int), (i : Int), g, ((g.length : Nat) : Int), (k : Int), x1, x2, x3, x4, x5, x6, x7, hm, nset (x4.map (·.1)), om, nset (seen2 ++ r2)) (by simp) (fun m hm' _ => ?_) (fun _ => ?_) (fun h => ?_) (fun h => ?_)
      · simp only [ofNat_lt_true hm', cond_true, inB_nat, hm', decide_true, atI_nat, nset_find, wrap_succ (show m < 9223372036854775807 by omega)]
        rw [take_snoc _ _ (ByteArray.mk #[]) hm', ← List.append_assoc, nameE_eq]
        refine Ev.mustL (by decide) fun _ => ?_
        refine Ev.bindS (fun n => once_ n _ _) ?_
        exact Ev.mustL (by decide) fun _ => Ev.ret _
      · simp only [ofNat_lt_irrefl, cond_false, List.take_length]; exact Ev.ret _
      · rw [if_neg h]; exact Ev.ret _
      · rw [scanE_none h, if_pos rfl]
        simp only [Sum.elim_inr, wrap_succ (show k < 9223372036854775807 by omega)]
        exact Ev.ret _
    · simp only [ofNat_lt_irrefl, cond_false, List.take_length]; exact Ev.ret _
    · rw [if_neg h]; exact Ev.ret _
    · rw [scanE_none h, if_pos rfl]
      simp only [Sum.elim_inr, wrap_succ (show i < 9223372036854775807 by omega)]
      exact Ev.ret _
  · simp only [ofNat_lt_irrefl, cond_false, List.take_length]; exact Ev.ret _
  · have h' : (groupsE x4 x7 x5).1 ≠ 0 := h
    rw [if_neg h', resE_no h']; exact Ev.ret _
  · rw [if_pos (show (groupsE x4 x7 x5).1 = 0 by unfold groupsE; rw [scanE_none h])]
    refine Ev.loopS (st := fun k => (x4, ((x4.length : Nat) : Int), (k : Int), x1, x2, x3, x4, x5, x6, x7, hm, nset (x4.map (·.1)), om, nset (allNames x5))) x4.length (fun i => if inOf (allNames x5) (x4.getD i zPhase).1 = true then (0, 0) else (74, (x4.getD i zPhase).2.2))
      (x1, x2, x3, x4, x5, x6, x7, hm, nset (x4.map (·.1)), om) rfl (fun i hi _ => ?_) (fun _ => ?_) (fun h => ?_) (fun h => ?_)
    · have hz : x4.getD i (ByteArray.mk #[], [], 0) = x4.getD i zPhase := rfl
      simp only [ofNat_lt_true hi, cond_true, inB_nat, hi, decide_true, atI_nat, hz, nset_find, wrap_succ (show i < 9223372036854775807 by omega)]
      exact Ev.mustL (by decide) fun _ => Ev.ret _
    · simp only [ofNat_lt_irrefl, cond_false]; exact Ev.ret _
    · have h' : (seenE x4 (allNames x5)).1 ≠ 0 := h
      rw [resE_no h']; exact Ev.ret _
    · rw [resE_ok (show (seenE x4 (allNames x5)).1 = 0 by unfold seenE; rw [scanE_none h])]; exact Ev.ret _
end Go.Proofs.Ytbcejiobmeglgaa.Fn
