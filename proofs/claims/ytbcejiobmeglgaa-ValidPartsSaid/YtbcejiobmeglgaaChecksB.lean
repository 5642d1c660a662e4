/- Chapter 7, of the program: what valid.Check's helpers compute: phases, walks, foes. -/
import Derived.Test.YtbcejiobmeglgaaChecks
namespace Go.Proofs.Ytbcejiobmeglgaa.Fn
open Go Go.RowKit Go.Den
set_option linter.unusedVariables false
def puts (i : Int) (om : MapI) (l : List ByteArray) : MapI := l.foldl (fun m k => mput k (k, i) m) om
theorem puts_snoc (i : Int) (om : MapI) (l : List ByteArray) (k : ByteArray) : puts i om (l ++ [k]) = mput k (k, i) (puts i om l) := by simp [puts]
theorem mhas_putv {V : Type} (k j : ByteArray) (v : V) (m : List (ByteArray × V)) : mhas k (mput j (j, v) m) = (mhas k m || strEq j k) := mhas_put k j v m
theorem puts_has (i : Int) (k : ByteArray) : ∀ (l : List ByteArray) (om : MapI), mhas k (puts i om l) = (mhas k om || inOf l k) := by
  intro l
  induction l with
  | nil => intro om; simp [puts, inOf]
  | cons a l ih =>
    intro om
    have := ih (mput a (a, i) om)
    unfold puts at this ⊢
    rw [List.foldl_cons, this, mhas_putv]
    have : inOf (a :: l) k = (strEq k a || inOf l k) := by simp [inOf]
    rw [this, strEq_comm k a, Bool.or_assoc]
def phHE (hsN : List ByteArray) (om : MapI) (i : Int) (p : PhaseT) (k : Nat) : Err :=
  if inOf hsN (p.2.1.getD k (ByteArray.mk #[])) then (if !(mhas (p.2.1.getD k (ByteArray.mk #[])) (puts i om (p.2.1.take k))) then (0, 0) else (71, p.2.2)) else (72, p.2.2)
def phE1 (hsN phN : List ByteArray) (om : MapI) (i : Int) (p : PhaseT) : Err :=
  if !(inOf phN p.1) then (if (scanE p.2.1.length (phHE hsN om i p)).1 = 0 then (if decide (0 < ((p.2.1.length : Nat) : Int)) then (0, 0) else (73, p.2.2)) else scanE p.2.1.length (phHE hsN om i p)) else (71, p.2.2)
theorem Ev.mustL {X A : Type} {b : Bool} {e p : Int} {r : Err} {v : X} {g : Nat → Unit → Option (X ⊕ (Err ⊕ A))} (he : e ≠ 0) (h : b = true → Ev (fun n => g n ()) (if r.1 = 0 then .inl v else .inr (.inl r))) :
    Ev (fun n => (valid_must n (b, e, p)).bind (Sum.elim (fun y => some (.inr (.inl y))) (g n))) (if (if b then r else (e, p)).1 = 0 then .inl v else .inr (.inl (if b then r else (e, p)))) := by
  refine Ev.must (f := fun _ y => some (Sum.inr (Sum.inl y))) (fun hb => ?_) (fun hb => ?_)
  · rw [if_pos hb]; exact h hb
  · rw [if_neg (show ¬ b = true by rw [hb]; exact Bool.false_ne_true), if_neg (show ¬ ((e, p) : Err).1 = 0 from he)]; exact Ev.ret _
theorem cphase_ (i : Int) (p : PhaseT) (x : NodeT) (hsN phN : List ByteArray) (om : MapI) (hl : Sh p.2.1) :
    Ev (fun n => valid_checker_phase n (i, p.1, p.2.1, p.2.2, x.1, x.2.1, x.2.2.1, x.2.2.2.1, x.2.2.2.2.1, x.2.2.2.2.2.1, x.2.2.2.2.2.2, nset hsN, nset phN, om))
      (resE (phE1 hsN phN om i p) (x.1, x.2.1, x.2.2.1, x.2.2.2.1, x.2.2.2.2.1, x.2.2.2.2.2.1, x.2.2.2.2.2.2, nset (phN ++ [p.1]), nset hsN, puts i om p.2.1)) := by
  obtain ⟨x1, x2, x3, x4, x5, x6, x7⟩ := x
  obtain ⟨a1, a2, a3⟩ := p
  unfold valid_checker_phase
  refine Ev.bindS (fun n => once_ n _ _) ?_
  unfold phE1
  refine Ev.mustE (by decide) fun _ => ?_
  simp only at hl ⊢
  refine Ev.loopS (st := fun k => (i, a2, ((a2.length : Nat) : Int), (k : Int), x1, x2, x3, x4, x5, x6, x7, a1, a2, a3, nset (phN ++ [a1]), nset hsN, puts i om (a2.take k))) a2.length (phHE hsN om i (a1, a2, a3)) (x1, x2, x3, x4, x5, x6, x7, a1, a2, a3, nset (phN ++ [a1]), nset hsN, puts i om a2) rfl (fun k hk _ => ?_) (fun _ => ?_) (fun h => ?_) (fun h => ?_)
  · simp only [ofNat_lt_true hk, cond_true, inB_nat, hk, decide_true, atI_nat, wrap_succ (show k < 9223372036854775807 by omega), nset_find, take_snoc _ _ (ByteArray.mk #[]) hk, puts_snoc]
    unfold phHE
    exact Ev.mustL (by decide) fun _ => Ev.mustL (by decide) fun _ => Ev.ret _
  · simp only [ofNat_lt_irrefl, cond_false, List.take_length]; exact Ev.ret _
  · rw [if_neg h, resE_no h]; exact Ev.ret _
  · rw [if_pos (show (scanE a2.length (phHE hsN om i (a1, a2, a3))).1 = 0 by rw [scanE_none h])]
    exact Ev.mustE (by decide) fun _ => Ev.ret _
def pedE1 (ps : List PedT) (phN : List ByteArray) (i : Nat) : Err :=
  if !(inOf ((ps.take i).map (·.1)) (ps.getD i zPed).1) then (if inOf phN (ps.getD i zPed).2.1 then (if pedRange (ps.getD i zPed) then (0, 0) else (70, (ps.getD i zPed).2.2.2.2.2)) else (72, (ps.getD i zPed).2.2.2.2.2)) else (71, (ps.getD i zPed).2.2.2.2.2)
theorem map_snoc {A B : Type} (f : A → B) (l : List A) (i : Nat) (d : A) (h : i < l.length) : (l.take (i + 1)).map f = (l.take i).map f ++ [f (l.getD i d)] := by rw [take_snoc _ _ d h, List.map_append]; rfl
theorem cwalks_ (x : NodeT) (hsN phN : List ByteArray) (om : MapI) (hl : Sh x.2.2.1) :
    Ev (fun n => valid_checker_walks n (x.1, x.2.1, x.2.2.1, x.2.2.2.1, x.2.2.2.2.1, x.2.2.2.2.2.1, x.2.2.2.2.2.2, nset hsN, nset phN, om))
      (resE (scanE x.2.2.1.length (pedE1 x.2.2.1 phN)) (x.1, x.2.1, x.2.2.1, x.2.2.2.1, x.2.2.2.2.1, x.2.2.2.2.2.1, x.2.2.2.2.2.2, nset hsN, nset phN, om)) := by
  obtain ⟨x1, x2, x3, x4, x5, x6, x7⟩ := x
  unfold valid_checker_walks
  simp only at hl ⊢
  refine Ev.loopS (st := fun k => (x3, ((x3.length : Nat) : Int), (k : Int), x1, x2, x3, x4, x5, x6, x7, nset hsN, nset phN, om, nset ((x3.take k).map (·.1)))) x3.length (pedE1 x3 phN) (x1, x2, x3, x4, x5, x6, x7, nset hsN, nset phN, om) rfl (fun k hk _ => ?_) (fun _ => ?_) (fun h => ?_) (fun h => ?_)
  · have hz : x3.getD k (ByteArray.mk #[], ByteArray.mk #[], 0, 0, 0, 0) = x3.getD k zPed := rfl
    simp only [ofNat_lt_true hk, cond_true, inB_nat, hk, decide_true, atI_nat, hz, wrap_succ (show k < 9223372036854775807 by omega), nset_find, map_snoc _ _ _ zPed hk]
    unfold pedE1
    generalize x3.getD k zPed = p
    refine Ev.bindS (fun n => once_ n _ _) ?_
    refine Ev.mustL (by decide) fun _ => Ev.mustL (by decide) fun _ => ?_
    unfold pedRange
    refine Ev.bind (within_ _ _ _ (by simp)) ?_
    rw [all1]
    cases inR p.2.2.1 1 100000 with
    | false => exact Ev.ret _
    | true =>
    refine Ev.bind (within_ _ _ _ (by simp)) ?_
    rw [all1]
    cases inR p.2.2.2.1 1 10000 with
    | false => exact Ev.ret _
    | true =>
    refine Ev.bind (within_ _ _ _ (by simp)) ?_
    rw [all1]
    exact Ev.mustL (by decide) fun _ => Ev.ret _
  · simp only [ofNat_lt_irrefl, cond_false]; exact Ev.ret _
  · rw [resE_no h]; exact Ev.ret _
  · rw [scanE_none h]; exact Ev.ret _
def foeE1 (fs : List FoeT) (hsN : List ByteArray) (om : MapI) (i : Nat) : Err :=
  if inOf hsN (fs.getD i zFoe).1 && inOf hsN (fs.getD i zFoe).2.1 then (if !((mfind (fs.getD i zFoe).1 ((fs.getD i zFoe).1, 0) om).2 == (mfind (fs.getD i zFoe).2.1 ((fs.getD i zFoe).2.1, 0) om).2) then (0, 0) else (75, (fs.getD i zFoe).2.2)) else (72, (fs.getD i zFoe).2.2)
theorem cfoes_ (x : NodeT) (hsN : List ByteArray) (b : MapB) (om : MapI) (hl : Sh x.2.2.2.2.2.1) :
    Ev (fun n => valid_checker_foes n (x.1, x.2.1, x.2.2.1, x.2.2.2.1, x.2.2.2.2.1, x.2.2.2.2.2.1, x.2.2.2.2.2.2, nset hsN, b, om))
      (resE (scanE x.2.2.2.2.2.1.length (foeE1 x.2.2.2.2.2.1 hsN om)) (x.1, x.2.1, x.2.2.1, x.2.2.2.1, x.2.2.2.2.1, x.2.2.2.2.2.1, x.2.2.2.2.2.2, nset hsN, b, om)) := by
  obtain ⟨x1, x2, x3, x4, x5, x6, x7⟩ := x
  unfold valid_checker_foes
  simp only at hl ⊢
  refine Ev.loopS (st := fun k => (x6, ((x6.length : Nat) : Int), (k : Int), x1, x2, x3, x4, x5, x6, x7, nset hsN, b, om)) x6.length (foeE1 x6 hsN om) (x1, x2, x3, x4, x5, x6, x7, nset hsN, b, om) rfl (fun k hk _ => ?_) (fun _ => ?_) (fun h => ?_) (fun h => ?_)
  · have hz : x6.getD k (ByteArray.mk #[], ByteArray.mk #[], 0) = x6.getD k zFoe := rfl
    simp only [ofNat_lt_true hk, cond_true, inB_nat, hk, decide_true, atI_nat, hz, wrap_succ (show k < 9223372036854775807 by omega), nset_find, letJ]
    unfold foeE1
    generalize x6.getD k zFoe = p
    cases inOf hsN p.1 with
    | false => exact Ev.ret _
    | true =>
    exact Ev.mustL (by decide) fun _ => Ev.mustL (by decide) fun _ => Ev.ret _
  · simp only [ofNat_lt_irrefl, cond_false]; exact Ev.ret _
  · rw [resE_no h]; exact Ev.ret _
  · rw [scanE_none h]; exact Ev.ret _
end Go.Proofs.Ytbcejiobmeglgaa.Fn
