/- Chapter 7, of the program: what valid.Check's helpers compute: a node. -/
import Derived.Test.YtbcejiobmeglgaaChecksC
namespace Go.Proofs.Ytbcejiobmeglgaa.Fn
open Go Go.RowKit Go.Den
set_option linter.unusedVariables false
theorem thenE_ok {a b : Err} (h : a.1 = 0) : thenE a b = b := if_pos h
theorem thenE_no {a b : Err} (h : a.1 ≠ 0) : thenE a b = a := if_neg h
theorem Ev.resT {A B : Type} {F : Nat → Option (Err ⊕ A)} {e r : Err} {v : A} {w : B} {g : Nat → A → Option (Err ⊕ B)} (h : Ev F (resE e v)) (hk : e.1 = 0 → Ev (fun n => g n v) (resE r w)) :
    Ev (fun n => (F n).bind (Sum.elim (fun y => some (.inl y)) (g n))) (resE (thenE e r) w) := by
  refine Ev.res (f := fun _ y => some (Sum.inl y)) h (fun h0 => ?_) (fun h0 => ?_)
  · rw [thenE_no h0, resE_no h0]; exact Ev.ret _
  · rw [thenE_ok h0]; exact hk h0
theorem Ev.loopT {X Z B : Type} {L : Nat → X → Option (X ⊕ (Err ⊕ Z))} {g : Nat → Z → Option (Err ⊕ B)} (st : Nat → X) (N : Nat) (f : Nat → Err) (y : Z) {x0 : X} {r : Err} {w : B} (h0 : x0 = st 0)
    (h : ∀ i, i < N → (∀ k, k < i → (f k).1 = 0) → Ev (fun n => L n (st i)) (if (f i).1 = 0 then .inl (st (i + 1)) else .inr (.inl (f i))))
    (h3 : (∀ k, k < N → (f k).1 = 0) → Ev (fun n => L n (st N)) (.inr (.inr y)))
    (he : (∀ k, k < N → (f k).1 = 0) → Ev (fun n => g n y) (resE r w)) : Ev (fun n => (iterL n (L n) x0).bind (Sum.elim (fun y => some (.inl y)) (g n))) (resE (thenE (scanE N f) r) w) := by
  refine Ev.loopS (G := fun n => Sum.elim (fun y => some (.inl y)) (g n)) st N f y h0 h h3 (fun h => ?_) (fun h => ?_)
  · rw [thenE_no h, resE_no h]; exact Ev.ret _
  · rw [thenE_ok (by rw [scanE_none h])]; exact he h
def homeM (ph : List PhaseT) : Nat → MapI
  | 0 => []
  | i + 1 => puts i (homeM ph i) (ph.getD i zPhase).2.1
def phE2 (hsN : List ByteArray) (ph : List PhaseT) (i : Nat) : Err := phE1 hsN ((ph.take i).map (·.1)) (homeM ph i) i (ph.getD i zPhase)
def homeE2 (hs : List HeadT) (om : MapI) (i : Nat) : Err := if mhas (hs.getD i zHead).1 om then (0, 0) else (73, (hs.getD i zHead).2.2.2.2.2.2.2.2.2.2)
def vnodeE (x : NodeT) : Err :=
  thenE (sizesE x) (thenE (headsE x.2.1) (thenE (scanE x.2.2.2.1.length (phE2 (x.2.1.map (·.1)) x.2.2.2.1)) (thenE (scanE x.2.1.length (homeE2 x.2.1 (homeM x.2.2.2.1 x.2.2.2.1.length)))
    (thenE (scanE x.2.2.1.length (pedE1 x.2.2.1 (x.2.2.2.1.map (·.1)))) (thenE (ringsE x.2.2.2.1 x.2.2.2.2.2.2 x.2.2.2.2.1) (thenE (scanE x.2.2.2.2.2.1.length (foeE1 x.2.2.2.2.2.1 (x.2.1.map (·.1)) (homeM x.2.2.2.1 x.2.2.2.1.length))) (0, 0)))))))
theorem Ev.stepL {X A Z : Type} {F : Nat → Option (Err ⊕ A)} {e : Err} {v : A} {g : Nat → A → Option (X ⊕ (Err ⊕ Z))} {s : X} (h : Ev F (resE e v)) (hk : e.1 = 0 → Ev (fun n => g n v) (.inl s)) :
    Ev (fun n => (F n).bind (Sum.elim (fun y => some (.inr (.inl y))) (g n))) (if e.1 = 0 then .inl s else .inr (.inl e)) := by
  refine Ev.res (f := fun _ y => some (Sum.inr (Sum.inl y))) h (fun h0 => ?_) (fun h0 => ?_)
  · rw [if_neg h0]; exact Ev.ret _
  · rw [if_pos h0]; exact hk h0
theorem sizesOk_len {x : NodeT} (h : (sizesE x).1 = 0) : x.2.1.length ≤ 16 ∧ x.2.2.2.1.length ≤ 16 ∧ x.2.2.1.length ≤ 8 ∧ x.2.2.2.2.1.length ≤ 4 ∧ x.2.2.2.2.2.1.length ≤ 64 := by
  unfold sizesE at h
  split at h
  · rename_i h1
    simp only [sizesOk, Bool.not_eq_true', Bool.or_eq_false_iff, decide_eq_false_iff_not, Nat.not_lt] at h1
    exact ⟨h1.1, h1.2.1, h1.2.2.1, h1.2.2.2.1, h1.2.2.2.2⟩
  · cases h
set_option maxHeartbeats 1000000 in
theorem cnode_ (x : NodeT) (hpp : ∀ p ∈ x.2.2.2.1, Sh p.2.1) : Ev (fun n => valid_node n x) (resE (vnodeE x) ()) := by
  obtain ⟨x1, x2, x3, x4, x5, x6, x7⟩ := x
  unfold valid_node vnodeE
  simp only at hpp ⊢
  refine Ev.resT (sizes_ x1 x2 x3 x4 x5 x6 x7 [] [] []) fun hz => ?_
  obtain ⟨s1, s2, s3, s4, s5⟩ := sizesOk_len hz
  simp only at s1 s2 s3 s4 s5
  refine Ev.loopT (st := fun i => (x2, ((x2.length : Nat) : Int), (i : Int), x1, x2, x3, x4, x5, x6, x7, x1, x2, x3, x4, x5, x6, x7, nset ((x2.take i).map (·.1)), ([] : MapB), ([] : MapI))) x2.length (headE x2)
    (x1, x2, x3, x4, x5, x6, x7, x1, x2, x3, x4, x5, x6, x7, nset (x2.map (·.1)), ([] : MapB), ([] : MapI)) rfl (fun i hi _ => ?_) (fun _ => ?_) (fun _ => ?_)
  · have hz : x2.getD i (ByteArray.mk #[], 0, 0, 0, 0, 0, 0, 0, 0, 0, 0) = x2.getD i zHead := rfl
    simp only [ofNat_lt_true hi, cond_true, inB_nat, hi, decide_true, atI_nat, hz, wrap_succ (show i < 9223372036854775807 by omega), map_snoc _ _ _ zHead hi]
    rw [← headE1_eq _ _ hi]
    have k := chead_ (x2.getD i zHead) (x1, x2, x3, x4, x5, x6, x7) ((x2.take i).map (·.1)) [] []
    simp only at k
    exact Ev.stepL k fun _ => Ev.ret _
  · simp only [ofNat_lt_irrefl, cond_false, List.take_length]; exact Ev.ret _
  dsimp only
  refine Ev.loopT (st := fun i => (x4, ((x4.length : Nat) : Int), (i : Int), x1, x2, x3, x4, x5, x6, x7, x1, x2, x3, x4, x5, x6, x7, nset (x2.map (·.1)), nset ((x4.take i).map (·.1)), homeM x4 i)) x4.length _
    (x1, x2, x3, x4, x5, x6, x7, x1, x2, x3, x4, x5, x6, x7, nset (x2.map (·.1)), nset (x4.map (·.1)), homeM x4 x4.length) rfl (fun i hi _ => ?_) (fun _ => ?_) (fun _ => ?_)
  · have hz : x4.getD i (ByteArray.mk #[], [], 0) = x4.getD i zPhase := rfl
    simp only [ofNat_lt_true hi, cond_true, inB_nat, hi, decide_true, atI_nat, hz, wrap_succ (show i < 9223372036854775807 by omega), map_snoc _ _ _ zPhase hi]
    have hp := hpp _ (getD_mem _ _ zPhase hi)
    rw [show phE2 (x2.map (·.1)) x4 i = phE1 (x2.map (·.1)) ((x4.take i).map (·.1)) (homeM x4 i) i (x4.getD i zPhase) from rfl, show homeM x4 (i + 1) = puts i (homeM x4 i) (x4.getD i zPhase).2.1 from rfl]
    generalize homeM x4 i = om
    generalize (x4.take i).map (·.1) = nm
    generalize x4.getD i zPhase = p at hp ⊢
    obtain ⟨p1, p2, p3⟩ := p
    have k := cphase_ (i : Int) (p1, p2, p3) (x1, x2, x3, x4, x5, x6, x7) (x2.map (·.1)) nm om hp
    simp only at k ⊢
    exact Ev.stepL k fun _ => Ev.ret _
  · simp only [ofNat_lt_irrefl, cond_false, List.take_length]; exact Ev.ret _
  dsimp only
  refine Ev.loopT (st := fun i => (x2, ((x2.length : Nat) : Int), (i : Int), x1, x2, x3, x4, x5, x6, x7, nset (x2.map (·.1)), nset (x4.map (·.1)), homeM x4 x4.length)) x2.length _
    (x1, x2, x3, x4, x5, x6, x7, nset (x2.map (·.1)), nset (x4.map (·.1)), homeM x4 x4.length) rfl (fun i hi _ => ?_) (fun _ => ?_) (fun _ => ?_)
  · have hz : x2.getD i (ByteArray.mk #[], 0, 0, 0, 0, 0, 0, 0, 0, 0, 0) = x2.getD i zHead := rfl
    simp only [ofNat_lt_true hi, cond_true, inB_nat, hi, decide_true, atI_nat, hz, wrap_succ (show i < 9223372036854775807 by omega)]
    exact Ev.mustL (by decide) fun _ => Ev.ret _
  · simp only [ofNat_lt_irrefl, cond_false]; exact Ev.ret _
  have k1 := cwalks_ (x1, x2, x3, x4, x5, x6, x7) (x2.map (·.1)) (x4.map (·.1)) (homeM x4 x4.length) (by simp only [Sh]; omega)
  have k2 := crings_ (x1, x2, x3, x4, x5, x6, x7) (nset (x2.map (·.1))) (homeM x4 x4.length) (by simp only [Sh]; omega) (by simp only [Sh]; omega)
  have k3 := cfoes_ (x1, x2, x3, x4, x5, x6, x7) (x2.map (·.1)) (nset (x4.map (·.1))) (homeM x4 x4.length) (by simp only [Sh]; omega)
  simp only at k1 k2 k3
  refine Ev.resT k1 fun _ => ?_
  refine Ev.resT k2 fun _ => ?_
  exact Ev.resT k3 fun _ => Ev.ret _
end Go.Proofs.Ytbcejiobmeglgaa.Fn
