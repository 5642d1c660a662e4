/- Chapter 7: a node is checked by the program as the document says. -/
import Derived.Test.YtbcejiobmeglgaaChecksD
namespace Go.Proofs.Ytbcejiobmeglgaa.Fn
open Go Go.RowKit Go.Den
set_option linter.unusedVariables false
theorem scanE_congr {N : Nat} {f g : Nat → Err} (h : ∀ i, i < N → f i = g i) : scanE N f = scanE N g := by
  by_cases h0 : ∀ i, i < N → (f i).1 = 0
  · rw [scanE_none h0, scanE_none fun i hi => by rw [← h i hi]; exact h0 i hi]
  · have : ∃ i, i < N ∧ (f i).1 ≠ 0 ∧ ∀ k, k < i → (f k).1 = 0 := by
      have hex : ∃ i, i < N ∧ (f i).1 ≠ 0 := by
        refine Classical.byContradiction fun hn => h0 fun i hi => ?_
        exact Classical.byContradiction fun hne => hn ⟨i, hi, hne⟩
      obtain ⟨i, hi⟩ := hex
      induction i using Nat.strongRecOn with
      | _ i ih =>
        by_cases hk : ∃ k, k < i ∧ (f k).1 ≠ 0
        · obtain ⟨k, hki, hkn⟩ := hk
          exact ih k hki ⟨by omega, hkn⟩
        · exact ⟨i, hi.1, hi.2, fun k hki => Classical.byContradiction fun hne => hk ⟨k, hki, hne⟩⟩
    obtain ⟨i, hi, hne, hk⟩ := this
    rw [scanE_hit hi hne hk, scanE_hit (f := g) hi (by rw [← h i hi]; exact hne) fun k hki => by rw [← h k (by omega)]; exact hk k hki]
    exact h i hi
theorem in_take {A : Type} (f : A → ByteArray) (l : List A) (k : ByteArray) : inOf (l.map f) k = l.any fun q => strEq (f q) k := by rw [inOf_comm, List.any_map]; rfl
theorem pedE1_eq (ps : List PedT) (ph : List PhaseT) (i : Nat) : pedE1 ps (ph.map (·.1)) i = pedE ps ph i := by
  unfold pedE1 pedE phaseIx
  rw [in_take, ix_any]
  cases (ps.take i).any fun q => strEq q.1 (ps.getD i zPed).1 with
  | true => rfl
  | false =>
    by_cases h : idxI (fun h : PhaseT => strEq h.1 (ps.getD i zPed).2.1) ph < 0
    · rw [if_pos h, decide_eq_true h]; rfl
    · rw [if_neg h, decide_eq_false h]; rfl
theorem homeM_has (ph : List PhaseT) (k : ByteArray) : ∀ i, i ≤ ph.length → mhas k (homeM ph i) = (ph.take i).any fun p => inOf p.2.1 k := by
  intro i
  induction i with
  | zero => intro _; simp [homeM, mhas, hasP]
  | succ i ih =>
    intro hi
    rw [show homeM ph (i + 1) = puts i (homeM ph i) (ph.getD i zPhase).2.1 from rfl, puts_has, ih (by omega), take_snoc _ _ zPhase (by omega), List.any_append]
    simp
theorem in_getD (l : List ByteArray) (j : Nat) (h : j < l.length) : inOf l (l.getD j (ByteArray.mk #[])) = true := by
  rw [inOf_comm]
  exact (any_getD _ (ByteArray.mk #[]) l).2 ⟨j, h, (strEq_iff _ _).2 rfl⟩
theorem phHE_eq (hs : List HeadT) (ph : List PhaseT) (i j : Nat) (hi : i < ph.length) (hj : j < (ph.getD i zPhase).2.1.length) :
    phHE (hs.map (·.1)) (homeM ph i) i (ph.getD i zPhase) j = phHeadE hs ph i (ph.getD i zPhase) j := by
  unfold phHE phHeadE headIx homeOf
  rw [puts_has, homeM_has _ _ _ (by omega), ix_any]
  have hk := in_getD _ _ hj
  have h := idx_lt_any (fun p : PhaseT => inOf p.2.1 ((ph.getD i zPhase).2.1.getD j (ByteArray.mk #[]))) zPhase ph i hi hk
  rw [← h]
  generalize (ph.getD i zPhase).2.1.getD j (ByteArray.mk #[]) = k
  by_cases h1 : idxI (fun h : HeadT => strEq h.1 k) hs < 0
  · rw [if_pos h1, decide_eq_true h1]; rfl
  · rw [if_neg h1, decide_eq_false h1]
    by_cases h2 : idxI (fun p : PhaseT => inOf p.2.1 k) ph < (i : Int)
    · rw [if_pos (Or.inl h2), decide_eq_true h2]; rfl
    · rw [decide_eq_false h2]
      cases h3 : inOf ((ph.getD i zPhase).2.1.take j) k with
      | true => rw [if_pos (Or.inr rfl)]; rfl
      | false =>
        have hn : ¬ (idxI (fun p : PhaseT => inOf p.2.1 k) ph < (i : Int) ∨ false = true) := fun h => h.elim h2 (fun h => by cases h)
        rw [if_neg hn]; rfl
theorem phE2_eq (hs : List HeadT) (ph : List PhaseT) (i : Nat) (hi : i < ph.length) : phE2 (hs.map (·.1)) ph i = phaseE hs ph i := by
  unfold phE2 phE1 phaseE phaseIx
  rw [scanE_congr fun j hj => phHE_eq hs ph i j hi hj, in_take]
  have h := idx_lt_any (fun h : PhaseT => strEq h.1 (ph.getD i zPhase).1) zPhase ph i hi ((strEq_iff _ _).2 rfl)
  rw [← h, len_pos]
  by_cases h1 : idxI (fun h : PhaseT => strEq h.1 (ph.getD i zPhase).1) ph < (i : Int)
  · rw [if_pos h1, decide_eq_true h1]; rfl
  · rw [if_neg h1, decide_eq_false h1]
    by_cases h2 : (ph.getD i zPhase).2.1.length = 0
    · rw [if_pos h2, decide_eq_true h2]; rfl
    · rw [if_neg h2, decide_eq_false h2]; rfl
theorem homeE2_eq (hs : List HeadT) (ph : List PhaseT) (i : Nat) : homeE2 hs (homeM ph ph.length) i = homeE hs ph i := by
  unfold homeE2 homeE homeOf
  rw [homeM_has _ _ _ (Nat.le_refl _), List.take_length]
  have h := idxI_neg (fun p : PhaseT => inOf p.2.1 (hs.getD i zHead).1) ph
  by_cases h1 : idxI (fun p : PhaseT => inOf p.2.1 (hs.getD i zHead).1) ph < 0
  · rw [if_pos h1]
    rw [decide_eq_true h1] at h
    rw [if_neg (fun e => by rw [e] at h; cases h)]
  · rw [if_neg h1]
    rw [decide_eq_false h1] at h
    have hany : (ph.any fun p : PhaseT => inOf p.2.1 (hs.getD i zHead).1) = true := by
      cases hq : ph.any fun p : PhaseT => inOf p.2.1 (hs.getD i zHead).1 with
      | true => rfl
      | false => rw [hq] at h; cases h
    rw [if_pos hany]
def GoodM (ph : List PhaseT) (m : MapI) : Prop := ∀ k z, mhas k m = true → (mfind k z m).2 = homeOf ph k
theorem goodM_puts (ph : List PhaseT) (i : Int) : ∀ (l : List ByteArray) (m : MapI), GoodM ph m → (∀ k ∈ l, homeOf ph k = i) → GoodM ph (puts i m l) := by
  intro l
  induction l with
  | nil => intro m h _; exact h
  | cons a l ih =>
    intro m h hl
    have : puts i m (a :: l) = puts i (mput a (a, i) m) l := rfl
    rw [this]
    refine ih _ (fun k z hk => ?_) fun k hk => hl k (by simp [hk])
    rw [mfind_putv]
    by_cases e : strEq a k = true
    · rw [if_pos e]
      rw [strEq_iff] at e
      subst e
      exact (hl a (by simp)).symm
    · rw [if_neg e]
      rw [mhas_putv] at hk
      exact h k z (by simpa [show strEq a k = false by simpa using e] using hk)
theorem goodM_all (hs : List HeadT) (ph : List PhaseT) : ∀ i, i ≤ ph.length → (∀ j, j < i → (phaseE hs ph j).1 = 0) → GoodM ph (homeM ph i) := by
  intro i
  induction i with
  | zero => intro _ _ k z h; cases h
  | succ i ih =>
    intro hi h
    refine goodM_puts ph i _ _ (ih (by omega) fun j hj => h j (by omega)) fun k hk => ?_
    have hz := h i (by omega)
    unfold phaseE at hz
    split at hz
    · cases hz
    split at hz
    · rename_i h1 h2
      obtain ⟨j, hj, hjk⟩ := List.mem_iff_getElem.1 hk
      have hd : (ph.getD i zPhase).2.1.getD j (ByteArray.mk #[]) = k := by rw [getD_lt _ _ _ hj]; exact hjk
      have h3 := scanE_ok h2 j hj
      unfold phHeadE at h3
      split at h3
      · cases h3
      split at h3
      · cases h3
      rename_i h4 h5
      rw [hd] at h5
      have hin : inOf (ph.getD i zPhase).2.1 k = true := by rw [← hd]; exact in_getD _ _ hj
      have ha := idx_lt_any (fun p : PhaseT => inOf p.2.1 k) zPhase ph i (by omega) hin
      have hnl : ¬ idxI (fun p : PhaseT => inOf p.2.1 k) ph < (i : Int) := fun e => h5 (.inl e)
      rw [decide_eq_false hnl] at ha
      unfold homeOf
      refine idxI_hit _ zPhase ph i (by omega) (fun q hq => ?_) hin
      cases hv : inOf (ph.getD q zPhase).2.1 k with
      | false => rfl
      | true =>
        have : ((ph.take i).any fun p => inOf p.2.1 k) = true := (any_getD _ zPhase _).2 ⟨q, by simp; omega, by rw [take_getD _ _ _ _ hq]; exact hv⟩
        rw [this] at ha; cases ha
    · rename_i h1 h2; exact absurd hz h2
theorem foeE1_eq (hs : List HeadT) (ph : List PhaseT) (fs : List FoeT) (i : Nat) (hp : ∀ j, j < ph.length → (phaseE hs ph j).1 = 0) (hh : ∀ j, j < hs.length → (homeE hs ph j).1 = 0) :
    foeE1 fs (hs.map (·.1)) (homeM ph ph.length) i = foeE hs ph fs i := by
  have good := goodM_all hs ph ph.length (Nat.le_refl _) hp
  have find : ∀ k, inOf (hs.map (·.1)) k = true → ∀ z, (mfind k z (homeM ph ph.length)).2 = homeOf ph k := by
    intro k hk z
    refine good k z ?_
    rw [in_take] at hk
    obtain ⟨j, hj, hjk⟩ := (any_getD _ zHead hs).1 hk
    rw [strEq_iff] at hjk
    have := hh j hj
    unfold homeE at this
    split at this
    · cases this
    rename_i h1
    rw [hjk] at h1
    rw [homeM_has _ _ _ (Nat.le_refl _), List.take_length, ← idxI_any]
    unfold homeOf at h1
    exact decide_eq_true (by omega)
  unfold foeE1 foeE headIx
  generalize fs.getD i zFoe = f
  have e1 := ix_any (fun h : HeadT => h.1) hs f.1
  have e2 := ix_any (fun h : HeadT => h.1) hs f.2.1
  by_cases h1 : idxI (fun h : HeadT => strEq h.1 f.1) hs < 0
  · rw [if_pos (Or.inl h1), e1, decide_eq_true h1]; rfl
  by_cases h2 : idxI (fun h : HeadT => strEq h.1 f.2.1) hs < 0
  · rw [if_pos (Or.inr h2), e2, decide_eq_true h2, Bool.not_true, Bool.and_false]; rfl
  have hn : ¬ (idxI (fun h : HeadT => strEq h.1 f.1) hs < 0 ∨ idxI (fun h : HeadT => strEq h.1 f.2.1) hs < 0) := fun h => h.elim h1 h2
  rw [if_neg hn]
  have a1 : inOf (hs.map (·.1)) f.1 = true := by rw [e1, decide_eq_false h1]; rfl
  have a2 : inOf (hs.map (·.1)) f.2.1 = true := by rw [e2, decide_eq_false h2]; rfl
  rw [find _ a1, find _ a2, a1, a2, if_pos (show (true && true) = true from rfl)]
  by_cases h3 : homeOf ph f.1 = homeOf ph f.2.1
  · rw [if_pos (show strEq f.1 f.2.1 = true ∨ homeOf ph f.1 = homeOf ph f.2.1 from .inr h3), h3]; simp
  · have h4 : ¬ strEq f.1 f.2.1 = true := fun e => h3 (by rw [(strEq_iff _ _).1 e])
    have hn2 : ¬ (strEq f.1 f.2.1 = true ∨ homeOf ph f.1 = homeOf ph f.2.1) := fun h => h.elim h4 h3
    rw [if_neg hn2]; simp [h3]
theorem thenE_assoc (a b c : Err) : thenE (thenE a b) c = thenE a (thenE b c) := by
  unfold thenE
  by_cases h : a.1 = 0
  · rw [if_pos h, if_pos h]
  · rw [if_neg h, if_neg h, if_neg h]
theorem thenE_congr {a b c : Err} (h : a.1 = 0 → b = c) : thenE a b = thenE a c := by
  unfold thenE
  by_cases h0 : a.1 = 0
  · rw [if_pos h0, if_pos h0, h h0]
  · rw [if_neg h0, if_neg h0]
theorem thenE_scan (N : Nat) (f : Nat → Err) : thenE (scanE N f) (0, 0) = scanE N f := by
  unfold thenE
  by_cases h : (scanE N f).1 = 0
  · rw [if_pos h, scanE_zero h]
  · rw [if_neg h]
theorem vnodeE_eq (x : NodeT) : vnodeE x = nodeE x := by
  unfold vnodeE nodeE sizesE
  obtain ⟨x1, x2, x3, x4, x5, x6, x7⟩ := x
  by_cases h1 : sizesOk (x1, x2, x3, x4, x5, x6, x7) = true
  · rw [if_pos h1, if_pos h1]
    by_cases h2 : someOk (x1, x2, x3, x4, x5, x6, x7) = true
    · rw [if_pos h2, if_pos h2, thenE_ok rfl]
      simp only [thenE_assoc]
      refine thenE_congr fun _ => ?_
      rw [scanE_congr fun i hi => phE2_eq x2 x4 i hi]
      have : phasesE x2 x4 = thenE (scanE x4.length (phaseE x2 x4)) (scanE x2.length (homeE x2 x4)) := rfl
      rw [this, thenE_assoc]
      refine thenE_congr fun hp => ?_
      rw [scanE_congr fun i _ => homeE2_eq x2 x4 i]
      refine thenE_congr fun hh => ?_
      rw [scanE_congr fun i _ => pedE1_eq x3 x4 i]
      refine thenE_congr (b := _) fun _ => thenE_congr fun _ => ?_
      rw [thenE_scan]
      exact scanE_congr fun i _ => foeE1_eq x2 x4 x6 i (scanE_ok hp) (scanE_ok hh)
    · rw [if_neg h2, if_neg h2, thenE_no (show (73 : Int) ≠ 0 by decide)]
  · rw [if_neg h1, if_neg h1, thenE_no (show (4 : Int) ≠ 0 by decide)]
theorem cnode07_ (x : NodeT) (hpp : ∀ p ∈ x.2.2.2.1, Sh p.2.1) : Ev (fun n => valid_node n x) (resE (nodeE x) ()) := by
  rw [← vnodeE_eq]; exact cnode_ x hpp
end Go.Proofs.Ytbcejiobmeglgaa.Fn
