/- Chapter 7's laws: what is told of once. -/
import Derived.Test.YtbcejiobmeglgaaPlainB
namespace Go.Proofs.Ytbcejiobmeglgaa.Fn
open Go Go.RowKit Go.Den
set_option linter.unusedVariables false
def cnt (s : ByteArray) (l : List ByteArray) : Nat := l.countP fun x => strEq x s
theorem cnt_app (s : ByteArray) (a b : List ByteArray) : cnt s (a ++ b) = cnt s a + cnt s b := List.countP_append
theorem cnt_one (s x : ByteArray) : cnt s [x] = if strEq x s = true then 1 else 0 := by
  unfold cnt
  rw [List.countP_cons, List.countP_nil, Nat.zero_add]
theorem cnt_take (s d : ByteArray) (l : List ByteArray) (k : Nat) (h : k < l.length) : cnt s (l.take (k + 1)) = cnt s (l.take k) + if strEq (l.getD k d) s = true then 1 else 0 := by
  rw [take_snoc l k d h, cnt_app, cnt_one]
theorem cnt_take_le (s : ByteArray) (l : List ByteArray) (k : Nat) : cnt s (l.take k) ≤ cnt s l := List.Sublist.countP_le (List.take_sublist k l)
theorem flat_take {A : Type} (s : ByteArray) (f : A → List ByteArray) (d : A) (l : List A) (p : Nat) (h : p < l.length) : cnt s ((l.take (p + 1)).flatMap f) = cnt s ((l.take p).flatMap f) + cnt s (f (l.getD p d)) := by
  rw [take_snoc l p d h, List.flatMap_append, cnt_app]
  simp
theorem flat_take_le {A : Type} (s : ByteArray) (f : A → List ByteArray) (l : List A) (p : Nat) : cnt s ((l.take p).flatMap f) ≤ cnt s (l.flatMap f) := by
  have : l.flatMap f = (l.take p).flatMap f ++ (l.drop p).flatMap f := by rw [← List.flatMap_append, List.take_append_drop]
  rw [this, cnt_app]; omega
theorem snoc_le {L : List ByteArray} {x : ByteArray} (h : ∀ s, cnt s L ≤ 1) (hx : inOf L x = false) : ∀ s, cnt s (L ++ [x]) ≤ 1 := by
  intro s
  rw [cnt_app, cnt_one]
  have := h s
  by_cases he : strEq x s = true
  · have hs : x = s := (strEq_iff x s).1 he
    subst hs
    have h0 : cnt x L = 0 := by
      unfold cnt
      rw [List.countP_eq_zero]
      intro a ha
      unfold inOf at hx
      rw [List.any_eq_false] at hx
      rw [strEq_comm]
      exact hx a ha
    rw [h0]; split <;> omega
  · rw [if_neg he]; omega
theorem cnt_pos {L : List ByteArray} {s : ByteArray} (h : inOf L s = true) : 1 ≤ cnt s L := by
  unfold inOf at h
  obtain ⟨a, ha, he⟩ := List.any_eq_true.1 h
  unfold cnt
  exact List.countP_pos_iff.2 ⟨a, ha, by rw [strEq_comm]; exact he⟩
theorem line_once {ph : List PhaseT} {pos : Int} {seen names : List ByteArray} (h : (lineE ph pos seen names).1 = 0) (hs : ∀ s, cnt s seen ≤ 1) : ∀ s, cnt s (seen ++ names) ≤ 1 := by
  have key : ∀ m, m ≤ names.length → ∀ s, cnt s (seen ++ names.take m) ≤ 1 := by
    intro m
    induction m with
    | zero => intro _; simpa using hs
    | succ m ih =>
      intro hm
      rw [take_snoc names m (ByteArray.mk #[]) (by omega), ← List.append_assoc]
      refine snoc_le (ih (by omega)) ?_
      have h1 := scanE_ok h m (by omega)
      unfold nameE at h1
      split at h1
      · cases h1
      · split at h1
        · cases h1
        · rename_i hh; simpa using hh
  have := key names.length (Nat.le_refl _)
  rwa [List.take_length] at this
theorem group_once {ph : List PhaseT} {pos : Int} {seen : List ByteArray} {g : List RowT} (h : (groupE ph pos seen g).1 = 0) (hs : ∀ s, cnt s seen ≤ 1) : ∀ s, cnt s (seen ++ namesG g) ≤ 1 := by
  unfold groupE at h
  split at h
  · cases h
  have key : ∀ m, m ≤ g.length → ∀ s, cnt s (seen ++ namesG (g.take m)) ≤ 1 := by
    intro m
    induction m with
    | zero => intro _; simpa [namesG] using hs
    | succ m ih =>
      intro hm
      rw [namesG_snoc g m (by omega), ← List.append_assoc]
      have h1 := scanE_ok h m (by omega)
      unfold ringE at h1
      split at h1
      · cases h1
      · exact line_once h1 (ih (by omega))
  have := key g.length (Nat.le_refl _)
  rwa [List.take_length] at this
theorem groups_once {ph : List PhaseT} {pos : Int} {gs : List (List RowT)} (h : (groupsE ph pos gs).1 = 0) : ∀ s, cnt s (allNames gs) ≤ 1 := by
  have key : ∀ m, m ≤ gs.length → ∀ s, cnt s (allNames (gs.take m)) ≤ 1 := by
    intro m
    induction m with
    | zero => intro _ s; simp [allNames, cnt]
    | succ m ih =>
      intro hm
      rw [allNames_snoc gs m (by omega)]
      exact group_once (scanE_ok h m (by omega)) (ih (by omega))
  have := key gs.length (Nat.le_refl _)
  rwa [List.take_length] at this
theorem rings_once {ph : List PhaseT} {pos : Int} {gs : List (List RowT)} (h : (ringsE ph pos gs).1 = 0) (i : Nat) (hi : i < ph.length) : cnt (ph.getD i zPhase).1 (allNames gs) = 1 := by
  unfold ringsE at h
  split at h
  · rename_i hg
    have h1 := groups_once hg (ph.getD i zPhase).1
    have h2 := scanE_ok h i hi
    split at h2
    · rename_i hh
      have := cnt_pos hh
      omega
    · cases h2
  · rename_i hg; exact absurd h hg
theorem home_ge {ph : List PhaseT} {x : ByteArray} {i q : Nat} (h : ¬ homeOf ph x < (i : Int)) (hq : q < i) : inOf (ph.getD q zPhase).2.1 x = false := by
  unfold homeOf at h
  obtain ⟨j, h1, h2, h3, h4⟩ := idxI_spec (fun p : PhaseT => inOf p.2.1 x) zPhase ph (by omega)
  exact h4 q (by omega)
theorem phases_once {hs : List HeadT} {ph : List PhaseT} (h : (phasesE hs ph).1 = 0) : (∀ s, cnt s (ph.flatMap fun p => p.2.1) ≤ 1) ∧ ∀ j, j < hs.length → 0 ≤ homeOf ph (hs.getD j zHead).1 := by
  unfold phasesE at h
  split at h
  rotate_left
  · rename_i hg; exact absurd h hg
  rename_i hp
  constructor
  · have key : ∀ i, i ≤ ph.length → ∀ s, cnt s ((ph.take i).flatMap fun p => p.2.1) ≤ 1 := by
      intro i
      induction i with
      | zero => intro _ s; simp [cnt]
      | succ i ih =>
        intro hi
        have h1 := scanE_ok hp i (by omega)
        unfold phaseE at h1
        split at h1
        · cases h1
        split at h1
        rotate_left
        · rename_i hg; exact absurd h1 hg
        rename_i hk
        have ih := ih (by omega)
        have key2 : ∀ k, k ≤ (ph.getD i zPhase).2.1.length → ∀ s, cnt s (((ph.take i).flatMap fun p => p.2.1) ++ (ph.getD i zPhase).2.1.take k) ≤ 1 := by
          intro k
          induction k with
          | zero => intro _; simpa using ih
          | succ k ihk =>
            intro hkl
            rw [take_snoc _ k (ByteArray.mk #[]) (by omega), ← List.append_assoc]
            refine snoc_le (ihk (by omega)) ?_
            have h2 := scanE_ok hk k (by omega)
            unfold phHeadE at h2
            split at h2
            · cases h2
            split at h2
            · cases h2
            rename_i hn
            have hn1 : ¬ homeOf ph ((ph.getD i zPhase).2.1.getD k (ByteArray.mk #[])) < (i : Int) := fun e => hn (.inl e)
            have hn2 : inOf ((ph.getD i zPhase).2.1.take k) ((ph.getD i zPhase).2.1.getD k (ByteArray.mk #[])) = false := by
              cases hh : inOf ((ph.getD i zPhase).2.1.take k) ((ph.getD i zPhase).2.1.getD k (ByteArray.mk #[])) with
              | false => rfl
              | true => exact absurd (.inr hh) hn
            generalize (ph.getD i zPhase).2.1.getD k (ByteArray.mk #[]) = x at hn1 hn2
            cases hall : inOf (((ph.take i).flatMap fun p => p.2.1) ++ (ph.getD i zPhase).2.1.take k) x with
            | false => rfl
            | true =>
              exfalso
              unfold inOf at hall hn2
              rw [List.any_append, hn2, Bool.or_false] at hall
              obtain ⟨a, ha, he⟩ := List.any_eq_true.1 hall
              obtain ⟨p, hpm, hap⟩ := List.mem_flatMap.1 ha
              obtain ⟨q, hq, rfl⟩ := List.getElem_of_mem hpm
              have hq' : q < i := by simp at hq; omega
              have h3 := home_ge hn1 hq'
              have e1 : ph.getD q zPhase = (ph.take i)[q] := by
                rw [getD_lt _ _ _ (by omega)]; simp
              rw [e1] at h3
              unfold inOf at h3
              rw [List.any_eq_false] at h3
              exact h3 a hap he
        intro s
        have := key2 _ (Nat.le_refl _) s
        rw [List.take_length, cnt_app] at this
        rw [flat_take s _ zPhase ph i (by omega)]
        exact this
    have := key ph.length (Nat.le_refl _)
    rwa [List.take_length] at this
  · intro j hj
    have h1 := scanE_ok h j hj
    unfold homeE at h1
    split at h1
    · cases h1
    · rename_i hh; omega
theorem home_in {ph : List PhaseT} {s : ByteArray} (h : 0 ≤ homeOf ph s) : inOf (ph.flatMap fun p => p.2.1) s = true := by
  unfold homeOf at h
  obtain ⟨j, h1, h2, h3, h4⟩ := idxI_spec (fun p : PhaseT => inOf p.2.1 s) zPhase ph h
  unfold inOf at h3 ⊢
  obtain ⟨a, ha, he⟩ := List.any_eq_true.1 h3
  exact List.any_eq_true.2 ⟨a, List.mem_flatMap.2 ⟨_, getD_mem ph j zPhase h2, ha⟩, he⟩
theorem head_once {hs : List HeadT} {ph : List PhaseT} (h : (phasesE hs ph).1 = 0) (j : Nat) (hj : j < hs.length) : cnt (hs.getD j zHead).1 (ph.flatMap fun p => p.2.1) = 1 := by
  obtain ⟨h1, h2⟩ := phases_once h
  have h3 := h1 (hs.getD j zHead).1
  have h4 := cnt_pos (home_in (h2 j hj))
  omega
theorem foe_ok {hs : List HeadT} {ph : List PhaseT} {fs : List FoeT} (h : (phasesE hs ph).1 = 0) (hf : (foesE hs ph fs).1 = 0) (i : Nat) (hi : i < fs.length) : homeOf ph (fs.getD i zFoe).1 ≠ homeOf ph (fs.getD i zFoe).2.1 ∧ 0 ≤ homeOf ph (fs.getD i zFoe).1 := by
  have h1 := scanE_ok hf i hi
  unfold foeE at h1
  split at h1
  · cases h1
  rename_i h2
  split at h1
  · cases h1
  rename_i h3
  refine ⟨fun e => h3 (.inr e), ?_⟩
  have h4 : 0 ≤ headIx hs (fs.getD i zFoe).1 := by omega
  unfold headIx at h4
  obtain ⟨j, k1, k2, k3, k4⟩ := idxI_spec (fun q : HeadT => strEq q.1 (fs.getD i zFoe).1) zHead hs h4
  have := (phases_once h).2 j k2
  rwa [(strEq_iff _ _).1 k3] at this
end Go.Proofs.Ytbcejiobmeglgaa.Fn
