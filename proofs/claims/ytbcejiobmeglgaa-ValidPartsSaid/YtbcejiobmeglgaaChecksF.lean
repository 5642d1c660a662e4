/- Chapter 7, of the program: places of names, the artery, networks. -/
import Derived.Test.YtbcejiobmeglgaaChecksE
namespace Go.Proofs.Ytbcejiobmeglgaa.Fn
open Go Go.RowKit Go.Den
set_option linter.unusedVariables false
theorem cnodeIx_ (a b c d e : Int) (ns : List NodeT) (ss : List StopT) (f g : Int) (k : ByteArray) (hl : ns.length < 9223372036854775807) : Ev (fun n => valid_Node n (a, b, c, d, e, ns, ss, f, g, k)) (nodeIx ns k) := by
  unfold valid_Node
  refine Ev.bind (a := (nodeIx ns k, k)) ?_ (Ev.ret _)
  unfold slices_IndexFunc_valid_Node_1
  exact indexFuncV_ev (S := ByteArray) zNode (fun n a s => valid_Node_1 n (a.1, a.2.1, a.2.2.1, a.2.2.2.1, a.2.2.2.2.1, a.2.2.2.2.2.1, a.2.2.2.2.2.2, s)) (fun h => strEq h.1 k) ns k hl fun a _ => Ev.ret _
theorem cheadIx_ (a : ByteArray) (b : List HeadT) (c : List PedT) (ph : List PhaseT) (e : List (List RowT)) (f : List FoeT) (g : Int) (k : ByteArray) (hl : b.length < 9223372036854775807) : Ev (fun n => valid_Head n (a, b, c, ph, e, f, g, k)) (headIx b k) := by
  unfold valid_Head
  refine Ev.bind (a := (headIx b k, k)) ?_ (Ev.ret _)
  unfold slices_IndexFunc_valid_Head_1
  exact indexFuncV_ev (S := ByteArray) zHead (fun n a s => valid_Head_1 n (a.1, a.2.1, a.2.2.1, a.2.2.2.1, a.2.2.2.2.1, a.2.2.2.2.2.1, a.2.2.2.2.2.2.1, a.2.2.2.2.2.2.2.1, a.2.2.2.2.2.2.2.2.1, a.2.2.2.2.2.2.2.2.2.1, a.2.2.2.2.2.2.2.2.2.2, s)) (fun h => strEq h.1 k) b k hl fun a _ => Ev.ret _
set_option maxHeartbeats 1000000 in
theorem cstops_ (x : NetT) (hn : x.2.2.2.2.2.1.length < 9223372036854775807) (hs : Sh x.2.2.2.2.2.2.1) (hh : ∀ y ∈ x.2.2.2.2.2.1, y.2.1.length < 9223372036854775807) : Ev (fun n => valid_stops n x) (resE (stopsE x.2.2.2.2.2.1 x.2.2.2.2.2.2.1) ()) := by
  obtain ⟨a, b, c, d, e, ns, ss, f, g⟩ := x
  unfold valid_stops stopsE
  simp only at hn hs hh ⊢
  refine Ev.loopS (st := fun i => (ss, ((ss.length : Nat) : Int), (i : Int), a, b, c, d, e, ns, ss, f, g, nset ((ss.take i).map (·.1)))) ss.length (stopE ns ss) () rfl (fun i hi _ => ?_) (fun _ => ?_) (fun h => ?_) (fun h => ?_)
  · have hz : ss.getD i (ByteArray.mk #[], ByteArray.mk #[], ByteArray.mk #[], 0, 0, 0) = ss.getD i zStop := rfl
    simp only [ofNat_lt_true hi, cond_true, inB_nat, hi, decide_true, atI_nat, hz, map_snoc _ _ _ zStop hi]
    unfold stopE
    have ht := in_take (fun q : StopT => q.1) (ss.take i) (ss.getD i zStop).1
    generalize (ss.take i).map (fun x => x.1) = nm at ht ⊢
    generalize ss.getD i zStop = s at ht ⊢
    obtain ⟨s1, s2, s3, s4, s5, s6⟩ := s
    simp only at ht ⊢
    refine Ev.bind (cnodeIx_ _ _ _ _ _ _ _ _ _ _ hn) ?_
    by_cases h1 : nodeIx ns s1 < 0
    · rw [if_pos h1, decide_eq_false (show ¬ (0 : Int) ≤ nodeIx ns s1 by omega)]
      exact Ev.ret _
    rw [if_neg h1, decide_eq_true (show (0 : Int) ≤ nodeIx ns s1 by omega)]
    refine Ev.must (fun _ => ?_) (fun h => by cases h)
    refine Ev.bindS (fun n => once_ n _ _) ?_
    rw [← ht]
    cases hin : inOf nm s1 with
    | true => rw [if_pos rfl]; exact Ev.ret _
    | false =>
    rw [if_neg Bool.false_ne_true]
    refine Ev.must (fun _ => ?_) (fun h => by cases h)
    have hg := idxI_ge (fun h : NodeT => strEq h.1 s1) ns
    have hlt : nodeIx ns s1 < ns.length := hg.2
    obtain ⟨at_, hat⟩ := Int.eq_ofNat_of_zero_le (show 0 ≤ nodeIx ns s1 by omega)
    rw [hat] at hlt ⊢
    have hal : at_ < ns.length := by omega
    have hzn : ns.getD at_ (ByteArray.mk #[], [], [], [], [], [], 0) = ns.getD at_ zNode := rfl
    simp only [Int.toNat_natCast, inB_nat, hal, decide_true, cond_true, atI_nat, hzn, letJ]
    have hsh := hh _ (getD_mem ns at_ zNode hal)
    generalize ns.getD at_ zNode = y at hsh
    unfold stopRest
    simp only
    refine Ev.bind (cheadIx_ _ _ _ _ _ _ _ _ hsh) ?_
    by_cases h2 : headIx y.2.1 s2 < 0
    · rw [if_pos (show headIx y.2.1 s2 < 0 ∨ headIx y.2.1 s3 < 0 from .inl h2)]
      exact Ev.no (decide_eq_false (by omega)) (Ev.ret _)
    refine Ev.yes (decide_eq_true (by omega)) ?_
    refine Ev.bind (cheadIx_ _ _ _ _ _ _ _ _ hsh) ?_
    by_cases h3 : headIx y.2.1 s3 < 0
    · rw [if_pos (show headIx y.2.1 s2 < 0 ∨ headIx y.2.1 s3 < 0 from .inr h3), decide_eq_false (show ¬ (0 : Int) ≤ headIx y.2.1 s3 by omega)]
      exact Ev.ret _
    rw [if_neg (show ¬ (headIx y.2.1 s2 < 0 ∨ headIx y.2.1 s3 < 0) by omega), decide_eq_true (show (0 : Int) ≤ headIx y.2.1 s3 by omega)]
    refine Ev.must (fun _ => ?_) (fun h => by cases h)
    refine Ev.bind (within_ _ _ _ (by simp)) ?_
    rw [all2]
    cases hr : inR s4 0 6000 && inR s5 0 6000 with
    | false => rw [if_pos rfl]; exact Ev.ret _
    | true =>
    rw [if_neg (show ¬ (true = false) by decide)]
    refine Ev.must (fun _ => ?_) (fun h => by cases h)
    have hw := wrap_succ (show i < 9223372036854775807 by omega)
    by_cases h0 : i = 0
    · refine Ev.no (decide_eq_false (by omega)) ?_
      by_cases h4 : s4 = 0
      · refine Ev.yes (by simp [h4]) ?_
        by_cases h5 : s5 = 0
        · rw [if_neg (show ¬ (i = 0 ∧ (s4 ≠ 0 ∨ s5 ≠ 0)) by simp [h4, h5])]
          refine Ev.must (fun _ => ?_) (fun h => by simp [h5] at h)
          simp only [hw]; exact Ev.ret _
        · rw [if_pos (show i = 0 ∧ (s4 ≠ 0 ∨ s5 ≠ 0) from ⟨h0, .inr h5⟩)]
          exact Ev.must (fun h => by simp [h5] at h) fun _ => Ev.ret _
      · refine Ev.no (by simp [h4]) ?_
        rw [if_pos (show i = 0 ∧ (s4 ≠ 0 ∨ s5 ≠ 0) from ⟨h0, .inl h4⟩)]
        exact Ev.ret _
    · refine Ev.yes (decide_eq_true (by omega)) ?_
      rw [if_neg (show ¬ (i = 0 ∧ (s4 ≠ 0 ∨ s5 ≠ 0)) from fun h => h0 h.1)]
      refine Ev.must (fun _ => ?_) (fun h => by cases h)
      simp only [hw]; exact Ev.ret _
  · simp only [ofNat_lt_irrefl, cond_false]; exact Ev.ret _
  · rw [resE_no h]; exact Ev.ret _
  · rw [scanE_none h]; exact Ev.ret _
end Go.Proofs.Ytbcejiobmeglgaa.Fn
