/- Chapter 7's laws: each head in one phase, each phase once in the rings, foes apart. -/
import Derived.Test.YtbcejiobmeglgaaPlainC
namespace Go.Proofs.Ytbcejiobmeglgaa.Fn
open Go Go.RowKit Go.Den
set_option linter.unusedVariables false
theorem wrap_cnt {c : Nat} (h : c ≤ 1) : wrap64 ((c : Int) + 1) = ((c + 1 : Nat) : Int) := wrap_succ (by omega)
set_option maxHeartbeats 1000000 in
theorem count_ (y : NodeT) (s : ByteArray) (h5 : y.2.2.2.2.1.length ≤ 50) (hg : ∀ g ∈ y.2.2.2.2.1, g.length ≤ 5) (hr : ∀ g ∈ y.2.2.2.2.1, ∀ r ∈ g, r.2.length ≤ 50) (h1 : cnt s (allNames y.2.2.2.2.1) ≤ 1) :
    Ev (fun n => law07_count n (y.1, y.2.1, y.2.2.1, y.2.2.2.1, y.2.2.2.2.1, y.2.2.2.2.2.1, y.2.2.2.2.2.2, s)) ((cnt s (allNames y.2.2.2.2.1) : Nat) : Int) := by
  obtain ⟨y1, y2, y3, y4, y5, y6, y7⟩ := y
  unfold law07_count
  simp only at h5 hg hr h1 ⊢
  refine Ev.loopB (st := fun i => (s, ((cnt s (allNames (y5.take i)) : Nat) : Int), (i : Int), y1, y2, y3, y4, y5, y6, y7)) y5.length ((cnt s (allNames y5) : Nat) : Int) (by simp [allNames, cnt]) (fun i hi => ?_) ?_ (Ev.ret _)
  · simp only [ofNat_lt_true hi, cond_true]
    have hG : (y5.getD i []).length ≤ 5 := hg _ (getD_mem y5 i [] hi)
    have hR := hr _ (getD_mem y5 i [] hi)
    have hup : cnt s (allNames (y5.take i)) + cnt s (namesG (y5.getD i [])) ≤ 1 := by
      rw [← cnt_app, ← allNames_snoc y5 i hi]
      exact Nat.le_trans (flat_take_le s namesG y5 (i + 1)) h1
    have hnext : cnt s (allNames (y5.take (i + 1))) = cnt s (allNames (y5.take i)) + cnt s (namesG (y5.getD i [])) := by rw [allNames_snoc y5 i hi, cnt_app]
    refine Ev.loopB (st := fun k => (s, ((cnt s (allNames (y5.take i)) + cnt s (namesG ((y5.getD i []).take k)) : Nat) : Int), (i : Int), (k : Int), y1, y2, y3, y4, y5, y6, y7)) (y5.getD i []).length (s, ((cnt s (allNames (y5.take (i + 1))) : Nat) : Int), (i : Int), y1, y2, y3, y4, y5, y6, y7) (by simp [namesG, cnt]) (fun k hk => ?_) ?_ ?_
    · simp only [inB_nat, hi, decide_true, cond_true, atI_nat, ofNat_lt_true hk]
      have hL : ((y5.getD i []).getD k zRow).2.length ≤ 50 := hR _ (getD_mem _ k zRow hk)
      have hup2 : cnt s (namesG ((y5.getD i []).take k)) + cnt s ((y5.getD i []).getD k zRow).2 ≤ cnt s (namesG (y5.getD i [])) := by
        rw [← cnt_app, ← namesG_snoc _ k hk]
        exact flat_take_le s (fun r : RowT => r.2) _ (k + 1)
      have hnext2 : cnt s (namesG ((y5.getD i []).take (k + 1))) = cnt s (namesG ((y5.getD i []).take k)) + cnt s ((y5.getD i []).getD k zRow).2 := by rw [namesG_snoc _ k hk, cnt_app]
      refine Ev.loopB (st := fun m => (s, ((cnt s (allNames (y5.take i)) + cnt s (namesG ((y5.getD i []).take k)) + cnt s (((y5.getD i []).getD k zRow).2.take m) : Nat) : Int), (i : Int), (k : Int), (m : Int), y1, y2, y3, y4, y5, y6, y7)) ((y5.getD i []).getD k zRow).2.length (s, ((cnt s (allNames (y5.take i)) + cnt s (namesG ((y5.getD i []).take (k + 1))) : Nat) : Int), (i : Int), (k : Int), y1, y2, y3, y4, y5, y6, y7) (by simp [cnt]) (fun m hm => ?_) ?_ ?_
      · have hm' : m < ((y5.getD i []).getD k (false, [])).2.length := hm
        simp only [inB_nat, hi, hk, decide_true, cond_true, atI_nat, ofNat_lt_true hm', hm', wrap_succ (show m < 9223372036854775807 by omega)]
        have e := cnt_take s (ByteArray.mk #[]) _ m hm
        have hle := cnt_take_le s ((y5.getD i []).getD k zRow).2 (m + 1)
        by_cases hq : strEq (((y5.getD i []).getD k zRow).2.getD m (ByteArray.mk #[])) s = true
        · rw [if_pos hq] at e
          refine Ev.yes hq ?_
          rw [wrap_cnt (by omega), e]
          exact Ev.ret _
        · rw [if_neg hq] at e
          refine Ev.no (Bool.eq_false_iff.2 hq) ?_
          rw [e]
          exact Ev.ret _
      · have hh : ∀ l : List RowT, l.getD k (false, []) = l.getD k zRow := fun _ => rfl
        simp only [inB_nat, hi, hk, decide_true, cond_true, atI_nat, hh, ofNat_lt_irrefl, cond_false, List.take_length, hnext2, Nat.add_assoc]
        exact Ev.ret _
      · simp only [wrap_succ (show k < 9223372036854775807 by omega)]
        exact Ev.ret _
    · simp only [inB_nat, hi, decide_true, cond_true, atI_nat, ofNat_lt_irrefl, cond_false, List.take_length, hnext]
      exact Ev.ret _
    · simp only [wrap_succ (show i < 9223372036854775807 by omega)]
      exact Ev.ret _
  · simp only [ofNat_lt_irrefl, cond_false, List.take_length]; exact Ev.ret _
end Go.Proofs.Ytbcejiobmeglgaa.Fn
