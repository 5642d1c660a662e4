/- Proved: the law ValidParts of chapter 7 returns true for every input, and its arguments read behind the call as before; no condition. -/
import Derived.Test.YtbcejiobmeglgaaRows
import Derived.Test.YtbcejiobmeglgaaPlainB
import Derived.WalkKit
import Derived.ProofKit
import Derived.OpenShut
import Derived.ShutString
import Derived.ChangeOld
import Derived.Below
import Derived.Carry
import Derived.SizedLaws
namespace Go.Proofs.Ytbcejiobmeglgaa.validParts
open Go Go.ChangeShapes Go.WideShapes Go.ChangeAt Go.RowKit Go.Den Go.Proofs.Ytbcejiobmeglgaa.Fn
set_option linter.unusedVariables false
theorem own : ownKnob Try.prog.godebug = none := by kernel_rfl
theorem laidOut : laidOutB Try.prog = true := by kernel_rfl
set_option maxRecDepth 100000 in
theorem lifted (os : Os) (started : os.Started) (H : Type) (enc : TypeId × Value → H) :
    ReturnsInHanded {} Try.checked os 4 .any (Rows.validPartsSpec.pre6 enc Try.prog Try.f4 Rows.validPartsRow.domain false) (Rows.validPartsSpec.post enc Try.prog Try.f4 false true false false) := by
  refine returnsInHanded_of_change_sized (C := Try.checked) own started (by kernel_rfl) Try.func4
    (ChangeSpec.witness6 (enc := enc) (C := Try.checked) false ⟨#[], #[.agg #[.int .i64 0, .int .i64 0, .int .i64 0, .int .i64 0, .int .i64 0, .slice none 0 0, .slice none 0 0, .int .i64 0, .int .i64 0]], []⟩ 8 (by kernel_rfl) (by kernel_rfl) (by kernel_rfl) (by kernel_rfl)) ?_
  intro W base args ds gs before hval0 hW hcnd hsz0 _
  have hval : ∀ (j : Nat) t v, Try.f4.params[j]? = some t → args[j]? = some v → Value.okWide Try.prog W .any base t v := hval0
  have hW' := hW
  obtain ⟨p, q, hA0, hV, rfl, hfz, hnd⟩ := hW
  have hA : DataW.TrodAll enc Try.prog W 0 (fun _ => true) true Try.f4.params.toList args.toList ds p := hA0
  rw [Try.params4] at hA hval
  obtain ⟨v0, vs0, d0, ds0, p0, q0, hargs, rfl, rfl, h0, r0⟩ := trodAll_cons hA
  obtain ⟨rfl, rfl, rfl⟩ := trodAll_nil r0
  obtain rfl : args = #[v0] := by cases args; simp_all
  obtain ⟨rfl, rfl⟩ := trodVars_none hV
  have k0 := h0
  have lt0 : ∀ x ∈ p0, x.block < W.heap.size := by obtain ⟨m, hm⟩ := k0; exact DataW.trod_lt m _ _ _ hm
  obtain ⟨x0, o0, w0⟩ := open_arg (Nat.le_refl _) (Θ := Θ W.heap.size) (p := .agg [.int .i64, .int .i64, .int .i64, .int .i64, .int .i64, .sl 39, .sl 53, .int .i64, .int .i64]) (by kernel_rfl) (hval 0 27 v0 rfl rfl) h0
  clear hA0 hval0 hsz0
  obtain ⟨n, hn⟩ := Ev.some_at (ValidParts_ x0 )
  have hst : (h_law07_ValidParts.st (T := T) x0).slots = [pdAV (.agg [.int .i64, .int .i64, .int .i64, .int .i64, .int .i64, .sl 39, .sl 53, .int .i64, .int .i64]) x0] := by kernel_rfl
  refine (law_ok (s_law07_ValidParts W.heap.size n) rfl rfl hn (hg := fun p hp => nomatch hp) (vs := [v0]) (@Eq.mpr _ _ (congrArg (fun s => All2 (RAV (Θ W.heap.size) W (fun b => b < W.heap.size) (fun _ _ => 0) (fun _ _ => .slice none 0 0)) s [v0]) hst) (.cons (pdAV_ok o0) .nil))).mono fun e W1 he => ?_
  obtain ⟨rfl, bel⟩ := he
  exact ⟨_, rfl, _, _, _, [], _, [], hW', trodAll_mk1 (shut_bool Try.underlying4 _), (trodAll_cons_mk (Below.trod laidOut (by kernel_rfl) (of_decide_eq_true (by kernel_rfl)) k0 bel lt0) trodAll_mk0), rfl, bel.frame _, fun h => by cases h⟩
theorem over : Rows.validPartsRow.holds Try.pinned (OpenSpec.ofChange Rows.validPartsSpec) :=
  OpenClaim.holds_of_wide 4 Try.f4 rfl rfl rfl rfl rfl rfl rfl ⟨rfl, rfl, rfl, rfl, rfl⟩ rfl rfl rfl rfl rfl (by kernel_rfl) Try.func4 (by kernel_rfl)
    (of_decide_eq_true (by kernel_rfl)) (by unfold Func.isWrapper; first | (rw [if_pos (by decide +kernel)]; kernel_rfl) | (rw [if_neg (by decide +kernel)]; exact ⟨rfl, rfl⟩))
    (fun os started H enc _ => lifted os started H enc)
theorem proved : Rows.ValidPartsSaid := over
#print axioms proved
end Go.Proofs.Ytbcejiobmeglgaa.validParts
namespace Go.Proofs.Ytbcejiobmeglgaa
/-- The row, under a short name, for the claim. -/
theorem validParts_holds : Rows.ValidPartsSaid := validParts.proved
end Go.Proofs.Ytbcejiobmeglgaa
