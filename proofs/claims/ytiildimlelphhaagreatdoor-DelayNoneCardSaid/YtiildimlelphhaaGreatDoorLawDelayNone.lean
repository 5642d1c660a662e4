/- Proved: the law DelayNone of chapter 26 returns true for every input, and its arguments read behind the call as before. Condition: the two listed package-level variables hold what the program's text lays there; the card ties that. -/
import Derived.Test.YtiildimlelphhaaGreatDoorRows
import Derived.Test.YtiildimlelphhaaGreatDoorCards
import Derived.Test.YtiildimlelphhaaGreatDoorTie
import Derived.Test.YtiildimlelphhaaGreatDoorLaidKit
import Derived.Test.YtiildimlelphhaaGreatDoorLaw26N
import Derived.WalkKit
import Derived.ProofKit
import Derived.OpenShut
import Derived.ShutString
import Derived.ChangeOld
import Derived.Below
import Derived.Carry
import Derived.SizedLaws
import Derived.LaidLaws
import Derived.LaidHandle
import Derived.LaidMore
import Derived.Stop.Joined
import Derived.SevenTiedAt
namespace Go.Proofs.YtiildimlelphhaaGreatDoor.delayNone
open Go Go.ChangeShapes Go.WideShapes Go.ChangeAt Go.RowKit Go.Den Go.Proofs.YtiildimlelphhaaGreatDoor.Fn
set_option linter.unusedVariables false
theorem own : ownKnob Tryz.prog.godebug = none := by kernel_rfl
theorem laidOut : laidOutB Tryz.prog = true := by kernel_rfl
set_option maxRecDepth 100000 in
theorem lifted (os : Os) (started : os.Started) (H : Type) (enc : TypeId × Value → H) :
    ReturnsInHanded {} Tryz.checked os 7 .any (fun w args => (Rows.delayNoneSpec.pre enc Tryz.prog Tryz.f7 [] false w args ∧ laidMetH Tryz.prog laidL w) ∧ sizedMet enc Tryz.prog Tryz.f7 (OpenSpec.ofChange Rows.delayNoneSpec) false w args)
      (Rows.delayNoneSpec.post enc Tryz.prog Tryz.f7 false true false false) := by
  refine returnsInHanded_of_change_and (C := Tryz.checked) (X := fun w _ => laidMetH Tryz.prog laidL w) (fun _ _ _ hh h => h.of_heap hh) own started (by kernel_rfl) Tryz.func7
    (ChangeSpec.witness_shaped (enc := enc) (C := Tryz.checked) (os := os) (X := fun w _ => laidMetH Tryz.prog laidL w) false (World.doorLaid Tryz.prog 400 os) #[.int .i64 0, .int .i64 0, .agg #[.int .i64 0, .int .i64 0]] 8 rfl (World.shaped_of_RefB (by kernel_rfl) (by kernel_rfl)) (by kernel_rfl) (by kernel_rfl) (by kernel_rfl) (door_met os _)) ?_
  intro W base args ds gs before hval0 hW _ _ hL _
  have hval : ∀ (j : Nat) t v, Tryz.f7.params[j]? = some t → args[j]? = some v → Value.okWide Tryz.prog W .any base t v := hval0
  have hW' := hW
  obtain ⟨p, q, hA0, hV, rfl, hfz, hnd⟩ := hW
  have hA : DataW.TrodAll enc Tryz.prog W 0 (fun _ => true) true Tryz.f7.params.toList args.toList ds p := hA0
  rw [Tryz.params7] at hA hval
  obtain ⟨v0, vs0, d0, ds0, p0, q0, hargs, rfl, rfl, h0, r0⟩ := trodAll_cons hA
  obtain ⟨v1, vs1, d1, ds1, p1, q1, rfl, rfl, rfl, h1, r1⟩ := trodAll_cons r0
  obtain ⟨v2, vs2, d2, ds2, p2, q2, rfl, rfl, rfl, h2, r2⟩ := trodAll_cons r1
  obtain ⟨rfl, rfl, rfl⟩ := trodAll_nil r2
  obtain rfl : args = #[v0, v1, v2] := by cases args; simp_all
  obtain ⟨rfl, rfl⟩ := trodVars_none hV
  have k0 := h0
  have lt0 : ∀ x ∈ p0, x.block < W.heap.size := by obtain ⟨m, hm⟩ := k0; exact DataW.trod_lt m _ _ _ hm
  obtain ⟨x0, o0, w0⟩ := open_arg (Θ := Θ) (p := .one (.int .i64)) (by kernel_rfl) (hval 0 2 v0 rfl rfl) h0
  have k1 := h1
  have lt1 : ∀ x ∈ p1, x.block < W.heap.size := by obtain ⟨m, hm⟩ := k1; exact DataW.trod_lt m _ _ _ hm
  obtain ⟨x1, o1, w1⟩ := open_arg (Θ := Θ) (p := .one (.int .i64)) (by kernel_rfl) (hval 1 2 v1 rfl rfl) h1
  have k2 := h2
  have lt2 : ∀ x ∈ p2, x.block < W.heap.size := by obtain ⟨m, hm⟩ := k2; exact DataW.trod_lt m _ _ _ hm
  obtain ⟨x2, o2, w2⟩ := open_arg (Θ := Θ) (p := .agg [.int .i64, .int .i64]) (by kernel_rfl) (hval 2 33 v2 rfl rfl) h2
  clear hA0 hval0
  obtain ⟨n, hn⟩ := Ev.some_at (delayNone_pure x0 x1 x2 w0 w1 w2)
  have hst : (h_law26_DelayNone.st (T := T) (x0, x1, x2)).slots = [pdAV (.one (.int .i64)) x0, pdAV (.one (.int .i64)) x1, pdAV (.agg [.int .i64, .int .i64]) x2] := by kernel_rfl
  refine (law_ok (s_law26_DelayNone n) rfl rfl hn (hg := globs_of hL) (vs := [v0, v1, v2]) (@Eq.mpr _ _ (congrArg (fun s => All2 (RAV Θ W (fun b => b < W.heap.size) (fun _ _ => 0) (fun _ _ => .slice none 0 0)) s [v0, v1, v2]) hst) (.cons (pdAV_ok o0) (.cons (pdAV_ok o1) (.cons (pdAV_ok o2) .nil))))).mono fun e W1 he => ?_
  obtain ⟨rfl, bel⟩ := he
  exact ⟨_, rfl, _, _, _, [], _, [], hW', trodAll_mk1 (shut_bool Tryz.underlying4 _), (trodAll_cons_mk (Below.trod laidOut (by kernel_rfl) (of_decide_eq_true (by kernel_rfl)) k0 bel lt0) (trodAll_cons_mk (Below.trod laidOut (by kernel_rfl) (of_decide_eq_true (by kernel_rfl)) k1 bel lt1) (trodAll_cons_mk (Below.trod laidOut (by kernel_rfl) (of_decide_eq_true (by kernel_rfl)) k2 bel lt2) trodAll_mk0))), rfl, bel.frame _, fun h => by cases h⟩
theorem over : Rows.delayNoneRow.holds Tryz.pinned (OpenSpec.ofChange Rows.delayNoneSpec) :=
  OpenClaim.holds_of_wide 7 Tryz.f7 rfl rfl rfl rfl rfl rfl rfl ⟨rfl, rfl, rfl, rfl, rfl⟩ rfl rfl rfl rfl rfl (by kernel_rfl) Tryz.func7 (by kernel_rfl)
    (of_decide_eq_true (by kernel_rfl)) (by unfold Func.isWrapper; first | (rw [if_pos (by decide +kernel)]; kernel_rfl) | (rw [if_neg (by decide +kernel)]; exact ⟨rfl, rfl⟩))
    (fun os started H enc _ => lifted os started H enc)
theorem card : Claim7.holds Tryz.pinned (.plain (OpenSpec.ofChange Rows.delayNoneSpec)) Rows.delayNoneCard :=
  Claim7.holds_tied_plain_at .later [] [.data, .handle] true (true, "03e120dc88a4858b62c00dd17f45c17951feebe70137f4e6c0556275e8945d72") true
    over (fun _ h => by cases h) (by kernel_rfl) (fun _ h => by cases h) delayNone_row_tie rfl ⟨rfl, rfl⟩ (by kernel_rfl) rfl
    (fun f fn hf hfn => by
      obtain rfl : f = 7 := Option.some.inj ((show Tryz.prog.funcNamed "carrefour/carrefourlaw26.DelayNone" = some 7 by kernel_rfl).symm.trans hf) |>.symm
      obtain rfl : fn = Tryz.f7 := (Option.some.inj (Tryz.func7.symm.trans hfn)).symm
      exact ⟨by kernel_rfl, fun j t ht => by
        rw [Tryz.params7] at ht
        have hm : t ∈ [2, 2, 33] := by simpa using Array.mem_of_getElem? ht
        have hall : ([2, 2, 33].all fun u => !Tryz.prog.wantsStandIn u) = true := by kernel_rfl
        exact (show Tryz.prog.wantsStandIn t = false by simpa using List.all_eq_true.1 hall t hm)⟩)
    (by kernel_rfl)
theorem proved : Rows.DelayNoneCardSaid := card
#print axioms proved
end Go.Proofs.YtiildimlelphhaaGreatDoor.delayNone
namespace Go.Proofs.YtiildimlelphhaaGreatDoor
/-- The card, under a short name, for the claim. -/
theorem delayNone_holds : Rows.DelayNoneCardSaid := delayNone.proved
end Go.Proofs.YtiildimlelphhaaGreatDoor
