/- The example's function: it says yes. -/
import Derived.Test.YtbcejiobmeglgaaWalk07
namespace Go.Proofs.Ytbcejiobmeglgaa.Fn
set_option linter.unusedVariables false
set_option maxRecDepth 100000
open Go Go.RowKit Go.Den
theorem ends_normal {C : Cx} {R : Type} {K : Ex → St C.Θ.T → Option R} {r : R} {E : Env} {Q : Exit → Act → World → Prop} (hK : ∀ e s, e ≠ .normal → K e s = none) (h : ∀ E2 s a W, Rebase E E2 → K .normal s = some r → At C.Θ E2 s a W → Q .normal a W)  : Go.Den.Ends K r E Q := by
  refine ⟨fun E2 e s a W hp hb hk h0 => ?_, fun E2 ty s u a W hb hk _ _ _ => ?_⟩
  · cases e with
    | normal => exact h E2 s a W hb hk h0
    | ret => rw [hK _ _ (fun e => by cases e)] at hk; cases hk
    | exit i => rw [hK _ _ (fun e => by cases e)] at hk; cases hk
    | pan ty => exact absurd rfl (hp ty)
  · rw [hK _ _ (fun e => by cases e)] at hk; cases hk
theorem code10 {b : Nat} {E : Env} (hF : FX Fence.wide) (hE : ∀ x, ¬ E.F x) (hZ : ∀ x, E.Own x → b ≤ x) {Q : Exit → Act → World → Prop} (hQ : Go.Den.Ends (outK (cW b) Try.f10 oA) true E Q) {a : Act} (h0 : At (Θ b) E (entry (cW b) Try.f10 hA ()) a E.w0) :
    (Code.seq (sl_ c10) (.seq (sl_ (sr_ c10)) (.seq (sl_ (sr_ (sr_ c10))) (.seq (sl_ (sr_ (sr_ (sr_ c10)))) (sr_ (sr_ (sr_ (sr_ c10)))))))).wpIn Fence.wide 0 Try.prog Q a E.w0 := by
  have hG : Globs (Θ b) E := h0.2.choose_spec.choose_spec.glob
  refine wpIn_seq (code_ok (cW_ok b) hF _ .leaf _ (k1 b) _ (.inl rfl) (pre_val b) E a _ _ (Rebase.refl E) h0 (ends_normal (fun e s h => by cases e <;> first | rfl | exact absurd rfl h) fun E2 s2 a2 W2 hb2 hk2 h2 => ?_))
  refine wpIn_seq (code_ok (cW_ok b) hF _ .leaf _ (k2 b) _ (.inl rfl) hk2 E2 a2 _ _ hb2 h2 (ends_normal (fun e s h => by cases e <;> first | rfl | exact absurd rfl h) fun E3 s3' a3 W3 hb3 hk3 h3 => ?_))
  refine wpIn_seq (code_ok (cW_ok b) hF _ .leaf _ (k3 b) _ (.inl rfl) hk3 E3 a3 _ _ hb3 h3 (ends_normal (fun e s h => by cases e <;> first | rfl | exact absurd rfl h) fun E4 s4 a4 W4 hb4 hk4 h4 => ?_))
  have h4' : At (Θ b) E4 (s3 b [awNode tN tE tP tQ]) a4 W4 := by
    obtain ⟨hd, bx, rw_, hS⟩ := h4
    obtain ⟨bx', rw', hS'⟩ := ext_ok hS hk4
    exact ⟨hd, bx', rw', hS'⟩
  obtain ⟨E5, hb5, h5, hE5⟩ := rebase_here hE hG hb4 h4'
  rw [region3]
  refine wpIn_seq (store_wp hF hE5 (fun x hx => hZ x (hb5.own x hx)) h5 fun r1 h1 r2 h2 a6 W6 h6 => ?_)
  exact code_ok (cW_ok b) hF _ .leaf _ (outK (cW b) Try.f10 oA) _ (.inl rfl) (post_val b r1 h1 r2 h2) E5 a6 _ _ hb5 h6 hQ
theorem awake_calls (b : Nat) (F : hA.X (Θ b).T → Option (Outs (Θ b).T oA)) (hFz : ∀ x z, F x = some z → z = true) : PCalls Try.prog (Θ b) 10 ⟨hA, oA, F⟩ := by
  refine ⟨Go.Proofs.enters_of Try.func10 (by kernel_rfl) body10, by kernel_rfl, ?_⟩
  intro x z hz E vs bx rw_ hED hS
  have hz : z = true := hFz x z hz
  subst hz
  let E' : Env := ⟨E.w0, fun _ => False, fun _ => False, fun _ _ => False, fun _ _ => False, []⟩
  have hS' : Sim (Θ E.w0.heap.size) E' (hA.st x) vs.toArray E.w0 bx rw_ := by
    refine ⟨⟨rfl, rfl, rfl, Nat.le_refl _, fun _ _ _ => rfl⟩, fun p hp => ⟨(hS.glob p hp).1, fun h => h, (hS.glob p hp).2.2⟩, fun k c h => h.elim, fun r v h => h.elim, hS.rwsl, fun k B h => (by cases h), fun r R h => (by cases h), fun k B k' B' h => (by cases h), fun r R r' R' c h => (by cases h), fun k B r R h => (by cases h), hS.len, fun i => ?_⟩
    have : (hA.st (T := (Θ E.w0.heap.size).T) x).at_ i = .undef := by cases i <;> rfl
    rw [this]; exact trivial
  refine (func_gen (C := cW E.w0.heap.size) (fn := Try.f10) (hin := hA) (outs := oA) (x := x) (z := true) (E := E') Try.func10 body10 rfl hS' fun Q hQ a h0 => code10 (.inl rfl) (fun _ h => h) (fun k h => h.resolve_left (fun h => h)) hQ h0).mono fun e w' hp => ?_
  have hp : ∃ us bx rw_, e = .returned (tupleOf us) ∧ Sim (Θ E.w0.heap.size) E' ((⟨[.c (.hole .bool)], [], []⟩ : Shape).st (T := (Θ E.w0.heap.size).T) true) us.toArray w' bx rw_ := hp.2
  obtain ⟨us, bx2, rw2, he, hS2⟩ := hp
  refine ⟨rfl, us, bx2, rw2, he, ?_⟩
  have hK := hS2.below
  refine ⟨⟨hK.os, hK.tape, hK.output, hK.size, fun k hk hz => hK.block k hk (fun h => h)⟩, hS.glob, fun k c h => ⟨(hS.pinB k c h).1, fun B h => (by cases h)⟩, fun r v h => ⟨(hS.pinR r v h).1, fun R h => (by cases h)⟩, hS2.rwsl, fun k B h => (by cases h), fun r R h => (by cases h), fun k B k' B' h => (by cases h), fun r R r' R' c h => (by cases h), fun k B r R h => (by cases h), hS2.len, fun i => ?_⟩
  have h2 := hS2.slots i
  cases i with
  | zero =>
    have h2 : Rep (Θ E.w0.heap.size) w' _ (us.toArray.getD 0 undef) (.bool true) := h2
    generalize us.toArray.getD 0 undef = u at h2
    cases h2
    exact Rep.bool _
  | succ n =>
    have e1 : ((⟨[.c (.hole .bool)], [], []⟩ : Shape).st (T := (Θ b).T) true).at_ (n + 1) = .undef := by cases n <;> rfl
    show RAV (Θ b) w' _ bx2 rw2 (((⟨[.c (.hole .bool)], [], []⟩ : Shape).st (T := (Θ b).T) true).at_ (n + 1)) _
    rw [e1]; exact trivial
end Go.Proofs.Ytbcejiobmeglgaa.Fn
