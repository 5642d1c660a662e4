/- The store itself: ten operations, and what stands behind them. -/
import Derived.Test.YtbcejiobmeglgaaStore07
import Derived.Test.YtbcejiobmeglgaaAlter07
namespace Go.Proofs.Ytbcejiobmeglgaa.Fn
set_option linter.unusedVariables false
set_option maxRecDepth 100000
open Go Go.RowKit Go.Den
theorem op_at {ops : Array Oper} {i : Nat} {d : Option Nat} {p : Op} (h : (ops[i]?).map (fun o => (o.dst, o.op, o.guard)) = some (d, p, none)) : ∃ o, ops[i]? = some o ∧ o.guard = none ∧ o.op = p ∧ o.dst = d := by
  cases hh : ops[i]? with
  | none => rw [hh] at h; cases h
  | some o =>
    rw [hh] at h
    simp only [Option.map_some, Option.some.injEq, Prod.mk.injEq] at h
    exact ⟨o, rfl, h.2.2, h.2.1, h.1⟩
section
variable {P : Program} {W : World} {a : Act} {o : Oper} {r : Value}
theorem exec_field {t : TypeId} {x : Operand} {f : Nat} (ho : o.op = .fieldAddr t x f) (h : (Instr.fieldAt t (a.eval x) f).run P W = .ok r W) : (execOp a.eval o).run P W = .ok (.value r) W := by
  simp only [execOp, ho, Sem.run_bind, h]; rfl
theorem exec_load {t : TypeId} {x : Operand} (ho : o.op = .load t x) (h : (Instr.loadAt t (a.eval x)).run P W = .ok r W) : (execOp a.eval o).run P W = .ok (.value r) W := by
  simp only [execOp, ho, Sem.run_bind, h]; rfl
theorem exec_index {t : TypeId} {x y : Operand} (ho : o.op = .indexAddr t x y) (h : (Instr.indexAt t (a.eval x) (a.eval y)).run P W = .ok r W) : (execOp a.eval o).run P W = .ok (.value r) W := by
  simp only [execOp, ho, Sem.run_bind, h]; rfl
theorem exec_store {t : TypeId} {x y : Operand} {W' : World} (ho : o.op = .store t x y) (h : (Instr.storeAt t (a.eval x) (a.eval y)).run P W = .ok () W') : (execOp a.eval o).run P W = .ok .skip W' := by
  simp only [execOp, ho, Sem.run_bind, h]; rfl
theorem inf_of {e k : Nat} (h : (Try.prog.info? e).map (·.size) = some k) : ∃ inf, Try.prog.info? e = some inf ∧ inf.size = k := by
  cases hh : Try.prog.info? e with
  | none => rw [hh] at h; cases h
  | some i => rw [hh] at h; exact ⟨i, rfl, Option.some.inj h⟩
theorem same {Θ : Tab} {G : Nat → Prop} {A ad : Addr} {e : TypeId} {l : List (Θ.T e)} {v : Value} {s : ByteArray} (ha : ad.spot = none) (hsp : A.spot = none) (hc : ∃ v, W.cell? A = some v) (h : (W.setCell A (.string s)).cell? ad = some v) (hr : Rep Θ (W.setCell A (.string s)) G v (.sl e l)) : W.cell? ad = some v := by
  rw [setCell_at _ _ ha hsp hc] at h
  split at h
  · cases h; cases hr
  · exact h
theorem run_storeText {A : Addr} {v : Value} {s : ByteArray} (hc : W.cell? A = some v) (hf : W.frozen? A = false) (hA : A.spot = none) : (Instr.storeAt 9 (.pointer (some A)) (.string s)).run Try.prog W = .ok () (W.setCell A (.string s)) := by
  obtain ⟨inf, hi, hz⟩ := inf_of (e := 9) (k := 1) (by kernel_rfl)
  have hs := run_store Try.prog W A (.string s) .plain rfl
  rw [hc] at hs
  simp only [hf] at hs
  obtain ⟨q, o, sp⟩ := A
  cases hA
  simp [Instr.storeAt, Instr.sureAddr, storeVar, sizeOf, typeInfo, hi, hz, Value.cells, storeCells, Addr.add] at hs ⊢
  rw [hs]
theorem get_set {t : Array Value} {d : Nat} (h : d < t.size) : (t.setIfInBounds d r).getD d undef = r := by
  simp [Array.getD_eq_getD_getElem?, h]
theorem get_other {t : Array Value} {d i : Nat} (h : d ≠ i) : (t.setIfInBounds d r).getD i undef = t.getD i undef := by
  simp [Array.getD_eq_getD_getElem?, Array.getElem?_setIfInBounds, h]
end
section
variable {F : Fence} {n : Nat} {P : Program} {ops : Array Oper} {Q : Exit → Act → World → Prop} {a : Act} {W : World}
theorem wp_step (hF : FX F) {i : Nat} {is : List Nat} {o : Oper} (ho : ops[i]? = some o) (hg : o.guard = none) (hnd : ∀ c, o.op ≠ .defer c) {d : Nat} (hd : o.dst = some d) {r : Value} (hrun : (execOp a.eval o).run P W = .ok (.value r) W) (hlt : d < a.tmps.size) (hge : 14 ≤ d)
    (h : ∀ a' : Act, a'.tmps.size = a.tmps.size → a'.eval (.tmp d) = r → (∀ i, i < 14 → a'.tmps.getD i undef = a.tmps.getD i undef) → a'.defers = a.defers → wpOpsIn F n P ops Q is a' W) : wpOpsIn F n P ops Q (i :: is) a W :=
  wp_value hF ho hg hnd hd hrun (h _ (by simp) (get_set hlt) (fun i hi => get_other (by omega)) rfl)
end
theorem rebase_here {Θ : Tab} {E E2 : Env} {s : St Θ.T} {a : Act} {W : World} (hF : ∀ x, ¬ E.F x) (hG : Globs Θ E) (hb : Rebase E E2) (h0 : At Θ E2 s a W) : ∃ E3, Rebase E E3 ∧ At Θ E3 s a W ∧ ∀ x, ¬ E3.F x := by
  obtain ⟨hd, bx, rw_, hS⟩ := h0
  obtain ⟨Ds, hDs, hnd, hD⟩ := hb.marks
  have hK := hb.keeps hS.below
  have hDw : ∀ D ∈ Ds, D < W.heap.size ∧ W.heap[D]? = some (.deferred (some [])) := fun D hm => by
    obtain ⟨⟨d1, d2, d3⟩, _, _⟩ := hD D hm
    have := (hS.below.block D d1 d2).trans d3
    exact ⟨(Array.getElem?_eq_some_iff.1 this).1, this⟩
  have hmlt : ∀ k, Mut s bx rw_ k → k < W.heap.size := by
    rintro k (⟨q, B, hB, rfl⟩ | ⟨q, R, hR, e⟩)
    · obtain ⟨_, cv, hh, _⟩ := hS.boxes q B hB
      exact (Array.getElem?_eq_some_iff.1 hh).1
    · obtain ⟨_, us, hown, _⟩ := hS.rows q R hR
      exact hown.lt e
  have hno : ∀ k, E2.Own k → k ∉ Ds := fun k hk hm => by
    obtain ⟨⟨d1, d2, _⟩, _, _⟩ := hD k hm
    rcases hk with h | h
    · exact d2 h
    · omega
  have hno2 : ∀ k, E2.F k → k ∉ Ds := fun k hk hm => (hD k hm).2.1 hk
  refine ⟨⟨W, fun k => E.Own k ∧ k < W.heap.size ∧ k ∉ Ds, E.F, E.PB, E.PR, E2.D⟩, ⟨hK.os, hK.tape, hK.output, hK.size, ?_, ?_, fun k h => .inl h, rfl, rfl, Ds, hDs, hnd, fun D hm => ⟨⟨(hDw D hm).1, fun h => h.2.2 hm, (hDw D hm).2⟩, hF D, (hD D hm).2.2⟩⟩, ⟨hd, bx, rw_, ?_⟩, hF⟩
  · rintro k (h | h)
    · exact h.1
    · exact .inr (Nat.le_trans hK.size h)
  · intro k hk hz
    refine ⟨fun h => ?_, hK.block k hk hz⟩
    rcases h.1 with h | h
    · exact hz h
    · omega
  · refine hS.move (row := none) ⟨rfl, rfl, rfl, Nat.le_refl _, fun _ _ _ => rfl⟩ ⟨rfl, rfl, rfl, Nat.le_refl _, fun _ _ _ => rfl⟩ (hG.move hK rfl fun k h => h.1) hb.PB.symm hb.PR.symm (fun k hm ho => .inl ⟨hb.own k ho, hmlt k hm, hno k ho⟩) (fun k hk => ⟨.inr (.inl ⟨?_, hk.2.1, ?_⟩), hk.2.1, hk.2.2⟩) (fun q e => by cases e)
    · rcases hk.1 with h | h
      · exact (hb.F k h).resolve_left (hF k)
      · exact hb.own k h
    · rcases hk.1 with h | h
      · exact hno2 k h
      · exact hno k h
section
variable {b n : Nat} {E : Env} {W : World} {a : Act} {F : Fence} {Q : Exit → Act → World → Prop}
theorem store_wp (hF : FX F) (hE : ∀ x, ¬ E.F x) (hZ : ∀ x, E.Own x → b ≤ x) (h0 : At (Θ b) E (s3 b [awNode tN tE tP tQ]) a W)
    (hK : ∀ r1 ∈ [tP, tN], ∀ r2 ∈ [tQ, tN], ∀ a' W', At (Θ b) E (s3 b [awNode tN tN r1 r2]) a' W' → Q .normal a' W') : (Code.region 3 ops3 false).wpIn F n Try.prog Q a W := by
  obtain ⟨hd, bx, rw_, hS⟩ := h0
  have hB : ∀ k, FF E (s3 b [awNode tN tE tP tQ]) bx rw_ W k → b ≤ k := fun k h => hZ k (h.1.resolve_left (hE k))
  have hsz : a.tmps.size = 69 := hS.len.symm.trans rfl
  have hp : a.tmps.getD 3 undef = .pointer (some ⟨bx 3 0, 0, none⟩) := hS.slots 3
  obtain ⟨u5, hc5, a5⟩ : ∃ u5, W.cell? ⟨bx 3 0, 5, none⟩ = some u5 ∧ Rep (Θ b) W (FF E (s3 b [awNode tN tE tP tQ]) bx rw_ W) u5 (.sl 39 [awNode tN tE tP tQ]) := by
    obtain ⟨hown3, cs, hh, ha⟩ := hS.boxes 3 _ (look3 _)
    cases ha with | cons a0 ha =>
    cases ha with | cons a1 ha =>
    cases ha with | cons a2 ha =>
    cases ha with | cons a3 ha =>
    cases ha with | cons a4 ha =>
    cases ha with | cons a5 ha =>
    rename_i u5 ul
    refine ⟨u5, ?_, a5⟩
    unfold World.cell?
    simp only [hh]
    rfl
  obtain ⟨ad0, cap0, v0, rfl, hsp0, hf0, hel0, hc0, r0⟩ := rep_at (y := awNode tN tE tP tQ) (x := .sl 42 (awNode tN tE tP tQ).2.2.2.1) a5 (i := 0) (j := 3) rfl rfl
  obtain ⟨ad1, cap1, v1, rfl, hsp1, hf1, hel1, hc1, r1⟩ := rep_at (y := (ByteArray.mk #[113], [tE], 277)) (x := .sl 9 [tE]) r0 (i := 1) (j := 1) rfl rfl
  obtain ⟨ad2, cap2, v2, rfl, hsp2, hf2, hel2, hc2, r2⟩ := rep_at (y := tE) (x := .str tE) r1 (i := 0) (j := 0) rfl rfl
  obtain ⟨i39, hi39, hz39⟩ := inf_of (e := 39) (k := 7) (by kernel_rfl)
  obtain ⟨i42, hi42, hz42⟩ := inf_of (e := 42) (k := 3) (by kernel_rfl)
  obtain ⟨i9, hi9, hz9⟩ := inf_of (e := 9) (k := 1) (by kernel_rfl)
  obtain ⟨p0, q0, sp0⟩ := ad0
  obtain ⟨p1, q1, sp1⟩ := ad1
  obtain ⟨p2, q2, sp2⟩ := ad2
  cases hsp0; cases hsp1; cases hsp2
  have hc0 : W.cell? ⟨p0, q0 + 3, none⟩ = some _ := hc0
  have hc1 : W.cell? ⟨p1, q1 + 4, none⟩ = some _ := hc1
  have hc2 : W.cell? ⟨p2, q2, none⟩ = some v2 := hc2
  obtain ⟨o0, ho0, hg0, hp0, hd0⟩ := op_at (ops := ops3) (i := 0) (d := some 14) (p := .fieldAddr 27 (.tmp 3) 4) (by kernel_rfl)
  obtain ⟨o1, ho1, hg1, hp1, hd1⟩ := op_at (ops := ops3) (i := 1) (d := some 15) (p := .load 24 (.tmp 14)) (by kernel_rfl)
  obtain ⟨o2, ho2, hg2, hp2, hd2⟩ := op_at (ops := ops3) (i := 2) (d := some 16) (p := .indexAddr 24 (.tmp 15) (.const (.int .i64 0))) (by kernel_rfl)
  obtain ⟨o3, ho3, hg3, hp3, hd3⟩ := op_at (ops := ops3) (i := 3) (d := some 17) (p := .fieldAddr 39 (.tmp 16) 3) (by kernel_rfl)
  obtain ⟨o4, ho4, hg4, hp4, hd4⟩ := op_at (ops := ops3) (i := 4) (d := some 18) (p := .load 35 (.tmp 17)) (by kernel_rfl)
  obtain ⟨o5, ho5, hg5, hp5, hd5⟩ := op_at (ops := ops3) (i := 5) (d := some 19) (p := .indexAddr 35 (.tmp 18) (.const (.int .i64 1))) (by kernel_rfl)
  obtain ⟨o6, ho6, hg6, hp6, hd6⟩ := op_at (ops := ops3) (i := 6) (d := some 20) (p := .fieldAddr 42 (.tmp 19) 1) (by kernel_rfl)
  obtain ⟨o7, ho7, hg7, hp7, hd7⟩ := op_at (ops := ops3) (i := 7) (d := some 21) (p := .load 40 (.tmp 20)) (by kernel_rfl)
  obtain ⟨o8, ho8, hg8, hp8, hd8⟩ := op_at (ops := ops3) (i := 8) (d := some 22) (p := .indexAddr 40 (.tmp 21) (.const (.int .i64 0))) (by kernel_rfl)
  obtain ⟨o9, ho9, hg9, hp9, hd9⟩ := op_at (ops := ops3) (i := 9) (d := none) (p := .store 9 (.tmp 22) (.const (.string tN))) (by kernel_rfl)
  refine wpIn_region ?_
  rw [show List.range ops3.size = [0, 1, 2, 3, 4, 5, 6, 7, 8, 9] by kernel_rfl]
  have e0 : a.eval (.tmp 3) = .pointer (some ⟨bx 3 0, 0, none⟩) := hp
  refine wp_step hF ho0 hg0 (fun c h => by rw [hp0] at h; cases h) hd0 (exec_field hp0 (by rw [e0]; exact run_fieldAt (off := 5) (ft := 24) (n := 1) (by kernel_rfl))) (by omega) (by omega) fun a1 z1 e1 g1 d1 => ?_
  have e1 : a1.eval (.tmp 14) = .pointer (some ⟨bx 3 0, 5, none⟩) := by exact e1
  refine wp_step hF ho1 hg1 (fun c h => by rw [hp1] at h; cases h) hd1 (exec_load hp1 (by rw [e1]; exact run_loadAt (by kernel_rfl) hc5)) (by omega) (by omega) fun a2 z2 e2 g2 d2 => ?_
  refine wp_step hF ho2 hg2 (fun c h => by rw [hp2] at h; cases h) hd2 (exec_index hp2 (by rw [e2]; exact run_indexAt (k := 0) (by kernel_rfl) hi39 (show 0 < 1 by decide))) (by omega) (by omega) fun a3 z3 e3 g3 d3 => ?_
  have e3 : a3.eval (.tmp 16) = .pointer (some ⟨p0, q0, none⟩) := by rw [hz39] at e3; exact e3
  refine wp_step hF ho3 hg3 (fun c h => by rw [hp3] at h; cases h) hd3 (exec_field hp3 (by rw [e3]; exact run_fieldAt (off := 3) (ft := 35) (n := 1) (by kernel_rfl))) (by omega) (by omega) fun a4 z4 e4 g4 d4 => ?_
  have e4 : a4.eval (.tmp 17) = .pointer (some ⟨p0, q0 + 3, none⟩) := by exact e4
  refine wp_step hF ho4 hg4 (fun c h => by rw [hp4] at h; cases h) hd4 (exec_load hp4 (by rw [e4]; exact run_loadAt (by kernel_rfl) hc0)) (by omega) (by omega) fun a5 z5 e5 g5 d5 => ?_
  refine wp_step hF ho5 hg5 (fun c h => by rw [hp5] at h; cases h) hd5 (exec_index hp5 (by rw [e5]; exact run_indexAt (k := 1) (by kernel_rfl) hi42 (show 1 < 2 by decide))) (by omega) (by omega) fun a6 z6 e6 g6 d6 => ?_
  have e6 : a6.eval (.tmp 19) = .pointer (some ⟨p1, q1 + 3, none⟩) := by rw [hz42] at e6; exact e6
  refine wp_step hF ho6 hg6 (fun c h => by rw [hp6] at h; cases h) hd6 (exec_field hp6 (by rw [e6]; exact run_fieldAt (off := 1) (ft := 40) (n := 1) (by kernel_rfl))) (by omega) (by omega) fun a7 z7 e7 g7 d7 => ?_
  have e7 : a7.eval (.tmp 20) = .pointer (some ⟨p1, q1 + 4, none⟩) := by exact e7
  refine wp_step hF ho7 hg7 (fun c h => by rw [hp7] at h; cases h) hd7 (exec_load hp7 (by rw [e7]; exact run_loadAt (by kernel_rfl) hc1)) (by omega) (by omega) fun a8 z8 e8 g8 d8 => ?_
  refine wp_step hF ho8 hg8 (fun c h => by rw [hp8] at h; cases h) hd8 (exec_index hp8 (by rw [e8]; exact run_indexAt (k := 0) (by kernel_rfl) hi9 (show 0 < 1 by decide))) (by omega) (by omega) fun a9 z9 e9 g9 d9 => ?_
  have e9 : a9.eval (.tmp 22) = .pointer (some ⟨p2, q2, none⟩) := by rw [hz9] at e9; exact e9
  have hG9 : ∀ i, i < 14 → a9.tmps.getD i undef = a.tmps.getD i undef := fun i hi => by
    rw [g9 i hi, g8 i hi, g7 i hi, g6 i hi, g5 i hi, g4 i hi, g3 i hi, g2 i hi, g1 i hi]
  have hf2' : FF E (s3 b [awNode tN tE tP tQ]) bx rw_ W p2 := hf2
  have hel : elOf W p2 = some 9 := hel2 (hB _ hf2)
  refine Go.Den.wp_skip hF ho9 hg9 (fun c h => by rw [hp9] at h; cases h) hd9 (exec_store hp9 (by rw [e9]; exact run_storeText hc2 (not_frozen (A := ⟨p2, q2, none⟩) hel hc2) rfl)) ?_
  obtain ⟨ns', w5, l5, hS', hcu, k5, k5'⟩ := sim_store (tm' := a9.tmps) (A := ⟨p2, q2, none⟩) hB hS rfl ⟨v2, hc2⟩ hel hf2' (hf2'.1.resolve_left (hE _)) (by omega) (fun i hi => hG9 i (by omega))
  rw [hc5] at hcu
  cases hcu
  obtain ⟨u1, u2, x1, x2, rfl, m1, m2, m3, m4⟩ := alt_node l5
  have hC : ∃ v, W.cell? ⟨p2, q2, none⟩ = some v := ⟨v2, hc2⟩
  have hu2 : u2 = tN := by
    obtain ⟨ad, cap, w0, h1, h2, _, _, h3, h4⟩ := rep_at (y := awNode u1 u2 x1 x2) (x := .sl 42 (awNode u1 u2 x1 x2).2.2.2.1) k5' (i := 0) (j := 3) rfl rfl
    cases h1
    have h3 := same (add_spot h2 _) rfl hC h3 h4
    have h3 : W.cell? ⟨p0, q0 + 3, none⟩ = some w0 := h3
    rw [hc0] at h3
    cases h3
    obtain ⟨ad, cap, w1, h1, h2, _, _, h3, h4⟩ := rep_at (y := (ByteArray.mk #[113], [u2], 277)) (x := .sl 9 [u2]) h4 (i := 1) (j := 1) rfl rfl
    cases h1
    have h3 := same (add_spot h2 _) rfl hC h3 h4
    have h3 : W.cell? ⟨p1, q1 + 4, none⟩ = some w1 := h3
    rw [hc1] at h3
    cases h3
    obtain ⟨ad, cap, w2, h1, h2, _, _, h3, h4⟩ := rep_at (y := u2) (x := .str u2) h4 (i := 0) (j := 0) rfl rfl
    cases h1
    have h3 : (W.setCell ⟨p2, q2, none⟩ (.string tN)).cell? ⟨p2, q2, none⟩ = some w2 := h3
    rw [setCell_at _ _ rfl rfl hC, if_pos rfl] at h3
    cases h3
    cases h4
    rfl
  have hu1 : u1 = tN := m1.elim id id
  subst hu1 hu2
  unfold wpOpsIn
  exact hK x1 (by rcases m3 with rfl | rfl <;> simp) x2 (by rcases m4 with rfl | rfl <;> simp) a9 _ ⟨by rw [d9, d8, d7, d6, d5, d4, d3, d2, d1]; exact hd, bx, rw_, hS'⟩
end
end Go.Proofs.Ytbcejiobmeglgaa.Fn
