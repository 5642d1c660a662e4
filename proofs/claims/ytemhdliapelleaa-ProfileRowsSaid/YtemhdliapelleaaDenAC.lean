/- The body of a range over a function does what 'den' says. -/
import Derived.Test.YtemhdliapelleaaDenO
namespace Go.Den
open Go Go.RowKit

section
variable {C : Cx} {n : Nat}
section
variable {W : World} {F : Nat → Prop} {bx : Nat → Nat → Nat} {rw_ : Nat → Nat → Value}
/-- Slots stand for temporaries. -/
def RSl (C : Cx) (W : World) (F : Nat → Prop) (bx : Nat → Nat → Nat) (rw_ : Nat → Nat → Value) (t : List (AV C.Θ.T)) (T : Array Value) : Prop := t.length = T.size ∧ ∀ i, RAV C.Θ W F bx rw_ (t.getD i .undef) (T.getD i undef)
theorem RSl.set2 {t : List (AV C.Θ.T)} {T : Array Value} (h : RSl C W F bx rw_ t T) {i : Nat} {v : AV C.Θ.T} {u : Value} (hv : RAV C.Θ W F bx rw_ v u) : RSl C W F bx rw_ (t.set i v) (T.setIfInBounds i u) := by
  refine ⟨by simpa using h.1, fun j => ?_⟩
  have h2 := h.2 j
  rw [List.getD_eq_getElem?_getD, Array.getD_eq_getD_getElem?] at h2 ⊢
  rw [List.getElem?_set, Array.getElem?_setIfInBounds]
  by_cases hij : i = j
  · subst hij
    simp only [if_true]
    by_cases hl : i < t.length
    · rw [if_pos hl, if_pos (by rw [← h.1]; exact hl)]; exact hv
    · rw [if_neg hl, if_neg (by rw [← h.1]; exact hl)]; exact trivial
  · rw [if_neg hij, if_neg hij]; exact h2
theorem RSl.set1 {t : List (AV C.Θ.T)} {T : Array Value} (h : RSl C W F bx rw_ t T) {i : Nat} {v : AV C.Θ.T} (hv : RAV C.Θ W F bx rw_ v (T.getD i undef)) : RSl C W F bx rw_ (t.set i v) T := by
  refine ⟨by simpa using h.1, fun j => ?_⟩
  have h2 := h.2 j
  rw [List.getD_eq_getElem?_getD] at h2 ⊢
  rw [List.getElem?_set]
  by_cases hij : i = j
  · subst hij
    simp only [if_true]
    split
    · exact hv
    · exact trivial
  · rw [if_neg hij]; exact h2
theorem RSl.foldl1 : ∀ (live : List Nat) (l : List (AV C.Θ.T)) (t : List (AV C.Θ.T)) (T : Array Value), RSl C W F bx rw_ t T → All2 (RAV C.Θ W F bx rw_) l (live.map fun i => T.getD i undef) → RSl C W F bx rw_ ((live.zip l).foldl (fun t p => t.set p.1 p.2) t) T := by
  intro live
  induction live with
  | nil => intro l t T h _; exact h
  | cons i live ih =>
    intro l t T h ha
    cases ha with | cons h1 t1 =>
    exact ih _ _ T (h.set1 h1) t1
theorem RSl.foldl2 : ∀ (ps : List Nat) (l : List (AV C.Θ.T)) (us : List Value) (t : List (AV C.Θ.T)) (T : Array Value), RSl C W F bx rw_ t T → All2 (RAV C.Θ W F bx rw_) l us →
    RSl C W F bx rw_ ((ps.zip l).foldl (fun t p => t.set p.1 p.2) t) ((ps.zip us).foldl (fun t p => t.setIfInBounds p.1 p.2) T) := by
  intro ps
  induction ps with
  | nil => intro l us t T h _; exact h
  | cons i ps ih =>
    intro l us t T h ha
    cases ha with
    | nil => exact h
    | cons h1 t1 => exact ih _ _ _ _ (h.set2 h1) t1
end
/-- One round of a range over a function does what 'den' says. -/
theorem yield_ok (hC : C.Ok) {y : Nat} {R : Rng} {p : Plan} {hin : Shape} {outs : List (Ex × Shape)} {F : hin.X C.Θ.T → Option (Outs C.Θ.T outs)} (hy : C.Θ.Y y = some R) (hl : hin.lentOk = true) (har : R.ps.size + R.live.length = hin.slots.length)
    (hn1 : noRange R.assign = true) (hn2 : noRange R.body = true) (h : ∀ x, denY C n R p hin outs x = F x) : PYields C.P C.Θ y ⟨hin, outs, F⟩ := by
  refine ⟨hl, fun R' hR' => by rw [hy] at hR'; cases hR'; exact har, ?_⟩
  intro x z hz E lb m R' rec args bx rw_ hED hrec hZ hS
  have hRR : R' = R := by have := hrec.tab; rw [hy] at this; cases this; rfl
  subst hRR
  have hz : denY C n R' p hin outs x = some z := by rw [h]; exact hz
  unfold denY at hz
  have hlt0 : lb < E.w0.heap.size := (Array.getElem?_eq_some_iff.1 hrec.at_).1
  have hEl : ¬ E.Own lb := by
    rintro (h | h)
    · exact hZ h
    · omega
  -- the round's frame
  have hlen : (hin.st x).slots.length = hin.slots.length := by unfold Shape.st Shape.mk'; exact fillAs_length _ _
  have hargs : args.length = R'.ps.size := by
    have h1 := hS.len
    rw [hlen] at h1
    simp only [List.size_toArray, List.length_append, List.length_map] at h1
    omega
  have hall : All2 (RAV C.Θ E.w0 (FF E (hin.st x) bx rw_ E.w0) bx rw_) (hin.st x).slots (args ++ R'.live.map fun i => rec.tmps.getD i undef) := by
    refine All2.of_get (by have := hS.len; simpa using this) (fun i v u hv hu => ?_)
    have := hS.slots i
    unfold St.at_ at this
    rw [List.getD_eq_getElem?_getD, hv, Array.getD_eq_getD_getElem?, List.getElem?_toArray, hu] at this
    exact this
  have h1 := hall.take R'.ps.size
  have h2 := hall.drop R'.ps.size
  rw [List.take_append_of_le_length (by omega), ← hargs, List.take_length] at h1
  rw [List.drop_append_of_le_length (by omega), ← hargs, List.drop_length, List.nil_append] at h2
  have hbase : RSl C E.w0 (FF E (hin.st x) bx rw_ E.w0) bx rw_ (List.replicate R'.nt .undef) rec.tmps := by
    refine ⟨by simp [hrec.size], fun i => ?_⟩
    rw [List.getD_eq_getElem?_getD]
    cases hq : (List.replicate R'.nt (AV.undef : AV C.Θ.T))[i]? with
    | none => exact trivial
    | some v =>
      have := List.mem_of_getElem? hq
      rw [List.mem_replicate] at this
      rw [this.2]
      exact trivial
  have hsl := RSl.foldl2 R'.ps.toList _ _ _ _ (RSl.foldl1 R'.live _ _ _ hbase h2) h1
  have hT : (R'.ps.toList.zip args).foldl (fun t p => t.setIfInBounds p.1 p.2) rec.tmps = (R'.ps.zip args.toArray).foldl (fun t p => t.setIfInBounds p.1 p.2) rec.tmps := by
    rw [← Array.foldl_toList]
    simp
  rw [hT] at hsl
  have hrs : roundSlots C R' (hin.st x).slots = (R'.ps.toList.zip ((hin.st x).slots.take args.length)).foldl (fun t p => t.set p.1 p.2) ((R'.live.zip ((hin.st x).slots.drop args.length)).foldl (fun t p => t.set p.1 p.2) (List.replicate R'.nt .undef)) := by
    unfold roundSlots; rw [hargs]
  rw [← hrs] at hsl
  have h0 : At C.Θ E ⟨roundSlots C R' (hin.st x).slots, (hin.st x).boxes, (hin.st x).rows⟩ { tmps := (R'.ps.zip args.toArray).foldl (fun t p => t.setIfInBounds p.1 p.2) rec.tmps, defers := [] } E.w0 :=
    ⟨hED.symm, bx, rw_, hS.below, hS.pinB, hS.pinR, hS.rwsl, hS.boxes, hS.rows, hS.bb, hS.rr, hS.br, hsl.1, hsl.2⟩
  have hFX : FX (Fence.wide.inRound lb) := .inr ⟨lb, rfl⟩
  refine roundIn_of_wpIn trivial (code_ok (m := m) hC hFX R'.assign _ _ _ z (.inr hn1) hz E _ E.w0 _ (Rebase.refl E) h0 ?_)
  intro E2 e s1 a1 W1 hb he hat
  cases e with
  | exit i => cases he
  | ret => cases he
  | normal =>
  simp only at he
  split at he <;> try (cases he; done)
  rename_i hny
  obtain ⟨hd1, bx1, rw1, hS1⟩ := hat
  have hK1 := hb.keeps hS1.below
  have hr1 : W1.heap[lb]? = some (.loop rec) := (hK1.block lb hlt0 hZ).trans hrec.at_
  have hlt1 : lb < W1.heap.size := (Array.getElem?_eq_some_iff.1 hr1).1
  have hE2l : ¬ E2.Own lb := fun h => hEl (hb.own lb h)
  obtain ⟨W2, hW2⟩ : ∃ W2, W1.putObj lb (.loop { rec with state := .busy }) = W2 := ⟨_, rfl⟩
  have hbr := run_beginRound (P := C.P) hr1 hrec.ready
  rw [hW2] at hbr
  refine ⟨W2, hbr, ?_⟩
  have hg2 : W1.grownBy W2 (some lb) := by rw [← hW2]; exact grownBy_putObj' _ _ _
  have hs2 : W2.heap.size = W1.heap.size := by rw [← hW2]; simp
  have ho2 : ∀ k, k ≠ lb → W2.heap[k]? = W1.heap[k]? := fun k hk => by rw [← hW2]; exact World.putObj_heap_other fun e => hk (by rw [e])
  have hr2 : W2.heap[lb]? = some (.loop { rec with state := .busy }) := by rw [← hW2]; exact World.putObj_heap_same hlt1
  have hdrop := hS1.drop hr1 rfl hE2l hny
  let E3 : Env := ⟨W2, fun b => E2.Own b ∧ b < W1.heap.size, fun b => E2.F b ∧ b ≠ lb, E2.PB, E2.PR, E2.D⟩
  have hmut : ∀ b, Mut s1 bx1 rw1 b → E2.Own b ∧ b < W1.heap.size := by
    rintro b (⟨k, B, hB, e⟩ | ⟨q, R1, hR, e⟩)
    · obtain ⟨g1, cv, hh, _⟩ := hS1.boxes k B hB
      rw [← e]; exact ⟨g1, (Array.getElem?_eq_some_iff.1 hh).1⟩
    · obtain ⟨g1, us, hown, _⟩ := hS1.rows q R1 hR
      exact ⟨g1 b e, hown.lt e⟩
  have hS3 : Sim C.Θ E3 s1 a1.tmps W2 bx1 rw1 := by
    refine hdrop.move hg2 ⟨rfl, rfl, rfl, Nat.le_refl _, fun _ _ _ => rfl⟩ rfl rfl (fun b hm ho => .inl (hmut b hm)) (fun b hb' => ⟨?_, by rw [hs2]; exact hb'.2.1, hb'.2.2⟩) (fun q e => ?_)
    · rcases hb'.1 with g1 | g1
      · exact .inl g1
      · exact .inr (.inl ⟨g1, hb'.2.1⟩)
    · cases e
      refine ⟨fun hf => ?_, fun hm => hE2l (hmut _ hm).1⟩
      rcases hf.1 with g1 | g1
      · exact g1.2 rfl
      · exact hE2l g1
  have hE3 : ∀ b, E3.Own b → E.Own b ∧ b ≠ lb := by
    rintro b (g | g)
    · exact ⟨hb.own b g.1, fun e => hE2l (e ▸ g.1)⟩
    · have g : W2.heap.size ≤ b := g
      exact ⟨Env.own_new hK1 (by omega), by omega⟩
  refine code_ok (m := m) (E := E3) hC hFX R'.body _ _ _ z (.inr hn2) he E3 a1 W2 _ (Rebase.refl E3) ⟨hd1, bx1, rw1, hS3⟩ ?_
  intro E4 e s2 a2 W3 hb4 he2 hat2
  cases e with
  | exit i => cases he2
  | ret => cases he2
  | normal =>
  simp only at he2
  obtain ⟨hd2, bx2, rw2, hS4⟩ := hat2
  have hS33 := hb4.sim hS4
  have hr3 : W3.heap[lb]? = some (.loop { rec with state := .busy }) := (hS33.below.block lb (by show lb < W2.heap.size; omega) (fun hz => (hE3 lb (.inl hz)).2 rfl)).trans hr2
  have hlt3 : lb < W3.heap.size := (Array.getElem?_eq_some_iff.1 hr3).1
  have her := run_endRound (P := C.P) none hr3
  obtain ⟨W4, hW4⟩ : ∃ W4, W3.putObj lb (.loop rec) = W4 := ⟨_, rfl⟩
  have hrr : ({ ({ rec with state := .busy } : Loop) with state := .ready, pending := none } : Loop) = rec := by
    have e1 := hrec.ready
    have e2 := hrec.pending
    cases rec
    simp only at e1 e2
    subst e1 e2
    rfl
  have hbool : (none : Option Code).isNone = true := rfl
  simp only [hbool, if_true] at her
  rw [hrr, hW4] at her
  refine ⟨_, W4, her, ?_⟩
  have hg4 : W3.grownBy W4 (some lb) := by rw [← hW4]; exact grownBy_putObj' _ _ _
  have ho4 : ∀ k, k ≠ lb → W4.heap[k]? = W3.heap[k]? := fun k hk => by rw [← hW4]; exact World.putObj_heap_other fun e => hk (by rw [e])
  have hr4 : W4.heap[lb]? = some (.loop rec) := by rw [← hW4]; exact World.putObj_heap_same hlt3
  have hs4 : W4.heap.size = W3.heap.size := by rw [← hW4]; simp
  have hKE : Keeps E W4 := by
    refine ⟨hg4.os.trans (hS33.below.os.trans (hg2.os.trans hK1.os)), hg4.tape.trans (hS33.below.tape.trans (hg2.tape.trans hK1.tape)), hg4.output.trans (hS33.below.output.trans (hg2.output.trans hK1.output)), ?_, fun k hk hz => ?_⟩
    · have g1 := hK1.size
      have g2 : W2.heap.size ≤ W3.heap.size := hS33.below.size
      omega
    · by_cases hkl : k = lb
      · rw [hkl, hr4]; exact hrec.at_.symm
      · rw [ho4 k hkl]
        have g1 : k < W1.heap.size := Nat.lt_of_lt_of_le hk hK1.size
        have g2 : ¬ E3.Z k := fun g => by
          rcases (hE3 k (.inl g)).1 with g | g
          · exact hz g
          · omega
        rw [hS33.below.block k (by show k < W2.heap.size; omega) g2]
        show W2.heap[k]? = _
        rw [ho2 k hkl]
        exact hK1.block k hk hz
  have hmut3 : ∀ b, Mut s2 bx2 rw2 b → E3.Own b := by
    rintro b (⟨k, B, hB, e⟩ | ⟨q, R1, hR, e⟩)
    · rw [← e]; exact (hS33.boxes k B hB).1
    · exact (hS33.rows q R1 hR).1 b e
  have hSE : Sim C.Θ E s2 a2.tmps W4 bx2 rw2 := by
    refine hS33.move hg4 hKE hb.PB.symm hb.PR.symm (fun b hm ho => (hE3 b ho).1) (fun b hb' => ⟨?_, by rw [hs4]; exact hb'.2.1, hb'.2.2⟩) (fun q e => ?_)
    · rcases hb'.1 with g1 | g1
      · exact hb.F b g1.1
      · exact .inr (hE3 b g1).1
    · cases e
      refine ⟨fun hf => ?_, fun hm => (hE3 _ (hmut3 _ hm)).2 rfl⟩
      rcases hf.1 with g1 | g1
      · exact g1.2 rfl
      · exact (hE3 _ g1).2 rfl
  have hSR : Sim C.Θ E ⟨[.c (.v (.bool true))], s2.boxes, s2.rows⟩ [Value.bool true].toArray W4 bx2 rw2 := by
    refine ⟨hSE.below, hSE.pinB, hSE.pinR, hSE.rwsl, hSE.boxes, hSE.rows, hSE.bb, hSE.rr, hSE.br, rfl, fun i => ?_⟩
    cases i with
    | zero => exact Rep.bool true
    | succ i => exact trivial
  obtain ⟨sh, x', hx', hto⟩ := out_ok _ _ _ _ he2
  obtain ⟨bx', rw', hS5⟩ := ext_ok hSR hx'
  unfold Post
  rw [hto]
  exact ⟨rfl, [Value.bool true], bx', rw', rfl, hS5⟩
end
end Go.Den
