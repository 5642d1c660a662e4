/- The evaluator of the model's code on typed values, and that it tells the truth: part E. -/
import Derived.Shelf.SlSortCmp.NoneTotal
import Derived.Shelf.Spec.TrailingZeros
import Derived.Shelf.Spec.BitsCarry
import Derived.RecoverIn
import Derived.Test.YtbcejiobmeglgaaLibD
namespace Go.Den
open Go Go.RowKit Go.Proofs Go.Shelf Go.Lib Go.Sort
section
variable {Θ : Tab} {W : World} {F : Nat → Prop}
end
section
variable {α : Type} (d : α) (cf : α → α → Int) (hO : SWO (ltOf cf)) (x : List α)
include hO
end
end Go.Den
namespace Go.Den
open Go Go.RowKit
section
variable {P : Program} {Θ : Tab} {E : Env} {s : St Θ.T} {tm : Array Value} {bx : Nat → Nat → Nat} {rw_ : Nat → Nat → Value}
theorem flat_end (hS : Sim Θ E s tm E.w0 bx rw_) {W : World} (hK : Keeps E W) {avs : List (AV Θ.T)} {us : List Value} (h : ∀ F : Nat → Prop, All2 (RAV Θ W F bx rw_) avs us) : Sim Θ E ⟨avs, [], []⟩ us.toArray W bx rw_ := by
  have h2 := h (FF E (⟨avs, [], []⟩ : St Θ.T) bx rw_ W)
  refine ⟨hK, hS.glob, fun k b hkb => ⟨(hS.pinB k b hkb).1, fun B hB => by cases hB⟩, fun r v hrv => ⟨(hS.pinR r v hrv).1, fun R hR => by cases hR⟩, hS.rwsl, fun k B hB => (by cases hB), fun r R hR => (by cases hR), fun k B k' B' hB => (by cases hB), fun r R r' R' b hR => (by cases hR), fun k B r R hB => (by cases hB), by simp [h2.length], fun i => ?_⟩
  simp only [St.at_, List.getD_eq_getElem?_getD, Array.getD_eq_getD_getElem?, List.getElem?_toArray]
  cases hi : avs[i]? with
  | none => exact trivial
  | some v =>
    obtain ⟨u, hu, hr⟩ := h2.get i hi
    simp only [hu, Option.getD_some]
    exact hr
end
end Go.Den
namespace Go.Den
open Go Go.RowKit
section
variable {C : Cx} {n m : Nat}
theorem leave_gen {E E2 : Env} {s : St C.Θ.T} {tm tms : Array Value} {W : World} {bx : Nat → Nat → Nat} {rw_ : Nat → Nat → Value} {fn : Func} {R : Ending → World → Prop} {md : FrameMode} {tl : List Deferred} (hG0 : Globs C.Θ E) (hbs : Rebase E E2) (hS : Sim C.Θ E2 s tm W bx rw_) (hED : E.D = tl) (hmd : md ≠ .run)
    (hfin : ∀ w', Sim C.Θ E s tm w' bx rw_ → (∀ k, k < E.w0.heap.size → w'.heap[k]? = W.heap[k]?) → LeavesInM Fence.wide m C.P fn tms R tl md w') : LeavesInM Fence.wide m C.P fn tms R E2.D md W := by
  obtain ⟨Ds, hDs, hnd, hD⟩ := hbs.marks
  have hmlt : ∀ b, Mut s bx rw_ b → b < W.heap.size := by
    rintro b (⟨k, B, hB, e⟩ | ⟨q, R', hR, e⟩)
    · obtain ⟨_, cv, hh, _⟩ := hS.boxes k B hB
      rw [← e]; exact (Array.getElem?_eq_some_iff.1 hh).1
    · obtain ⟨_, us, hown, _⟩ := hS.rows q R' hR
      exact hown.lt e
  have hmown : ∀ b, Mut s bx rw_ b → E2.Own b := by
    rintro b (⟨k, B, hB, e⟩ | ⟨q, R', hR, e⟩)
    · rw [← e]; exact (hS.boxes k B hB).1
    · exact (hS.rows q R' hR).1 b e
  have hS0 : Sim C.Θ ⟨W, fun b => E2.Own b ∧ b < W.heap.size, E2.F, E2.PB, E2.PR, []⟩ s tm W bx rw_ := by
    refine hS.move (row := none) ⟨rfl, rfl, rfl, Nat.le_refl _, fun _ _ _ => rfl⟩ ⟨rfl, rfl, rfl, Nat.le_refl _, fun _ _ _ => rfl⟩ (hS.glob.step (row := none) hS.below ⟨rfl, rfl, rfl, Nat.le_refl _, fun _ _ _ => rfl⟩ (fun q e => by cases e) rfl fun b h => h.1) rfl rfl (fun b hm ho => .inl ⟨ho, hmlt b hm⟩) (fun b hb' => ⟨?_, hb'.2.1, hb'.2.2⟩) (fun q e => by cases e)
    rcases hb'.1 with h1 | h1
    · exact .inl h1
    · exact .inr (.inl ⟨h1, hb'.2.1⟩)
  rw [hDs, hED]
  refine leave_ok (E2 := E2) (tms := tms) hmd Ds W hS0 hnd (fun D hm => ?_) (fun w' hS' e1 e2 e3 e4 e5 => ?_)
  · obtain ⟨⟨d1, d2, d3⟩, d4, d5⟩ := hD D hm
    refine ⟨fun h => ?_, d4, (hS.below.block D d1 d2).trans d3⟩
    rcases h with h | h
    · exact d2 h
    · omega
  have hKE := hbs.keeps hS.below
  have hK' : Keeps E w' := ⟨e1.trans hKE.os, e2.trans hKE.tape, e3.trans hKE.output, by rw [e4]; exact hKE.size, fun k hk hz => by
    rw [e5 k fun hm => by have := (hD k hm).2.2; omega]
    exact hKE.block k hk hz⟩
  have hSE : Sim C.Θ E s tm w' bx rw_ := by
    refine hS'.move (row := none) ⟨rfl, rfl, rfl, Nat.le_refl _, fun _ _ _ => rfl⟩ hK' hG0 hbs.PB.symm hbs.PR.symm (fun b hm _ => hbs.own b (hmown b hm)) (fun b hb' => ⟨?_, hb'.2.1, hb'.2.2⟩) (fun q e => by cases e)
    rcases hb'.1 with h1 | h1
    · exact hbs.F b h1
    · rcases h1 with h1 | h1
      · exact .inr (hbs.own b h1.1)
      · have h1 : w'.heap.size ≤ b := h1
        have := hb'.2.1; omega
  exact hfin w' hSE fun k hk => e5 k fun hm => by have := (hD k hm).2.2; omega
def allV {T : TypeId → Type} (cs : List (CV T)) : Bool := cs.all fun c => match c with
  | .v _ => true
  | _ => false
def recSt {T : TypeId → Type} (nt : Nat) (tb t2 t3 : TypeId) (cs : List (CV T)) : St T :=
  ⟨[.undef, .c (.box pin 0 0), .c (.box (pin + 1) 0 0), .c (.box (pin + 2) 0 0)] ++ List.replicate (nt - 4) .undef, [(pin, ⟨0, tb, cs⟩), (pin + 1, ⟨0, t2, [.v (.int .i64 0)]⟩), (pin + 2, ⟨0, t3, [.v (.int .i64 0)]⟩)], []⟩
def recW (W : World) (tb t2 t3 : TypeId) (us : Array Value) : World := ((W.alloc (.cells us tb)).alloc (.cells #[.int .i64 0] t2)).alloc (.cells #[.int .i64 0] t3)
def recD (cl : FuncId) (b : Nat) : Deferred := { target := .fn (.func cl) #[.pointer (some ⟨b + 1, 0, none⟩), .pointer (some ⟨b + 2, 0, none⟩)], args := #[] }
def recBx (b k g : Nat) : Nat := if g = 0 then (if k = pin then b else if k = pin + 1 then b + 1 else b + 2) else b
noncomputable def recK (C : Cx) (fn : Func) (outs : List (Ex × Shape)) (e : Ex) (s : St C.Θ.T) : Option (Outs C.Θ.T outs) := match e with
  | .exit _ => none
  | .normal => handsBack C fn outs s
  | .ret => handsBack C fn outs s
  | .pan t => outOf outs (.pan t) s
theorem rec_sim {E : Env} {cs : List (CV C.Θ.T)} {v0 : Value} {bx : Nat → Nat → Nat} {rw_ : Nat → Nat → Value} {nt : Nat} {tb t2 t3 : TypeId} {tm : Array Value} {D : List Deferred} (hnt : 4 ≤ nt) (hcs : allV cs = true)
    (hS : Sim C.Θ E ⟨[.agg cs], [], []⟩ #[v0] E.w0 bx rw_) (htm : tm.size = nt) (h1 : tm.getD 1 undef = .pointer (some ⟨E.w0.heap.size, 0, none⟩)) (h2 : tm.getD 2 undef = .pointer (some ⟨E.w0.heap.size + 1, 0, none⟩)) (h3 : tm.getD 3 undef = .pointer (some ⟨E.w0.heap.size + 2, 0, none⟩)) :
    ∃ us : Array Value, v0 = .agg us ∧ us.size = cs.length ∧ Sim C.Θ ⟨recW E.w0 tb t2 t3 us, fun b => b = E.w0.heap.size ∨ b = E.w0.heap.size + 1 ∨ b = E.w0.heap.size + 2, fun b => E.F b ∨ E.Own b, fun k b => (k = pin ∧ b = E.w0.heap.size) ∨ (k = pin + 1 ∧ b = E.w0.heap.size + 1) ∨ (k = pin + 2 ∧ b = E.w0.heap.size + 2), fun _ _ => False, D⟩
      (recSt nt tb t2 t3 cs) tm (recW E.w0 tb t2 t3 us) (recBx E.w0.heap.size) (fun _ _ => .slice none 0 0) := by
  obtain ⟨us, e, ha⟩ : ∃ us : List Value, v0 = .agg us.toArray ∧ All2 (RCV C.Θ E.w0 (FF E ⟨[.agg cs], [], []⟩ bx rw_ E.w0) bx rw_) cs us := hS.slots 0
  refine ⟨us.toArray, e, by simpa using ha.length.symm, ?_⟩
  obtain ⟨b, hb⟩ : ∃ b, E.w0.heap.size = b := ⟨_, rfl⟩
  have hW0 : (recW E.w0 tb t2 t3 us.toArray).heap[b]? = some (.cells us.toArray tb (0, 0)) := by
    unfold recW
    rw [Below.heap_alloc _ _ _ (by simp; omega), Below.heap_alloc _ _ _ (by simp; omega), ← hb]
    exact World.alloc_heap_new _ _
  have hW1 : (recW E.w0 tb t2 t3 us.toArray).heap[b + 1]? = some (.cells #[.int .i64 0] t2 (0, 0)) := by
    unfold recW
    rw [Below.heap_alloc _ _ _ (by simp; omega)]
    have := World.alloc_heap_new (E.w0.alloc (.cells us.toArray tb)) (.cells #[.int .i64 0] t2)
    rwa [World.size_alloc, hb] at this
  have hW2 : (recW E.w0 tb t2 t3 us.toArray).heap[b + 2]? = some (.cells #[.int .i64 0] t3 (0, 0)) := by
    unfold recW
    have := World.alloc_heap_new ((E.w0.alloc (.cells us.toArray tb)).alloc (.cells #[.int .i64 0] t2)) (.cells #[.int .i64 0] t3)
    rwa [World.size_alloc, World.size_alloc, hb] at this
  have hsz : (recW E.w0 tb t2 t3 us.toArray).heap.size = b + 3 := by unfold recW; simp [hb]
  have hold : ∀ k, k < b → (recW E.w0 tb t2 t3 us.toArray).heap[k]? = E.w0.heap[k]? := fun k hk => by
    unfold recW
    rw [Below.heap_alloc _ _ _ (by simp; omega), Below.heap_alloc _ _ _ (by simp; omega), Below.heap_alloc _ _ _ (by omega)]
  have hbel : Below E.w0.heap.size E.w0 (recW E.w0 tb t2 t3 us.toArray) := by
    unfold recW
    exact (((Below.refl _ E.w0).alloc (Nat.le_refl _) _).alloc (by simp) _).alloc (by simp; omega) _
  have hg : E.w0.grownBy (recW E.w0 tb t2 t3 us.toArray) none := ⟨hbel.os, hbel.tape, hbel.output, hbel.size, fun k hk _ => hbel.block k hk⟩
  have hlook : ∀ k B, look (recSt nt tb t2 t3 cs).boxes k = some B → (k = pin ∧ B = ⟨0, tb, cs⟩) ∨ (k = pin + 1 ∧ B = ⟨0, t2, [.v (.int .i64 0)]⟩) ∨ (k = pin + 2 ∧ B = ⟨0, t3, [.v (.int .i64 0)]⟩) := by
    intro k B h
    simp only [recSt, look] at h
    split at h
    · rename_i e; cases h; exact .inl ⟨e.symm, rfl⟩
    · split at h
      · rename_i e; cases h; exact .inr (.inl ⟨e.symm, rfl⟩)
      · split at h
        · rename_i e; cases h; exact .inr (.inr ⟨e.symm, rfl⟩)
        · cases h
  have hpin : pin = 1000000 := rfl
  rw [hb] at h1 h2 h3 ⊢
  refine ⟨⟨rfl, rfl, rfl, Nat.le_refl _, fun _ _ _ => rfl⟩, hS.glob.step hS.below hg (fun q e => by cases e) rfl (fun k hk => .inr (by rw [hb]; rcases hk with h | h | h <;> omega)), ?_, fun r v h => h.elim, fun r g => .inl ⟨_, _, _, rfl⟩, ?_, (fun r R h => nomatch h), ?_, (fun r R r' R' b h => nomatch h), (fun k B r R _ h => nomatch h), by simp [recSt, htm]; omega, ?_⟩
  · rintro k b' (⟨rfl, rfl⟩ | ⟨rfl, rfl⟩ | ⟨rfl, rfl⟩)
    · exact ⟨Nat.le_refl _, fun B _ _ => by simp [recBx]⟩
    · exact ⟨by omega, fun B _ _ => by simp [recBx]⟩
    · exact ⟨by omega, fun B _ _ => by simp [recBx]⟩
  · intro k B h
    rcases hlook k B h with ⟨rfl, rfl⟩ | ⟨rfl, rfl⟩ | ⟨rfl, rfl⟩
    · refine ⟨.inl (.inl (by simp [recBx])), us, by simpa [recBx] using hW0, ?_⟩
      simp only
      have hm : ∀ b', FF E (⟨[.agg cs], [], []⟩ : St C.Θ.T) bx rw_ E.w0 b' → FF ⟨recW E.w0 tb t2 t3 us.toArray, fun b' => b' = b ∨ b' = b + 1 ∨ b' = b + 2, fun b => E.F b ∨ E.Own b, fun k b' => (k = pin ∧ b' = b) ∨ (k = pin + 1 ∧ b' = b + 1) ∨ (k = pin + 2 ∧ b' = b + 2), fun _ _ => False, D⟩ (recSt nt tb t2 t3 cs) (recBx b) (fun _ _ => .slice none 0 0) (recW E.w0 tb t2 t3 us.toArray) b' := by
        rintro b' ⟨f1, f2, _⟩
        rw [hb] at f2
        refine ⟨.inl f1, by omega, ?_⟩
        rintro (⟨k, B, hB, e'⟩ | ⟨r, R, hR, _⟩)
        · rcases hlook k B hB with ⟨rfl, rfl⟩ | ⟨rfl, rfl⟩ | ⟨rfl, rfl⟩ <;> simp [recBx] at e' <;> omega
        · cases hR
      have hw : ∀ b', FF E (⟨[.agg cs], [], []⟩ : St C.Θ.T) bx rw_ E.w0 b' → (recW E.w0 tb t2 t3 us.toArray).heap[b']? = E.w0.heap[b']? := fun b' h => hold b' (by rw [← hb]; exact h.2.1)
      revert hm hw
      generalize FF _ (recSt nt tb t2 t3 cs) _ _ _ = F1
      generalize FF E (⟨[.agg cs], [], []⟩ : St C.Θ.T) bx rw_ E.w0 = F0 at ha ⊢
      intro hm hw
      generalize recW E.w0 tb t2 t3 us.toArray = W1 at hw ⊢
      clear hS e hW0 hW1 hW2 hsz hold hbel hg hlook h
      revert hcs
      induction ha with
      | nil => intro _; exact .nil
      | cons h1 _ ih =>
        intro hcs
        simp only [allV, List.all_cons, Bool.and_eq_true] at hcs
        refine .cons ?_ (ih hcs.2)
        have := hcs.1
        split at this
        · exact Rep.mono h1 hm hw
        · cases this
    · refine ⟨.inl (.inr (.inl (by simp [recBx]))), [.int .i64 0], by simpa [recBx] using hW1, .cons (.int _ _) .nil⟩
    · refine ⟨.inl (.inr (.inr (by simp [recBx]))), [.int .i64 0], by simpa [recBx] using hW2, .cons (.int _ _) .nil⟩
  · intro k B k' B' h h' he
    rcases hlook k B h with ⟨rfl, rfl⟩ | ⟨rfl, rfl⟩ | ⟨rfl, rfl⟩ <;> rcases hlook k' B' h' with ⟨rfl, rfl⟩ | ⟨rfl, rfl⟩ | ⟨rfl, rfl⟩ <;> simp [recBx] at he ⊢
  · intro i
    match i with
    | 0 => exact trivial
    | 1 => show tm.getD 1 undef = _; rw [h1]; simp [recBx]
    | 2 => show tm.getD 2 undef = _; rw [h2]; simp [recBx]
    | 3 => show tm.getD 3 undef = _; rw [h3]; simp [recBx]
    | i + 4 =>
      have : (recSt nt tb t2 t3 cs : St C.Θ.T).at_ (i + 4) = .undef := by
        simp only [recSt, St.at_, List.getD_eq_getElem?_getD]
        rw [List.getElem?_append_right (by simp)]
        cases hq : (List.replicate (nt - 4) (AV.undef : AV C.Θ.T))[i + 4 - [AV.undef, AV.c (CV.box pin 0 0), AV.c (CV.box (pin + 1) 0 0), (AV.c (CV.box (pin + 2) 0 0) : AV C.Θ.T)].length]? with
        | none => rfl
        | some v => have := List.mem_of_getElem? hq; rw [List.mem_replicate] at this; rw [this.2]; rfl
      rw [this]; exact trivial
theorem rec_run (hC : C.Ok) {g cl : FuncId} {fn : Func} {c rest : Code} {p : Plan} {tb t2 t3 tst : TypeId} {outs : List (Ex × Shape)} {nt q : Nat} (hf : C.P.funcs[g]? = some fn) (hb : fn.body = some c) (hnt : fn.ntmps = nt) (h4 : 4 ≤ nt)
    (hpre : ∀ (us : Array Value) (W : World) (Q : Exit → Act → World → Prop), us.size = q → (∀ tm : Array Value, tm.size = nt → tm.getD 1 undef = .pointer (some ⟨W.heap.size, 0, none⟩) → tm.getD 2 undef = .pointer (some ⟨W.heap.size + 1, 0, none⟩) → tm.getD 3 undef = .pointer (some ⟨W.heap.size + 2, 0, none⟩) → rest.wp C.P Q ⟨tm, [recD cl W.heap.size]⟩ (recW W tb t2 t3 us)) → c.wp C.P Q ⟨#[.agg us] ++ Array.replicate (nt - 1) undef, []⟩ W)
    (hcl : Go.Proofs.Enters C.P cl) (hidle : ∀ m a b w, CallsDIn Fence.wide m C.P cl #[a, b] .returning w fun e u' w' => e = .returned (.tuple #[]) ∧ u' = .returning ∧ w' = w)
    (hpanic : ∀ m b1 b2 x1 x2 e1 e2 (w : World), w.heap[b1]? = some (.cells #[.int .i64 x1] t2 (0, 0)) → w.heap[b2]? = some (.cells #[.int .i64 x2] t3 (0, 0)) → b1 ≠ b2 →
      CallsDIn Fence.wide m C.P cl #[.pointer (some ⟨b1, 0, none⟩), .pointer (some ⟨b2, 0, none⟩)] (.panicking [{ v := .iface tst (.agg #[.int .i64 e1, .int .i64 e2]), recovered := false }]) w fun e u' w' =>
        e = .returned (.tuple #[]) ∧ u' = .panicking [{ v := .iface tst (.agg #[.int .i64 e1, .int .i64 e2]), recovered := true }] ∧
        w'.os = w.os ∧ w'.tape = w.tape ∧ w'.output = w.output ∧ w.heap.size ≤ w'.heap.size ∧ w'.heap[b1]? = some (.cells #[.int .i64 e1] t2 (0, 0)) ∧ w'.heap[b2]? = some (.cells #[.int .i64 e2] t3 (0, 0)) ∧ ∀ k, k < w.heap.size → k ≠ b1 → k ≠ b2 → w'.heap[k]? = w.heap[k]?)
    (hload : ∀ (w : World) (tm : Array Value) (b1 b2 : Nat) (e a : Int), tm.getD 2 undef = .pointer (some ⟨b1, 0, none⟩) → tm.getD 3 undef = .pointer (some ⟨b2, 0, none⟩) → w.heap[b1]? = some (.cells #[.int .i64 e] t2 (0, 0)) → w.heap[b2]? = some (.cells #[.int .i64 a] t3 (0, 0)) → (results fn tm).run C.P w = .ok (.tuple #[.int .i64 e, .int .i64 a]) w)
    (hkeep : C.keep = [(2, pin + 1, t2), (3, pin + 2, t3)]) {E : Env} {v0 : Value} {cs : List (CV C.Θ.T)} {bx : Nat → Nat → Nat} {rw_ : Nat → Nat → Value} (hcs : allV cs = true) (hcq : cs.length = q) (hS : Sim C.Θ E ⟨[.agg cs], [], []⟩ #[v0] E.w0 bx rw_)
    {z : Outs C.Θ.T outs} (hz : codeC C n rest p (recSt nt tb t2 t3 cs) (recK C fn outs) = some z) {e1 e2 : Int}
    (hout : outTo outs (fun ex _ t => (∀ ty, ex = .pan ty → ty = tst ∧ t.slots = [.agg [.v (.int .i64 e1), .v (.int .i64 e2)]]) ∧ (ex = .ret → t.slots = [.c (.v (.int .i64 e1)), .c (.v (.int .i64 e2))])) z) :
    Calls C.P g #[v0] E.w0 fun e w' => ∃ bx rw_, e = .returned (.tuple #[.int .i64 e1, .int .i64 e2]) ∧ Sim C.Θ E ⟨[.c (.v (.int .i64 e1)), .c (.v (.int .i64 e2))], [], []⟩ #[.int .i64 e1, .int .i64 e2] w' bx rw_ := by
  obtain ⟨us0, rfl, husz, _⟩ := rec_sim (nt := nt) (tb := tb) (t2 := t2) (t3 := t3) (tm := (((Array.replicate nt undef).setIfInBounds 1 (.pointer (some ⟨E.w0.heap.size, 0, none⟩))).setIfInBounds 2 (.pointer (some ⟨E.w0.heap.size + 1, 0, none⟩))).setIfInBounds 3 (.pointer (some ⟨E.w0.heap.size + 2, 0, none⟩))) (D := []) h4 hcs hS (by simp)
    (by simp [Array.getD_eq_getD_getElem?]; omega) (by simp [Array.getD_eq_getD_getElem?]; omega) (by simp [Array.getD_eq_getD_getElem?]; omega)
  refine callsIn_wide.1 (callsIn_of_wp_marks (n := 0) hf hb trivial (wpIn_wide.2 ?_))
  rw [hnt]
  refine hpre us0 E.w0 _ (by rw [husz, hcq]) fun tm htm a1 a2 a3 => ?_
  obtain ⟨us, hus, _, hS1⟩ := rec_sim (tb := tb) (t2 := t2) (t3 := t3) (D := [recD cl E.w0.heap.size]) h4 hcs hS htm a1 a2 a3
  cases hus
  obtain ⟨b, hbs0⟩ : ∃ b, E.w0.heap.size = b := ⟨_, rfl⟩
  have fin : ∀ {s : St C.Θ.T} {tm' : Array Value} {w' : World} {bx' : Nat → Nat → Nat} {rw' : Nat → Nat → Value} {W2 : World}, Keeps ⟨recW E.w0 tb t2 t3 us0, fun b => b = E.w0.heap.size ∨ b = E.w0.heap.size + 1 ∨ b = E.w0.heap.size + 2, fun b => E.F b ∨ E.Own b, fun k b => (k = pin ∧ b = E.w0.heap.size) ∨ (k = pin + 1 ∧ b = E.w0.heap.size + 1) ∨ (k = pin + 2 ∧ b = E.w0.heap.size + 2), fun _ _ => False, [recD cl E.w0.heap.size]⟩ w' →
      W2.os = w'.os → W2.tape = w'.tape → W2.output = w'.output → w'.heap.size ≤ W2.heap.size → (∀ k, k < b → W2.heap[k]? = w'.heap[k]?) →
      ∃ bx rw_, (Ending.returned (Value.tuple #[.int .i64 e1, .int .i64 e2])) = .returned (.tuple #[.int .i64 e1, .int .i64 e2]) ∧ Sim C.Θ E ⟨[.c (.v (.int .i64 e1)), .c (.v (.int .i64 e2))], [], []⟩ #[.int .i64 e1, .int .i64 e2] W2 bx rw_ := by
    intro _ _ w' _ _ W2 hK k1 k2 k3 k4 k5
    have hbel : Below E.w0.heap.size E.w0 (recW E.w0 tb t2 t3 us0) := by
      unfold recW
      exact (((Below.refl _ E.w0).alloc (Nat.le_refl _) _).alloc (by simp) _).alloc (by simp; omega) _
    have hKE : Keeps E W2 := by
      refine ⟨k1.trans (hK.os.trans hbel.os), k2.trans (hK.tape.trans hbel.tape), k3.trans (hK.output.trans hbel.output), Nat.le_trans hbel.size (Nat.le_trans hK.size k4), fun k hk hz => ?_⟩
      rw [k5 k (by omega), hK.block k (Nat.lt_of_lt_of_le hk hbel.size) (fun h => by rcases h with h | h | h <;> omega)]
      exact hbel.block k hk
    exact ⟨bx, rw_, rfl, flat_end hS hKE (us := [.int .i64 e1, .int .i64 e2]) fun F => .cons (Rep.int _ _) (.cons (Rep.int _ _) .nil)⟩
  have hent : ∀ w, (invoke (recD cl E.w0.heap.size).target (recD cl E.w0.heap.size).args).run C.P w = .ok (.enter cl #[.pointer (some ⟨E.w0.heap.size + 1, 0, none⟩), .pointer (some ⟨E.w0.heap.size + 2, 0, none⟩)]) w := fun w => by
    have := hcl #[.pointer (some ⟨E.w0.heap.size + 1, 0, none⟩), .pointer (some ⟨E.w0.heap.size + 2, 0, none⟩)] w
    unfold invoke recD
    simpa using this
  refine wpIn_wide.1 (code_ok (m := 0) (F := Fence.wide) hC (.inl rfl) rest p _ _ z (.inl rfl) hz _ _ _ _ (Rebase.refl _) ⟨rfl, _, _, hS1⟩ ⟨fun E2 e s a W hp hbs he h0 => ?_, fun E2 ty s u a W hbs he hd hSu hfr => ?_⟩)
  ·
    obtain ⟨hd, bx2, rw2, hS2⟩ := h0
    have ends : handsBack C fn outs s = some z → LeavesInM Fence.wide 0 C.P fn a.tmps (fun e w' => ∃ bx rw_, e = .returned (.tuple #[.int .i64 e1, .int .i64 e2]) ∧ Sim C.Θ E ⟨[.c (.v (.int .i64 e1)), .c (.v (.int .i64 e2))], [], []⟩ #[.int .i64 e1, .int .i64 e2] w' bx rw_) a.defers .returning W := by
      intro hh
      rw [hd]
      refine leave_gen hS1.glob hbs hS2 rfl (by simp) fun w' hSE _ => ?_
      refine ⟨by simp, .inr ⟨(fun h => nomatch h), .func cl, _, cl, _, rfl, hent w', fun _ _ => trivial, (hidle _ _ _ w').mono ?_⟩⟩
      rintro e' u' w2 ⟨rfl, rfl, rfl⟩
      unfold handsBack at hh
      split at hh <;> try (cases hh; done)
      rename_i hc
      obtain ⟨us, g1, g2⟩ := results_ok hSE fn.results.toList (cellsOk_spec hc)
      have mk3 : ∀ {E3 : Env}, Sim C.Θ E3 s a.tmps w2 bx2 rw2 → All2 (RAV C.Θ w2 (FF E3 s bx2 rw2 w2) bx2 rw2) (fn.results.toList.map (resultAV C s)) us → Sim C.Θ E3 ⟨fn.results.toList.map (resultAV C s), s.boxes, s.rows⟩ us.toArray w2 bx2 rw2 := by
        intro E3 hSE g2
        refine ⟨hSE.below, hSE.glob, hSE.pinB, hSE.pinR, hSE.rwsl, hSE.boxes, hSE.rows, hSE.bb, hSE.rr, hSE.br, by simpa using g2.length, fun i => ?_⟩
        simp only [St.at_, List.getD_eq_getElem?_getD, Array.getD_eq_getD_getElem?, List.getElem?_toArray]
        cases hi : (fn.results.toList.map (resultAV C s))[i]? with
        | none => exact trivial
        | some v =>
          obtain ⟨u, hu, hr⟩ := g2.get i hi
          simp only [hu, Option.getD_some]
          exact hr
      have hS3 := mk3 hSE g2
      obtain ⟨sh, x', hx', hto⟩ := out_ok _ _ _ _ hh
      obtain ⟨bx', rw', hS4⟩ := ext_ok hS3 hx'
      rw [hto] at hout
      have hsl := hout.2 rfl
      have hlen := hS4.len
      rw [hsl] at hlen
      have hl2 : us.length = 2 := by simpa using hlen.symm
      obtain ⟨u1, u2, rfl⟩ : ∃ u1 u2, us = [u1, u2] := by
        match us, hl2 with
        | [u1, u2], _ => exact ⟨u1, u2, rfl⟩
      have r1 := hS4.slots 0
      have r2 := hS4.slots 1
      unfold St.at_ at r1 r2
      rw [hsl] at r1 r2
      have r1' : Rep C.Θ w2 _ u1 (.int .i64 e1) := r1
      have r2' : Rep C.Θ w2 _ u2 (.int .i64 e2) := r2
      cases r1'
      cases r2'
      have hr : (results fn a.tmps).run C.P w2 = .ok (.tuple #[.int .i64 e1, .int .i64 e2]) w2 := by
        rw [results_eq, Sem.run_bind, g1]
        rfl
      exact ⟨_, hr, fin (s := s) (tm' := tm) (bx' := bx) (rw' := rw_) hSE.below rfl rfl rfl (Nat.le_refl _) fun _ _ => rfl⟩
    cases e with
    | exit i => cases he
    | normal => exact ends he
    | ret => exact ends he
    | pan ty => exact absurd rfl (hp ty)
  ·
    obtain ⟨bx2, rw2, hS2⟩ := hSu
    obtain ⟨sh, x', hx', hto⟩ := out_ok _ _ _ _ he
    obtain ⟨bx', rw', hS4⟩ := ext_ok hS2 hx'
    rw [hto] at hout
    obtain ⟨rfl, hsl⟩ := hout.1 ty rfl
    have r1 := hS4.slots 0
    unfold St.at_ at r1
    rw [hsl] at r1
    obtain ⟨us, hu, ha⟩ : ∃ us : List Value, u = .agg us.toArray ∧ All2 (RCV C.Θ W _ bx' rw') [.v (.int .i64 e1), .v (.int .i64 e2)] us := r1
    have hus : us = [.int .i64 e1, .int .i64 e2] := by
      cases ha with
      | cons q1 t => cases t with
        | cons q2 t =>
          cases t
          cases q1
          cases q2
          rfl
    subst hus
    subst hu
    have kp : ∀ k t j, (k, pin + j, t) ∈ C.keep → (j = 1 ∨ j = 2) → a.tmps.getD k undef = .pointer (some ⟨E.w0.heap.size + j, 0, none⟩) ∧ ∃ x, W.heap[E.w0.heap.size + j]? = some (.cells #[.int .i64 x] t (0, 0)) := by
      intro k t j hm hj
      obtain ⟨s0, bx0, rw0, x, hS0, g1, g2⟩ := hfr _ hm
      have hpb : bx0 (pin + j) 0 = E.w0.heap.size + j := by
        refine (hS0.pinB (pin + j) (E.w0.heap.size + j) ?_).2 _ g2 rfl
        rw [hbs.PB]
        rcases hj with rfl | rfl
        · exact .inr (.inl ⟨rfl, rfl⟩)
        · exact .inr (.inr ⟨rfl, rfl⟩)
      have g3 := hS0.slots k
      rw [g1] at g3
      obtain ⟨_, cs0, g4, g5⟩ := hS0.boxes _ _ g2
      simp only at g4 g5
      rw [hpb] at g4
      refine ⟨?_, x, ?_⟩
      · have : a.tmps.getD k undef = .pointer (some ⟨bx0 (pin + j) 0, 0, none⟩) := g3
        rw [this, hpb]
      · cases g5 with
        | cons q1 t =>
          cases t
          cases q1
          exact g4
    obtain ⟨p2, x1, w1⟩ := kp 2 t2 1 (by rw [hkeep]; simp) (.inl rfl)
    obtain ⟨p3, x2, w2⟩ := kp 3 t3 2 (by rw [hkeep]; simp) (.inr rfl)
    show LeavesInM Fence.wide 0 C.P fn a.tmps _ a.defers _ W
    rw [hd]
    refine leave_gen hS1.glob hbs hS2 rfl (by simp) fun w' hSE hold => ?_
    have hsz1 : (recW E.w0 tb t2 t3 us0).heap.size = E.w0.heap.size + 3 := by unfold recW; simp
    have v1 : w'.heap[E.w0.heap.size + 1]? = some (.cells #[.int .i64 x1] t2 (0, 0)) := (hold _ (by simp only [hsz1]; omega)).trans w1
    have v2 : w'.heap[E.w0.heap.size + 2]? = some (.cells #[.int .i64 x2] t3 (0, 0)) := (hold _ (by simp only [hsz1]; omega)).trans w2
    refine ⟨by simp, .inr ⟨(fun h => nomatch h), .func cl, _, cl, _, rfl, hent w', fun _ _ => trivial, (hpanic _ _ _ x1 x2 e1 e2 w' v1 v2 (by omega)).mono ?_⟩⟩
    rintro e' u' W3 ⟨rfl, rfl, k1, k2, k3, k4, k5, k6, k7⟩
    have hlt : E.w0.heap.size + 3 ≤ w'.heap.size := by have := hSE.below.size; simp only [hsz1] at this; exact this
    exact ⟨_, hload W3 a.tmps _ _ e1 e2 p2 p3 k5 k6, fin (s := s) (tm' := tm) (bx' := bx) (rw' := rw_) hSE.below k1 k2 k3 k4 fun k hk => k7 k (by omega) (by omega) (by omega)⟩
end
end Go.Den
