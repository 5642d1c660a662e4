/- Code, loops, whole functions: the machine does what 'den' says. -/
import Derived.Test.YtemhdliapelleaaDenAB
import Derived.LoopNIn
import Derived.ControlIn
import Derived.LoopN
import Derived.Laws.Sem
namespace Go.Den
open Go Go.RowKit

/-- The machine's way out. -/
def Ex.exit_ : Ex → Exit
  | .normal => .normal
  | .exit i => .exit i
  | .ret => .ret
section
variable {C : Cx} {n m : Nat} {E E2 : Env} {F : Fence}
theorem At.ext {E : Env} {s : St C.Θ.T} {a : Act} {W : World} (h0 : At C.Θ E s a W) {h : Shape} {x : h.X C.Θ.T} (hx : h.ext s = some x) : At C.Θ E (h.st x) a W := by
  obtain ⟨hd, bx, rw_, hS⟩ := h0
  obtain ⟨bx', rw', hS'⟩ := ext_ok hS hx
  exact ⟨hd, bx', rw', hS'⟩
/-- What must hold where a code ends, for 'den' to have said r. -/
def Ends {R : Type} (K : Ex → St C.Θ.T → Option R) (r : R) (E : Env) (Q : Exit → Act → World → Prop) : Prop :=
  ∀ E2 e s a W, Rebase E E2 → K e s = some r → At C.Θ E2 s a W → Q e.exit_ a W
theorem joined_ok {R : Type} {p : Plan} {K : Ex → St C.Θ.T → Option R} {f : (Ex → St C.Θ.T → Option R) → Option R} {r : R} (h : joined C p K f = some r) {Q : Exit → Act → World → Prop} (hK : Ends K r E Q) :
    ∃ K', f K' = some r ∧ Ends K' r E Q := by
  unfold joined at h
  split at h
  · exact ⟨K, h, hK⟩
  · rename_i hsh _
    refine ⟨_, h, ?_⟩
    intro E2 e s a W hb he h0
    cases e with
    | normal =>
      simp only at he
      split at he <;> try (cases he; done)
      rename_i x hx
      exact hK E2 .normal _ a W hb he (h0.ext hx)
    | exit i => exact hK E2 (.exit i) s a W hb he h0
    | ret => exact hK E2 .ret s a W hb he h0
theorem same_eq {e e' : Ex} (h : e.same e' = true) : e = e' := by
  cases e <;> cases e' <;> simp_all [Ex.same]
theorem out_ok {T : TypeId → Type} : ∀ (es : List (Ex × Shape)) (e : Ex) (s : St T) (y : Outs T es), outOf es e s = some y → ∃ h : Shape, ∃ x, h.ext s = some x ∧ ∀ {R : Type} (K : Ex → Shape → St T → R), outTo es K y = K e h (h.st x) := by
  intro es
  induction es with
  | nil => intro e s y h; cases h
  | cons a es ih =>
    intro e s y h
    cases es with
    | nil =>
      have h' : (if a.1.same e = true then a.2.ext s else none : Option (a.2.X T)) = some y := h
      by_cases hs : a.1.same e = true
      · rw [if_pos hs] at h'
        exact ⟨a.2, y, h', fun K => by rw [← same_eq hs]; rfl⟩
      · rw [if_neg hs] at h'; cases h'
    | cons b es =>
      have rest : ∀ {z : Outs T (b :: es)}, outOf (b :: es) e s = some z → ∃ h : Shape, ∃ x, h.ext s = some x ∧ ∀ {R : Type} (K : Ex → Shape → St T → R), outTo (a :: b :: es) K (.inr z) = K e h (h.st x) := by
        intro z hz
        obtain ⟨sh, x, h1, h2⟩ := ih e s z hz
        exact ⟨sh, x, h1, fun K => h2 K⟩
      simp only [outOf] at h
      split at h
      · rename_i hs
        split at h
        · rename_i x hx
          cases h
          exact ⟨a.2, x, hx, fun K => by rw [← same_eq hs]; rfl⟩
        · split at h <;> try (cases h; done)
          rename_i z hz
          cases h
          exact rest hz
      · split at h <;> try (cases h; done)
        rename_i z hz
        cases h
        exact rest hz
theorem exit_then {e : Ex} {next : Act → World → Prop} {Q : Exit → Act → World → Prop} {a : Act} {W : World} : Exit.then next Q e.exit_ a W = match e with
    | .normal => next a W
    | .exit i => Q (.exit i) a W
    | .ret => Q .ret a W := by cases e <;> rfl
theorem kvs_at {s : St C.Θ.T} {tm : Array Value} {W : World} {bx : Nat → Nat → Nat} {rw_ : Nat → Nat → Value} (hS : Sim C.Θ E s tm W bx rw_) : ∀ (live : List Nat) (vals : List (KV C.Θ.T)), kvsAt s live = some vals → All2 (RKV C.Θ W (FF E s bx rw_ W) bx rw_) vals (live.map fun i => tm.getD i undef) := by
  intro live
  induction live with
  | nil => intro vals h; cases h; exact .nil
  | cons i live ih =>
    intro vals h
    simp only [kvsAt] at h
    split at h <;> try (cases h; done)
    rename_i v hv
    split at h <;> try (cases h; done)
    rename_i l hl
    cases h
    refine .cons ?_ (ih l hl)
    have := hS.slots i
    revert this hv
    generalize s.at_ i = w
    intro hv hw
    cases w <;> simp only [KV.of] at hv <;> first | (cases hv; done) | (cases hv; exact hw)
/-- A range over a function: the record is laid, the function is called with the loop's body. -/
theorem range_ok (hC : C.Ok) {R : Type} {g : Operand} {ps : Array Tmp} {assign body : Code} {p : Plan} {s : St C.Θ.T} {K : Ex → St C.Θ.T → Option R} {r : R} (h : codeC C n (.rangeFunc g ps assign body) p s K = some r) {a : Act} {W : World} {Q : Exit → Act → World → Prop}
    (hb : Rebase E E2) (h0 : At C.Θ E2 s a W) (hK : Ends K r E Q) : (Code.rangeFunc g ps assign body).wpIn Fence.wide m C.P Q a W := by
  simp only [codeC] at h
  split at h <;> try (cases h; done)
  rename_i y live
  split at h <;> try (cases h; done)
  rename_i f caps hg
  split at h <;> try (cases h; done)
  rename_i vals hvals
  unfold ifY at h
  split at h <;> try (cases h; done)
  rename_i hY
  split at h <;> try (cases h; done)
  rename_i rd hrd
  rw [callK_eq] at h
  cases hck : callK (flatE C.Θ) rd none some with
  | none => simp [hck] at h
  | some s' =>
  simp only [hck, Option.bind_some] at h
  split at h <;> try (cases h; done)
  rename_i hny
  obtain ⟨hd, bx, rw_, hS⟩ := h0
  have hgv : a.eval g = .func (.func f) #[] (caps.map fun kg => Value.pointer (some ⟨bx kg.1 kg.2, 0, none⟩)).toArray := by
    have := hS.ev a rfl g
    rw [hg] at this
    exact this
  refine wpIn_rangeFunc ?_
  intro fn hfn
  obtain ⟨rec, hrec⟩ : ∃ rec : Loop, rec = { state := .ready, pending := none, fn, tmps := a.tmps, params := ps, assign, body, defers := W.heap.size } := ⟨_, rfl⟩
  obtain ⟨W1, hW1⟩ : ∃ W1, (W.alloc (.deferred (some []))).alloc (.loop rec) = W1 := ⟨_, rfl⟩
  have hsz : W1.heap.size = W.heap.size + 2 := by rw [← hW1]; simp
  have hL1 : W1.heap[W.heap.size + 1]? = some (.loop rec) := by
    rw [← hW1]; have := World.alloc_heap_new (W.alloc (.deferred (some []))) (.loop rec); rwa [World.size_alloc] at this
  have hK1 : W1.heap[W.heap.size]? = some (.deferred (some [])) := by
    rw [← hW1]; exact (Below.heap_alloc _ _ _ (by simp)).trans (World.alloc_heap_new W _)
  have hbel : Below W.heap.size W W1 := by
    rw [← hW1]; exact ((Below.refl _ W).alloc (Nat.le_refl _) _).alloc (by simp) _
  have hg1 : W.grownBy W1 none := ⟨hbel.os, hbel.tape, hbel.output, hbel.size, fun b hb' _ => hbel.block b hb'⟩
  -- what the callee stands on
  let E1 : Env := ⟨W1, fun b => E2.Own b ∧ b < W.heap.size, fun b => (E2.F b ∧ b < W.heap.size) ∨ b = W.heap.size + 1, E2.PB, E2.PR, E2.D⟩
  have hmlt : ∀ b, Mut s bx rw_ b → b < W.heap.size := by
    rintro b (⟨k, B, hB, e⟩ | ⟨q, R', hR, e⟩)
    · obtain ⟨_, cv, hh, _⟩ := hS.boxes k B hB
      rw [← e]; exact (Array.getElem?_eq_some_iff.1 hh).1
    · obtain ⟨_, us, hown, _⟩ := hS.rows q R' hR
      exact hown.lt e
  have hS1 : Sim C.Θ E1 s a.tmps W1 bx rw_ := by
    refine hS.move hg1 ⟨rfl, rfl, rfl, Nat.le_refl _, fun _ _ _ => rfl⟩ rfl rfl (fun b hm ho => .inl ⟨ho, hmlt b hm⟩) (fun b hb' => ⟨?_, Nat.lt_of_lt_of_le hb'.2.1 hbel.size, hb'.2.2⟩) (fun q e => by cases e)
    rcases hb'.1 with h1 | h1
    · exact .inl (.inl ⟨h1, hb'.2.1⟩)
    · exact .inr (.inl ⟨h1, hb'.2.1⟩)
  have hFl : FF E1 s bx rw_ W1 (W.heap.size + 1) := ⟨.inl (.inr rfl), by omega, fun hm => by have := hmlt _ hm; omega⟩
  have hav : All2 (RAV C.Θ W1 (FF E1 s bx rw_ W1) bx rw_) (.yld y vals :: caps.map fun kg => .c (.box kg.1 kg.2 0)) (.func (.yield (W.heap.size + 1)) #[] #[] :: caps.map fun kg => Value.pointer (some ⟨bx kg.1 kg.2, 0, none⟩)) := by
    refine .cons ⟨W.heap.size + 1, _, rec, rfl, hFl, ⟨hL1, by rw [hrec], by rw [hrec], hY, by rw [hrec], by rw [hrec], by rw [hrec], by rw [hrec]; exact hS.len.symm⟩, ?_⟩ ?_
    · have := kvs_at hS1 live vals hvals
      rw [hrec]; exact this
    · have all : ∀ l : List (Nat × Nat), All2 (RAV C.Θ W1 (FF E1 s bx rw_ W1) bx rw_) (l.map fun kg => .c (.box kg.1 kg.2 0)) (l.map fun kg => Value.pointer (some ⟨bx kg.1 kg.2, 0, none⟩)) := by
        intro l
        induction l with
        | nil => exact .nil
        | cons p l ih => exact .cons rfl ih
      exact all caps
  obtain ⟨hent, hcalls⟩ := call_ok hC hS1 (a := a) (E := E1) hd hav hrd hck
  refine ⟨W.heap.size + 1, [{ target := .collected W.heap.size, args := #[] }], W1, { target := .fn (.func f) (caps.map fun kg => Value.pointer (some ⟨bx kg.1 kg.2, 0, none⟩)).toArray, args := #[.func (.yield (W.heap.size + 1)) #[] #[]] }, W1, f,
    #[.func (.yield (W.heap.size + 1)) #[] #[]] ++ (caps.map fun kg => Value.pointer (some ⟨bx kg.1 kg.2, 0, none⟩)).toArray, W1, ?_, ?_, fun _ _ => trivial, ?_, fun h => (by cases h), ?_⟩
  · rw [← hW1, hrec]; exact run_enterLoop_outer _ _ _ _ _
  · simp only [resolve, hgv]
    simp [go_sem]
  · have := hent (#[.func (.yield (W.heap.size + 1)) #[] #[]] ++ (caps.map fun kg => Value.pointer (some ⟨bx kg.1 kg.2, 0, none⟩)).toArray) W1
    unfold invoke
    simp only
    exact this
  refine callsIn_wide.2 ?_
  have hargs : #[Value.func (.yield (W.heap.size + 1)) #[] #[]] ++ (caps.map fun kg => Value.pointer (some ⟨bx kg.1 kg.2, 0, none⟩)).toArray = (Value.func (.yield (W.heap.size + 1)) #[] #[] :: caps.map fun kg => Value.pointer (some ⟨bx kg.1 kg.2, 0, none⟩)).toArray := by
    apply Array.ext'; simp
  rw [hargs]
  refine Calls.mono hcalls ?_
  rintro e w' ⟨v, rfl, _, bx', rw', hS'⟩
  -- behind the function
  have hnZ1 : ∀ b, W.heap.size ≤ b → ¬ E1.Z b := fun b hb' hz => by have := hz.2; omega
  have hl' : w'.heap[W.heap.size + 1]? = some (.loop rec) := (hS'.below.block _ (by show _ < W1.heap.size; omega) (hnZ1 _ (by omega))).trans hL1
  have hk' : w'.heap[W.heap.size]? = some (.deferred (some [])) := (hS'.below.block _ (by show _ < W1.heap.size; omega) (hnZ1 _ (Nat.le_refl _))).trans hK1
  have hend := run_endLoop (P := C.P) hl' (by rw [hrec]; simp)
  refine ⟨none, _, by rw [hrec] at hend; exact hend, ?_⟩
  obtain ⟨w4, hw4⟩ : ∃ w4, w'.putObj (W.heap.size + 1) (.loop { rec with state := .exhausted }) = w4 := ⟨_, rfl⟩
  have hw4' : w'.putObj (W.heap.size + 1) (.loop { state := .exhausted, pending := none, fn, tmps := a.tmps, params := ps, assign, body, defers := W.heap.size }) = w4 := by rw [← hw4, hrec]
  simp only
  rw [hrec] at hw4
  rw [hw4]
  have hg4 : w'.grownBy w4 (some (W.heap.size + 1)) := by rw [← hw4]; exact grownBy_putObj' _ _ _
  have hother : ∀ k, k ≠ W.heap.size + 1 → w4.heap[k]? = w'.heap[k]? := fun k hk => by rw [← hw4]; exact World.putObj_heap_other fun e => hk (by rw [e])
  have hs4 : w4.heap.size = w'.heap.size := by rw [← hw4]; simp
  have hO1 : ∀ b, E1.Own b → E2.Own b ∧ b ≠ W.heap.size ∧ b ≠ W.heap.size + 1 := by
    rintro b (hz | hz)
    · have := hz.2; exact ⟨hz.1, by omega, by omega⟩
    · have hz : W1.heap.size ≤ b := hz
      exact ⟨Env.own_new hS.below (by omega), by omega, by omega⟩
  have hnotL : ¬ E1.Own (W.heap.size + 1) := fun h => (hO1 _ h).2.2 rfl
  have hdrop := hS'.drop hl' rfl hnotL hny
  -- what is stood on from here on
  let E3 : Env := ⟨w4, fun b => E1.Own b ∧ b < w'.heap.size, fun b => E2.F b ∧ b < W.heap.size, E2.PB, E2.PR, mark W.heap.size :: E2.D⟩
  have hmut' : ∀ b, Mut s' bx' rw' b → E1.Own b ∧ b < w'.heap.size := by
    rintro b (⟨k, B, hB, e⟩ | ⟨q, R', hR, e⟩)
    · obtain ⟨h1, cv, hh, _⟩ := hS'.boxes k B hB
      rw [← e]; exact ⟨h1, (Array.getElem?_eq_some_iff.1 hh).1⟩
    · obtain ⟨h1, us, hown, _⟩ := hS'.rows q R' hR
      exact ⟨h1 b e, hown.lt e⟩
  have hchain : ∀ k, k < E2.w0.heap.size → ¬ E2.Z k → w4.heap[k]? = E2.w0.heap[k]? := by
    intro k hk hz
    have hk2 : k < W.heap.size := Nat.lt_of_lt_of_le hk hS.below.size
    rw [hother k (by omega)]
    have h1 : ¬ E1.Z k := fun h => by
      rcases h.1 with h | h
      · exact hz h
      · omega
    rw [hS'.below.block k (by show k < W1.heap.size; omega) h1]
    show W1.heap[k]? = _
    rw [hbel.block k hk2]
    exact hS.below.block k hk hz
  have hS3 : Sim C.Θ E3 s' a.tmps w4 bx' rw' := by
    refine hdrop.move hg4 ⟨rfl, rfl, rfl, Nat.le_refl _, fun _ _ _ => rfl⟩ rfl rfl (fun b hm ho => .inl (hmut' b hm)) (fun b hb' => ⟨?_, by rw [hs4]; exact hb'.2.1, hb'.2.2⟩) (fun q e => ?_)
    · rcases hb'.1 with h1 | h1
      · rcases h1.1 with h2 | h2
        · exact .inl h2
        · exact absurd h2 h1.2
      · exact .inr (.inl ⟨h1, hb'.2.1⟩)
    · cases e
      refine ⟨fun hf => ?_, fun hm => hnotL (hmut' _ hm).1⟩
      rcases hf.1 with h1 | h1
      · exact h1.2 rfl
      · exact hnotL h1
  have hb3 : Rebase E E3 := by
    obtain ⟨Ds, hDs, hnd, hD⟩ := hb.marks
    refine ⟨?_, ?_, ?_, ?_, fun b hz => hb.own b ?_, fun k hk hz => ?_, fun b hf => hb.F b hf.1, hb.PB, hb.PR, W.heap.size :: Ds, by show mark W.heap.size :: E2.D = _; rw [hDs]; rfl, ?_, fun D hm => ?_⟩
    · show w4.os = _; rw [hg4.os, hS'.below.os]; show W1.os = _; rw [hbel.os, hS.below.os, hb.os]
    · show w4.tape = _; rw [hg4.tape, hS'.below.tape]; show W1.tape = _; rw [hbel.tape, hS.below.tape, hb.tape]
    · show w4.output = _; rw [hg4.output, hS'.below.output]; show W1.output = _; rw [hbel.output, hS.below.output, hb.output]
    · have h1 := hb.size
      have h2 := hS.below.size
      have h3 : W1.heap.size ≤ w'.heap.size := hS'.below.size
      show _ ≤ w4.heap.size
      omega
    · rcases hz with hz | hz
      · exact (hO1 b hz.1).1
      · have hz : w4.heap.size ≤ b := hz
        have h3 : W1.heap.size ≤ w'.heap.size := hS'.below.size
        exact Env.own_new hS.below (by omega)
    · obtain ⟨h1, h2⟩ := hb.keep k hk hz
      refine ⟨fun h3 => ?_, (hchain k (Nat.lt_of_lt_of_le hk hb.size) h1).trans h2⟩
      rcases hb.own k (hO1 k h3.1).1 with h4 | h4
      · exact hz h4
      · omega
    · refine List.nodup_cons.2 ⟨fun hm => ?_, hnd⟩
      have := (hD _ hm).1.1
      have h2 := hS.below.size
      omega
    · rcases List.mem_cons.1 hm with e | e
      · subst e
        have h3 : W1.heap.size ≤ w'.heap.size := hS'.below.size
        have h1 := hb.size
        have h2 := hS.below.size
        exact ⟨⟨by show _ < w4.heap.size; omega, fun h => (hO1 _ h.1).2.1 rfl, (hother _ (by omega)).trans hk'⟩, fun h => by have := h.2; omega, by omega⟩
      · obtain ⟨⟨d1, d2, d3⟩, d4, d5⟩ := hD D e
        have h2 := hS.below.size
        have h3 : W1.heap.size ≤ w'.heap.size := hS'.below.size
        refine ⟨⟨by show _ < w4.heap.size; omega, fun h => ?_, (hchain D d1 d2).trans d3⟩, fun h => d4 h.1, d5⟩
        rcases (hO1 D h.1).1 with h4 | h4
        · exact d2 h4
        · omega
  refine hK E3 .normal s' _ w4 hb3 h ⟨?_, bx', rw', hS3⟩
  show _ :: a.defers = mark W.heap.size :: E2.D
  rw [hd]; rfl
theorem allZ_some {Z A : Type} {R : Z → Prop} {K : Z → Option A} {r : A} (h : allZ R K = some r) : ∀ z, R z → K z = some r := by
  unfold allZ at h
  split at h <;> try (cases h; done)
  rename_i hx
  cases h
  exact Classical.choose_spec hx
theorem findN_mem {T : TypeId → Type} {l : List (Nat × NSpec T)} {g : Nat} {ns : NSpec T} (h : findN l g = some ns) : (g, ns) ∈ l := by
  induction l with
  | nil => cases h
  | cons p l ih =>
    simp only [findN] at h
    split at h
    · rename_i e; cases h; rw [← e]; simp
    · exact List.mem_cons_of_mem _ (ih h)
/-- A call whose contract says a relation. -/
theorem amb_ok (hC : C.Ok) (hF : FX F) {R : Type} {s : St C.Θ.T} {K : Ex → St C.Θ.T → Option R} {r : R} {o : Oper} {q : NSpec C.Θ.T × Nat × List Operand} (hq : ambOf C o = some q) {a : Act} {W : World} {Q : Exit → Act → World → Prop} (hb : Rebase E E2) (h0 : At C.Θ E2 s a W)
    (h : ambC C s q o.dst (K .normal) = some r) (hK : Ends K r E Q) : o.wpIn F m C.P a W (fun a' w' => Q .normal a' w') Q := by
  obtain ⟨ns, g, xs⟩ := q
  have ho : ∃ args ats, o.op = .call ⟨.value (.func g), args, ats⟩ ∧ args.toList = xs ∧ findN C.N g = some ns := by
    unfold ambOf at hq
    split at hq <;> try (cases hq; done)
    rename_i c hop _
    obtain ⟨callee, args, ats⟩ := c
    split at hq <;> try (cases hq; done)
    rename_i g' hc
    simp only at hc
    split at hq <;> try (cases hq; done)
    rename_i ns' hn
    cases hq
    exact ⟨args, ats, by rw [hop, hc], rfl, hn⟩
  obtain ⟨args, ats, hop, rfl, hn⟩ := ho
  have hN := hC.N _ (findN_mem hn)
  obtain ⟨hd, bx, rw_, hS⟩ := h0
  unfold ambC at h
  simp only at h
  split at h <;> try (cases h; done)
  rename_i y hy
  split at h <;> try (cases h; done)
  rename_i hfl
  have hz := allZ_some h
  have hr : ready (flatE C.Θ) (St.cellsAt C.Θ) [(g, ns.none_)] s g (args.toList.map s.ev) = some ⟨s, ns.none_, args.toList.map s.ev, y⟩ := by
    unfold ready
    have : findSpec (flatE C.Θ) (St.cellsAt C.Θ) [(g, ns.none_)] g s (args.toList.map s.ev) = some ⟨ns.none_, y⟩ := by
      simp only [findSpec, if_true, hy]
    rw [this]
    simp only
    have hfl' : (flatOuts (flatE C.Θ) ns.none_.outs || y.hs.all notRow) = true := hfl
    rw [if_pos hfl']
  obtain ⟨E', bx1, rw1, h1, h2, h3, h4, h5⟩ := call_env (a := a) hS hd (evs_ok hS args.toList) hr hN.lent
  have hnd : ∀ c, o.op ≠ .defer c := by rw [hop]; intro c e; cases e
  refine ⟨fun f _ => hF.fn f, ?_⟩
  rw [Oper.semAt_plain F _ o hnd]
  have hrun : (execOp a.eval o).run C.P W = .ok (.enter g (args.map a.eval)) W := by
    have := hN.enters (args.map a.eval) W
    simp [execOp, hop, resolve, Deferred.ofValue, Act.eval, invoke, this]
  rw [hrun, Oper.uponIn_enter]
  refine ⟨hF.depth m, hF.calls ?_⟩
  have hvs : args.map a.eval = (args.toList.map a.eval).toArray := by apply Array.ext'; simp
  rw [hvs]
  have hc := hN.calls y.x E' (args.toList.map a.eval) bx1 rw1 h2 (by rw [h1]; exact h4)
  rw [h1] at hc
  refine Calls.mono hc ?_
  rintro e w' ⟨z, hRz, hp⟩
  have hk := hz z hRz
  obtain ⟨qq, _, x, _, hto⟩ := outTo_some ns.outs (fun _ _ _ => ()) z
  rw [hto] at hk
  split at hk <;> try (cases hk; done)
  rename_i hret
  split at hk <;> try (cases hk; done)
  rename_i s' hs'
  obtain ⟨v, rfl, hat⟩ := h5 o.dst s' z qq x hret hs' hto e w' hp
  exact hK E2 .normal s' _ w' hb hk hat
theorem ops_pre (hC : C.Ok) (hF : FX F) {ops : Array Oper} {Q : Exit → Act → World → Prop} (is2 : List Nat) : ∀ (is : List Nat) (l : List Oper) (s s' : St C.Θ.T) (a : Act) (W : World), is.map (fun i => ops[i]?) = l.map some → At C.Θ E s a W → opsD C ops l s = some s' →
    (∀ a' w', At C.Θ E s' a' w' → wpOpsIn F m C.P ops Q is2 a' w') → wpOpsIn F m C.P ops Q (is ++ is2) a W := by
  intro is
  induction is with
  | nil =>
    intro l s s' a W hm h0 h hQ
    cases l with
    | nil => cases h; exact hQ a W h0
    | cons o l => simp at hm
  | cons i is ih =>
    intro l s s' a W hm h0 h hQ
    cases l with
    | nil => simp at hm
    | cons o l =>
      simp only [List.map_cons, List.cons.injEq] at hm
      simp only [opsD] at h
      split at h <;> try (cases h; done)
      rename_i s1 h1
      rw [List.cons_append, wpOpsIn_cons]
      exact wpOpIn_mono (fun a' w' h' => ih l s1 s' a' w' hm.2 h' h hQ) (guard_okIn (n := m) hC hF h0 hm.1 h1)
/-- A region in the text's order; its last operation may be a call whose contract says a relation. -/
theorem reg_ok (hC : C.Ok) (hF : FX F) {R : Type} {id : Nat} {ops : Array Oper} {s : St C.Θ.T} {K : Ex → St C.Θ.T → Option R} {r : R} {a : Act} {W : World} {Q : Exit → Act → World → Prop} (hb : Rebase E E2) (h0 : At C.Θ E2 s a W)
    (h : regC C ops s (K .normal) = some r) (hK : Ends K r E Q) : (Code.region id ops false).wpIn F m C.P Q a W := by
  have plain : opsC C ops ops.toList [] s (K .normal) = some r → (Code.region id ops false).wpIn F m C.P Q a W := by
    intro hj
    rw [opsC_eq ops _ [] s _ (fun d b hb => by simp [look] at hb)] at hj
    cases ho : opsD C ops ops.toList s with
    | none => simp [ho] at hj
    | some s' =>
      simp only [ho, Option.bind_some] at hj
      exact wpIn_region (ops_okIn hC hF _ _ s s' a W (range_map ops) h0 ho fun a' w' h' => hK E2 .normal s' a' w' hb hj h')
  unfold regC at h
  split at h
  · exact plain h
  · rename_i o hlast
    split at h
    · exact plain h
    · rename_i q hq
      rw [opsC_eq ops _ [] s _ (fun d b hb => by simp [look] at hb)] at h
      cases ho : opsD C ops ops.toList.dropLast s with
      | none => simp [ho] at h
      | some s1 =>
        simp only [ho, Option.bind_some] at h
        have hsplit : ops.toList = ops.toList.dropLast ++ [o] := by
          have hne : ops.toList ≠ [] := by intro e; rw [e] at hlast; cases hlast
          have h1 := List.dropLast_concat_getLast hne
          rw [List.getLast?_eq_some_getLast hne] at hlast
          cases hlast
          exact h1.symm
        obtain ⟨pre, hpre⟩ : ∃ pre, ops.toList.dropLast = pre := ⟨_, rfl⟩
        rw [hpre] at hsplit ho
        have hsz : ops.size = pre.length + 1 := by
          have := congrArg List.length hsplit
          simpa using this
        have hrm := range_map ops
        rw [hsz, List.range_succ, hsplit, List.map_append, List.map_append] at hrm
        have hrm' : (List.range pre.length).map (fun i => ops[i]?) = pre.map some ∧ ops[pre.length]? = some o := by
          have := List.append_inj hrm (by simp)
          exact ⟨this.1, by simpa using this.2⟩
        refine wpIn_region ?_
        rw [hsz, List.range_succ]
        refine ops_pre hC hF _ _ _ s s1 a W hrm'.1 h0 ho fun a' w' h' => ?_
        rw [wpOpsIn_cons]
        unfold wpOpIn
        have hgd : o.guard = none := by
          unfold ambOf at hq
          split at hq <;> try (cases hq; done)
          assumption
        have hw : Region.wanted o (yielded ops a'.tmps) = true := by simp [Region.wanted, hgd]
        simp only [hrm'.2, hw, if_true]
        exact amb_ok hC hF hq hb h' h hK
theorem code_ok (hC : C.Ok) (hF : FX F) : ∀ (c : Code) {R : Type} (p : Plan) (s : St C.Θ.T) (K : Ex → St C.Θ.T → Option R) (r : R), (F.round = none ∨ noRange c = true) → codeC C n c p s K = some r → ∀ (E2 : Env) (a : Act) (W : World) (Q : Exit → Act → World → Prop), Rebase E E2 → At C.Θ E2 s a W → Ends K r E Q → c.wpIn F m C.P Q a W := by
  intro c
  induction c with
  | skip =>
    intro R p s K r hn h E2 a W Q hb h0 hK
    exact wpIn_skip (hK E2 .normal s a W hb (by simpa only [codeC] using h) h0)
  | region id ops draw =>
    intro R p s K r hn hc E2 a W Q hb h0 hK
    simp only [codeC] at hc
    obtain ⟨K', hj, hK'⟩ := joined_ok hc hK
    split at hj
    · cases hj
    · rename_i hdr
      cases draw with
      | false => exact reg_ok hC hF hb h0 hj hK'
      | true =>
      simp only [cond_true] at hj
      rw [opsC_eq ops _ [] s _ (fun d b hb => by simp [look] at hb)] at hj
      cases ho : opsD C ops ops.toList s with
      | none => simp [ho] at hj
      | some s' =>
        simp only [ho, Option.bind_some] at hj
        have hdr' : drawOk C ops = true ∨ (drawOk2 C ops = true ∧ tameOk C s ops.toList = true) := by
          by_cases hd1 : drawOk C ops = true
          · exact .inl hd1
          · right
            have hd2 : drawOk C ops = false := by simpa using hd1
            simp only [hd2, Bool.false_or, Bool.true_and, Bool.not_eq_true', Bool.not_eq_true, Bool.not_eq_false, Bool.and_eq_true] at hdr
            exact hdr
        rcases hdr' with hdr' | ⟨hdr', htm⟩
        · exact draw_okIn hC hF hdr' h0 ho fun a' w' h' => hK' E2 .normal s' a' w' hb hj h'
        · exact draw_ok2In hC hF hdr' htm h0 ho fun a' w' h' => hK' E2 .normal s' a' w' hb hj h'
  | seq x y ihx ihy =>
    intro R p s K r hn h E2 a W Q hb h0 hK
    simp only [codeC] at h
    obtain ⟨K', h, hK'⟩ := joined_ok h hK
    have hn1 : F.round = none ∨ noRange x = true := hn.imp id fun h => by simp only [noRange, Bool.and_eq_true] at h; exact h.1
    have hn2 : F.round = none ∨ noRange y = true := hn.imp id fun h => by simp only [noRange, Bool.and_eq_true] at h; exact h.2
    refine wpIn_seq (ihx _ s _ r hn1 h E2 a W _ hb h0 ?_)
    intro E3 e s' a' W' hb3 he h'
    rw [exit_then]
    cases e with
    | normal => exact ihy _ s' K' r hn2 he E3 a' W' Q hb3 h' hK'
    | exit i => exact hK' E3 (.exit i) s' a' W' hb3 he h'
    | ret => exact hK' E3 .ret s' a' W' hb3 he h'
  | cond c x y ihx ihy =>
    intro R p s K r hn h E2 a W Q hb h0 hK
    simp only [codeC] at h
    obtain ⟨K', h, hK'⟩ := joined_ok h hK
    have hn1 : F.round = none ∨ noRange x = true := hn.imp id fun h => by simp only [noRange, Bool.and_eq_true] at h; exact h.1
    have hn2 : F.round = none ∨ noRange y = true := hn.imp id fun h => by simp only [noRange, Bool.and_eq_true] at h; exact h.2
    split at h <;> try (cases h; done)
    rotate_left
    · rename_i e ht
      obtain ⟨b, hc, hbf⟩ : ∃ b, a.eval c = .bool b ∧ (e = false → b = false) := by
        obtain ⟨hd, bx, rw_, hS⟩ := h0
        have := hS.ev a rfl c
        rw [ht] at this
        exact this
      refine wpIn_cond hc ?_
      unfold nilJ at h
      cases e with
      | false =>
        rw [hbf rfl]
        exact ihy _ s K' r hn2 h E2 a W Q hb h0 hK'
      | true =>
        simp only [cond_true] at h
        unfold both at h
        split at h <;> try (cases h; done)
        rename_i he
        cases b with
        | true => exact ihx _ s K' r hn1 h E2 a W Q hb h0 hK'
        | false => exact ihy _ s K' r hn2 (he ▸ h) E2 a W Q hb h0 hK'
    rename_i t ht
    have hc : a.eval c = .bool t := by
      obtain ⟨hd, bx, rw_, hS⟩ := h0
      have := hS.ev a rfl c
      rw [ht] at this
      generalize a.eval c = u at this ⊢
      cases this
      rfl
    refine wpIn_cond hc ?_
    cases t with
    | true => exact ihx _ s K' r hn1 h E2 a W Q hb h0 hK'
    | false => exact ihy _ s K' r hn2 h E2 a W Q hb h0 hK'
  | block id c ih =>
    intro R p s K r hn h E2 a W Q hb h0 hK
    simp only [codeC] at h
    obtain ⟨K', h, hK'⟩ := joined_ok h hK
    refine wpIn_block (ih _ s _ r hn h E2 a W _ hb h0 ?_)
    intro E3 e s' a' W' hb3 he h'
    cases e with
    | normal => exact hK' E3 .normal s' a' W' hb3 he h'
    | exit i =>
      simp only at he
      simp only [Ex.exit_, Exit.inBlock]
      by_cases hi : i = id
      · rw [if_pos hi] at he ⊢
        exact hK' E3 .normal s' a' W' hb3 he h'
      · rw [if_neg hi] at he ⊢
        exact hK' E3 (.exit i) s' a' W' hb3 he h'
    | ret => exact hK' E3 .ret s' a' W' hb3 he h'
  | loop c ih =>
    intro R p s K r hn h E2 a W Q hb h0 hK
    simp only [codeC] at h
    split at h <;> try (cases h; done)
    rename_i hd es p
    split at h <;> try (cases h; done)
    rename_i x hx
    refine wpIn_loop_rounds n ?_
    have h0' := h0.ext hx
    revert h h0'
    generalize hL : (fun x => codeC C n c p (hd.st x) fun e s' => match e with
      | .normal => match hd.ext s' with
        | some x' => some (.inl x')
        | none => none
      | .exit i => match outOf es (.exit i) s' with
        | some y => some (.inr y)
        | none => none
      | .ret => match outOf es .ret s' with
        | some y => some (.inr y)
        | none => none : hd.X C.Θ.T → Option (hd.X C.Θ.T ⊕ Outs C.Θ.T es)) = L
    have key : ∀ (q : Nat) (E2 : Env) (x : hd.X C.Θ.T) (a : Act) (W : World), Rebase E E2 → (iterL q L x).bind (outTo es fun e _ s => K e s) = some r → At C.Θ E2 (hd.st x) a W → Code.roundsIn F m C.P c Q q a W := by
      intro q
      induction q with
      | zero => intro E2 x a W _ h _; cases h
      | succ q ihm =>
        intro E2 x a W hb h h0
        rw [roundsIn_succ]
        simp only [iterL] at h
        cases hz : L x with
        | none => simp [hz] at h
        | some z =>
          simp only [hz, Option.bind_some] at h
          rw [← hL] at hz
          refine ih p (hd.st x) _ z hn hz E2 a W _ hb h0 ?_
          intro E3 e s' a' W' hb3 he h'
          rw [exit_then]
          cases e with
          | normal =>
            simp only at he
            split at he <;> try (cases he; done)
            rename_i x' hx'
            cases he
            exact ihm E3 x' a' W' hb3 h (h'.ext hx')
          | exit i =>
            simp only at he
            split at he <;> try (cases he; done)
            rename_i y hy
            cases he
            obtain ⟨sh, x', h1, h2⟩ := out_ok es (.exit i) s' y hy
            simp only [Option.bind_some] at h
            rw [h2] at h
            exact hK E3 (.exit i) _ a' W' hb3 h (h'.ext h1)
          | ret =>
            simp only at he
            split at he <;> try (cases he; done)
            rename_i y hy
            cases he
            obtain ⟨sh, x', h1, h2⟩ := out_ok es .ret s' y hy
            simp only [Option.bind_some] at h
            rw [h2] at h
            exact hK E3 .ret _ a' W' hb3 h (h'.ext h1)
    exact fun h h0' => key n E2 x a W hb h h0'
  | exit id =>
    intro R p s K r hn h E2 a W Q hb h0 hK
    exact wpIn_exit (hK E2 (.exit id) s a W hb (by simpa only [codeC] using h) h0)
  | ret =>
    intro R p s K r hn h E2 a W Q hb h0 hK
    exact wpIn_ret (hK E2 .ret s a W hb (by simpa only [codeC] using h) h0)
  | rangeFunc g ps assign body iha ihb =>
    intro R p s K r hn h E2 a W Q hb h0 hK
    have hwide : F = Fence.wide := by
      rcases hn with h | h
      · rcases hF with hF | ⟨l, hF⟩
        · exact hF
        · rw [hF] at h; cases h
      · cases h
    subst hwide
    exact range_ok hC h hb h0 hK
  | scope b ih => intro R p s K r hn h; simp [codeC] at h
  | label l => intro R p s K r hn h; simp [codeC] at h
  | goto l => intro R p s K r hn h; simp [codeC] at h
  | refuse w => intro R p s K r hn h; simp [codeC] at h
/-! ### A function -/
theorem loadVar_of {P : Program} {t : TypeId} {u r : Value} {W : World} (h : (Instr.loadAt t u).run P W = .ok r W) : (do loadVar t (← asAddr u) : Sem Value).run P W = .ok r W := by
  unfold Instr.loadAt Instr.sureAddr at h
  split at h
  · simpa [asAddr] using h
  · simp [stuck] at h
def resSem (tm : Array Value) (r : ResultVar) : Sem Value := match r with
  | .tmp t => pure (tm.getD t undef)
  | .cell a t => do loadVar t (← asAddr (tm.getD a undef))
theorem results_eq (fn : Func) (tm : Array Value) : results fn tm = (do let vs ← fn.results.toList.mapM (resSem tm); pure (if h : vs.toArray.size = 1 then vs.toArray[0] else .tuple vs.toArray)) := by
  unfold results
  rw [Array.mapM_eq_mapM_toList]
  have : (fun r : ResultVar => (match r with | .tmp t => pure (tm.getD t undef) | .cell a t => do loadVar t (← asAddr (tm.getD a undef)) : Sem Value)) = resSem tm := by
    funext r; cases r <;> rfl
  rw [bind_map_left]
  congr 1
theorem results_ok {s : St C.Θ.T} {tm : Array Value} {W : World} {bx : Nat → Nat → Nat} {rw_ : Nat → Nat → Value} (hS : Sim C.Θ E s tm W bx rw_) :
    ∀ (l : List ResultVar), (∀ rv ∈ l, ∀ a t, rv = .cell a t → ∃ v, vLoad C.P C.Θ s t (s.at_ a) = some (true, v)) → ∃ us : List Value, (l.mapM (resSem tm)).run C.P W = .ok us W ∧ All2 (RAV C.Θ W (FF E s bx rw_ W) bx rw_) (l.map (resultAV C s)) us := by
  have one : ∀ (rv : ResultVar), (∀ a t, rv = .cell a t → ∃ v, vLoad C.P C.Θ s t (s.at_ a) = some (true, v)) → ∃ u, (resSem tm rv).run C.P W = .ok u W ∧ RAV C.Θ W (FF E s bx rw_ W) bx rw_ (resultAV C s rv) u := by
    intro rv h
    cases rv with
    | tmp t => exact ⟨_, rfl, hS.slots t⟩
    | cell a t =>
      obtain ⟨v, hv⟩ := h a t rfl
      obtain ⟨u, h1, h2⟩ := load_ok (P := C.P) hS hv (hS.slots a)
      exact ⟨u, loadVar_of h1, by simp only [resultAV, hv]; exact h2⟩
  intro l
  induction l with
  | nil => intro _; exact ⟨[], by simp, .nil⟩
  | cons rv l ih =>
    intro h
    obtain ⟨u, h1, h2⟩ := one rv (h rv (by simp))
    obtain ⟨us, h3, h4⟩ := ih (fun rv' hm => h rv' (by simp [hm]))
    exact ⟨u :: us, by simp [List.mapM_cons, h1, h3], .cons h2 h4⟩
theorem entry_at {E : Env} (hED : E.D = []) {fn : Func} {hin : Shape} {x : hin.X C.Θ.T} {vs : List Value} {bx : Nat → Nat → Nat} {rw_ : Nat → Nat → Value} (hS : Sim C.Θ E (hin.st x) vs.toArray E.w0 bx rw_) :
    At C.Θ E (entry C fn hin x) { tmps := vs.toArray ++ Array.replicate (fn.ntmps - vs.toArray.size) undef, defers := [] } E.w0 := by
  have hl : (hin.st x).slots.length = vs.length := by simpa using hS.len
  refine ⟨hED.symm, bx, rw_, hS.below, hS.pinB, hS.pinR, hS.rwsl, hS.boxes, hS.rows, hS.bb, hS.rr, hS.br, ?_, fun i => ?_⟩
  · simp [entry, hl]
  · have hi := hS.slots i
    unfold entry St.at_
    simp only
    rw [List.getD_eq_getElem?_getD]
    by_cases hlt : i < vs.length
    · rw [List.getElem?_append_left (by omega)]
      have e2 : (vs.toArray ++ Array.replicate (fn.ntmps - vs.toArray.size) undef).getD i undef = vs.toArray.getD i undef := by
        simp [Array.getD_eq_getD_getElem?, Array.getElem?_append_left, hlt]
      rw [e2, ← List.getD_eq_getElem?_getD]
      exact hi
    · rw [List.getElem?_append_right (by omega)]
      cases hq : (List.replicate (fn.ntmps - (hin.st x).slots.length) (AV.undef : AV C.Θ.T))[i - (hin.st x).slots.length]? with
      | none => exact trivial
      | some v =>
        have := List.mem_of_getElem? hq
        rw [List.mem_replicate] at this
        rw [this.2]
        exact trivial
theorem cellsOk_spec {s : St C.Θ.T} : ∀ {l : List ResultVar}, cellsOk C s l = true → ∀ rv ∈ l, ∀ a t, rv = .cell a t → ∃ v, vLoad C.P C.Θ s t (s.at_ a) = some (true, v) := by
  intro l
  induction l with
  | nil => intro _ rv h; cases h
  | cons x l ih =>
    intro h rv hm a t e
    cases x with
    | tmp j =>
      rcases List.mem_cons.1 hm with e' | e'
      · rw [e'] at e; cases e
      · exact ih h rv e' a t e
    | cell a' t' =>
      simp only [cellsOk, Bool.and_eq_true] at h
      rcases List.mem_cons.1 hm with e' | e'
      · rw [e'] at e
        cases e
        have := h.1
        split at this
        · rename_i c v hv; subst this; exact ⟨v, hv⟩
        · cases this
      · exact ih h.2 rv e' a t e
/-- An activation leaves, its marks on the way. -/
theorem leave_ok {fn : Func} {s : St C.Θ.T} {tm : Array Value} {bx : Nat → Nat → Nat} {rw_ : Nat → Nat → Value} {R : Ending → World → Prop} : ∀ (Ds : List Nat) (w : World),
    Sim C.Θ ⟨w, fun b => E2.Own b ∧ b < w.heap.size, E2.F, E2.PB, E2.PR, []⟩ s tm w bx rw_ → Ds.Nodup → (∀ D ∈ Ds, ¬ E2.Own D ∧ ¬ E2.F D ∧ w.heap[D]? = some (.deferred (some []))) →
    (∀ w', Sim C.Θ ⟨w', fun b => E2.Own b ∧ b < w'.heap.size, E2.F, E2.PB, E2.PR, []⟩ s tm w' bx rw_ → w'.os = w.os → w'.tape = w.tape → w'.output = w.output → w'.heap.size = w.heap.size → (∀ k, k ∉ Ds → w'.heap[k]? = w.heap[k]?) → ∃ v, (results fn tm).run C.P w' = .ok v w' ∧ R (.returned v) w') →
    LeavesInM Fence.wide m C.P fn tm R (Ds.map mark) .returning w := by
  intro Ds
  induction Ds with
  | nil =>
    intro w hS _ _ hfin
    obtain ⟨v, h1, h2⟩ := hfin w hS rfl rfl rfl rfl (fun _ _ => rfl)
    exact ⟨v, h1, h2⟩
  | cons D Ds ih =>
    intro w hS hnd hD hfin
    obtain ⟨hn1, hn2⟩ := List.nodup_cons.1 hnd
    obtain ⟨d1, d2, d3⟩ := hD D (by simp)
    have hlt : D < w.heap.size := (Array.getElem?_eq_some_iff.1 d3).1
    obtain ⟨w1, hw1⟩ : ∃ w1, w.putObj D (.deferred none) = w1 := ⟨_, rfl⟩
    have hg : w.grownBy w1 (some D) := by rw [← hw1]; exact grownBy_putObj' _ _ _
    have hs1 : w1.heap.size = w.heap.size := by rw [← hw1]; simp
    have hoth : ∀ k, k ≠ D → w1.heap[k]? = w.heap[k]? := fun k hk => by rw [← hw1]; exact World.putObj_heap_other fun e => hk (by rw [e])
    refine ⟨by simp, .inl ⟨D, w1, rfl, by rw [← hw1]; exact run_takeDeferred d3, ?_⟩⟩
    have hmut : ∀ b, Mut s bx rw_ b → E2.Own b := by
      rintro b (⟨k, B, hB, e⟩ | ⟨q, R', hR, e⟩)
      · obtain ⟨h1, cv, hh, _⟩ := hS.boxes k B hB
        rw [e] at h1 hh
        rcases h1 with h1 | h1
        · exact h1.1
        · have h1 : w.heap.size ≤ b := h1
          have := (Array.getElem?_eq_some_iff.1 hh).1
          omega
      · obtain ⟨h1, us, hown, _⟩ := hS.rows q R' hR
        rcases h1 b e with h1 | h1
        · exact h1.1
        · have h1 : w.heap.size ≤ b := h1
          have := hown.lt e
          omega
    have hmlt : ∀ b, Mut s bx rw_ b → b < w.heap.size := by
      rintro b (⟨k, B, hB, e⟩ | ⟨q, R', hR, e⟩)
      · obtain ⟨h1, cv, hh, _⟩ := hS.boxes k B hB
        rw [e] at hh
        exact (Array.getElem?_eq_some_iff.1 hh).1
      · obtain ⟨h1, us, hown, _⟩ := hS.rows q R' hR
        exact hown.lt e
    have hS1 : Sim C.Θ ⟨w1, fun b => E2.Own b ∧ b < w1.heap.size, E2.F, E2.PB, E2.PR, []⟩ s tm w1 bx rw_ := by
      refine hS.move hg ⟨rfl, rfl, rfl, Nat.le_refl _, fun _ _ _ => rfl⟩ rfl rfl (fun b hm _ => .inl ⟨hmut b hm, by rw [hs1]; exact hmlt b hm⟩) (fun b hb' => ⟨?_, by rw [hs1]; exact hb'.2.1, hb'.2.2⟩) (fun q e => ?_)
      · rcases hb'.1 with h1 | h1
        · exact .inl h1
        · rcases h1 with h1 | h1
          · exact .inr (.inl ⟨h1.1, by rw [hs1]; exact h1.2⟩)
          · have h1 : w.heap.size ≤ b := h1
            have := hb'.2.1; omega
      · cases e
        refine ⟨fun hf => ?_, fun hm => d1 (hmut _ hm)⟩
        rcases hf.1 with h1 | h1
        · exact d2 h1
        · rcases h1 with h1 | h1
          · exact d1 h1.1
          · have h1 : w.heap.size ≤ D := h1
            omega
    refine ih w1 hS1 hn2 (fun D' hm => ?_) (fun w' hS' e1 e2 e3 e4 e5 => hfin w' hS' (e1.trans hg.os) (e2.trans hg.tape) (e3.trans hg.output) (e4.trans hs1) fun k hk => ?_)
    · obtain ⟨g1, g2, g3⟩ := hD D' (by simp [hm])
      exact ⟨g1, g2, (hoth D' fun e => hn1 (e ▸ hm)).trans g3⟩
    · simp only [List.mem_cons, not_or] at hk
      exact (e5 k hk.2).trans (hoth k hk.1)
/-- A function does what 'den' says of its code. -/
theorem func_ok' (hC : C.Ok) {g : FuncId} {fn : Func} {p : Plan} {hin : Shape} {outs : List (Ex × Shape)} {F : hin.X C.Θ.T → Option (Outs C.Θ.T outs)} (hf : C.P.funcs[g]? = some fn) (hname : (fn.name == "runtime.NumGoroutine") = false)
    (hl : hin.lentOk = true) (h : ∀ x, denF C n fn p hin outs x = F x) (hb : fn.body.isSome = true) : PCalls C.P C.Θ g ⟨hin, outs, F⟩ := by
  obtain ⟨c, hb⟩ := Option.isSome_iff_exists.1 hb
  refine ⟨Go.Proofs.enters_of hf hname hb, hl, ?_⟩
  intro x z hz E vs bx rw_ hED hS
  have hz : denF C n fn p hin outs x = some z := by rw [h]; exact hz
  unfold denF at hz
  simp only [hb] at hz
  refine callsIn_wide.1 (callsIn_of_wp_marks (n := 0) hf hb trivial (code_ok (m := 0) (F := Fence.wide) hC (.inl rfl) c p _ _ z (.inl rfl) hz E _ E.w0 _ (Rebase.refl E) (entry_at hED hS) ?_))
  intro E2 e s a W hbs he h0
  obtain ⟨hd, bx, rw_, hS⟩ := h0
  have fin : ∀ hh : handsBack C fn outs s = some z, LeavesInM Fence.wide 0 C.P fn a.tmps (Post C.Θ E outs z) a.defers .returning W := by
    intro hh
    obtain ⟨Ds, hDs, hnd, hD⟩ := hbs.marks
    rw [hd, hDs, hED, List.append_nil]
    have hmlt : ∀ b, Mut s bx rw_ b → b < W.heap.size := by
      rintro b (⟨k, B, hB, e⟩ | ⟨q, R', hR, e⟩)
      · obtain ⟨_, cv, hh, _⟩ := hS.boxes k B hB
        rw [← e]; exact (Array.getElem?_eq_some_iff.1 hh).1
      · obtain ⟨_, us, hown, _⟩ := hS.rows q R' hR
        exact hown.lt e
    have hmown : ∀ b, Mut s bx rw_ b → E2.Own b := by
      rintro b (⟨k, B, hB, e⟩ | ⟨q, R', hR, e⟩)
      · rw [← e]; exact (hS.boxes k B hB).1
      · exact (hS.rows q R' hR).1 b e
    have hS0 : Sim C.Θ ⟨W, fun b => E2.Own b ∧ b < W.heap.size, E2.F, E2.PB, E2.PR, []⟩ s a.tmps W bx rw_ := by
      refine hS.move (row := none) ⟨rfl, rfl, rfl, Nat.le_refl _, fun _ _ _ => rfl⟩ ⟨rfl, rfl, rfl, Nat.le_refl _, fun _ _ _ => rfl⟩ rfl rfl (fun b hm ho => .inl ⟨ho, hmlt b hm⟩) (fun b hb' => ⟨?_, hb'.2.1, hb'.2.2⟩) (fun q e => by cases e)
      rcases hb'.1 with h1 | h1
      · exact .inl h1
      · exact .inr (.inl ⟨h1, hb'.2.1⟩)
    refine leave_ok (E2 := E2) Ds W hS0 hnd (fun D hm => ?_) (fun w' hS' e1 e2 e3 e4 e5 => ?_)
    · obtain ⟨⟨d1, d2, d3⟩, d4, d5⟩ := hD D hm
      refine ⟨fun h => ?_, d4, (hS.below.block D d1 d2).trans d3⟩
      rcases h with h | h
      · exact d2 h
      · omega
    -- the end's own world
    have hKE := hbs.keeps hS.below
    have hK' : Keeps E w' := ⟨e1.trans hKE.os, e2.trans hKE.tape, e3.trans hKE.output, by rw [e4]; exact hKE.size, fun k hk hz => by
      rw [e5 k fun hm => by have := (hD k hm).2.2; omega]
      exact hKE.block k hk hz⟩
    have hSE : Sim C.Θ E s a.tmps w' bx rw_ := by
      refine hS'.move (row := none) ⟨rfl, rfl, rfl, Nat.le_refl _, fun _ _ _ => rfl⟩ hK' hbs.PB.symm hbs.PR.symm (fun b hm _ => hbs.own b (hmown b hm)) (fun b hb' => ⟨?_, hb'.2.1, hb'.2.2⟩) (fun q e => by cases e)
      rcases hb'.1 with h1 | h1
      · exact hbs.F b h1
      · rcases h1 with h1 | h1
        · exact .inr (hbs.own b h1.1)
        · have h1 : w'.heap.size ≤ b := h1
          have := hb'.2.1; omega
    unfold handsBack at hh
    split at hh <;> try (cases hh; done)
    rename_i hc
    obtain ⟨us, h1, h2⟩ := results_ok hSE fn.results.toList (cellsOk_spec hc)
    have hS1 : Sim C.Θ E ⟨fn.results.toList.map (resultAV C s), s.boxes, s.rows⟩ us.toArray w' bx rw_ := by
      refine ⟨hSE.below, hSE.pinB, hSE.pinR, hSE.rwsl, hSE.boxes, hSE.rows, hSE.bb, hSE.rr, hSE.br, by simpa using h2.length, fun i => ?_⟩
      simp only [St.at_, List.getD_eq_getElem?_getD, Array.getD_eq_getD_getElem?, List.getElem?_toArray]
      cases hi : (fn.results.toList.map (resultAV C s))[i]? with
      | none => exact trivial
      | some v =>
        obtain ⟨u, hu, hr⟩ := h2.get i hi
        simp only [hu, Option.getD_some]
        exact hr
    obtain ⟨sh, x', hx', hto⟩ := out_ok _ _ _ _ hh
    obtain ⟨bx', rw', hS2⟩ := ext_ok hS1 hx'
    have hr : (results fn a.tmps).run C.P w' = .ok (tupleOf us) w' := by
      rw [results_eq, Sem.run_bind, h1]
      rfl
    refine ⟨_, hr, ?_⟩
    unfold Post
    rw [hto]
    exact ⟨rfl, us, bx', rw', rfl, hS2⟩
  cases e with
  | exit i => cases he
  | normal => exact fin he
  | ret => exact fin he
end
end Go.Den
