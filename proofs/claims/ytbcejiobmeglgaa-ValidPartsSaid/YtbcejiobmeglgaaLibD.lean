/- The evaluator of the model's code on typed values, and that it tells the truth: part D. -/
import Derived.OrdersIn
import Derived.OwnWalkIn
import Derived.RangeFuncCalls
import Derived.RangeFuncLeaves
import Derived.RangeFuncFrom
import Derived.LoopNIn
import Derived.ControlIn
import Derived.LoopN
import Derived.Laws.Sem
import Derived.Laws.StructEq
import GoSem.ClaimChange
import Derived.DataReads
import Derived.ChangeArms
import Derived.OpenShut
import Derived.ChangeOld
import Derived.DataElems
import Derived.Test.YtbcejiobmeglgaaLibC
namespace Go.Den
open Go Go.RowKit
def FX (F : Fence) : Prop := F = Fence.wide ∨ ∃ l, F = Fence.wide.inRound l
section
variable {F : Fence} {n : Nat} {P : Program}
theorem FX.fn (h : FX F) (f : FuncId) : F.fn f := by
  rcases h with rfl | ⟨l, rfl⟩ <;> exact trivial
theorem FX.depth (h : FX F) (m : Nat) : F.depth.isSome = true → 1 ≤ m := by
  rcases h with rfl | ⟨l, rfl⟩ <;> (intro h; cases h)
theorem FX.calls (h : FX F) {f : FuncId} {args : Array Value} {w : World} {R : Ending → World → Prop} (hc : Calls P f args w R) : CallsIn F n P f args w R := by
  rcases h with rfl | ⟨l, rfl⟩
  · exact callsIn_wide.2 hc
  · exact CallsIn.inRound l (callsIn_wide.2 hc)
theorem FX.rows (h : FX F) {row : String} {args : Array Value} {w : World} {R : Value → World → Prop} (hc : Rows P row args w R) : RowsIn F n P row args w R := by
  intro c cs _
  obtain ⟨v, w', r, s⟩ := hc c cs
  refine ⟨v, w', r, ?_⟩
  rcases h with rfl | ⟨l, rfl⟩
  · exact stepsIn_wide.2 s
  · exact (fenced_inRound P Fence.wide l ▸ stepsIn_wide.2 s)
theorem upon_in (hF : FX F) {o : Oper} {a : Act} {next : Act → World → Prop} {Q : Exit → Act → World → Prop} {r : Result Next} (h : o.upon P a next Q r) : o.uponIn F n P a next Q r := by
  cases r with
  | ok x w' =>
    cases x with
    | value v => exact h
    | skip => exact h
    | defer d => exact h
    | enter f args => exact ⟨hF.depth n, CallsIn.mono (hF.calls h) fun e w he => by cases e <;> exact he⟩
    | row row args => exact ⟨hF.depth n, hF.rows h⟩
    | _ => exact h.elim
  | halt x w' => cases x <;> first | exact h | exact h.elim
theorem FX.round (h : FX F) {l : Nat} {f : FuncId} {tmps : Array Value} {assign body : Code} {w : World} {R : Ending → World → Prop} (hc : RoundIn Fence.wide n P l f tmps assign body w R) : RoundIn F n P l f tmps assign body w R := by
  rcases h with rfl | ⟨l', rfl⟩
  · exact hc
  · exact hc
end
section
variable {C : Cx} {E : Env} {s s' : St C.Θ.T} {a : Act} {W : World} {bx : Nat → Nat → Nat} {rw_ : Nat → Nat → Value} {F : Fence} {n : Nat}
theorem kvs_args {F : Nat → Prop} {l : List (KV C.Θ.T)} {us : List Value} (h : All2 (RKV C.Θ W F bx rw_) l us) : All2 (RAV C.Θ W F bx rw_) (l.map KV.av) us := by
  induction h with
  | nil => exact .nil
  | cons h t ih =>
    rename_i x _ _ _
    refine .cons ?_ ih
    cases x <;> exact h
theorem fillAs_length : ∀ (ts : List AT) (ps : List (PV C.Θ.T)), (fillAs ts ps).1.length = ts.length := by
  intro ts
  induction ts with
  | nil => intro ps; rfl
  | cons t ts ih => intro ps; simp [fillAs, ih]
theorem step_in (hC : C.Ok) (hF : FX F) (h0 : At C.Θ E s a W) {o : Oper} (h : stepD C s o = some s') (Q : Exit → Act → World → Prop) : o.wpIn F n C.P a W (fun a' w' => At C.Θ E s' a' w') Q := by
  have hnd : ∀ c, o.op ≠ .defer c := by
    intro c e
    obtain ⟨d, op, ty, pos, aft, g⟩ := o
    simp only at e
    subst e
    simp [stepD, stepC, plain1, litR, isMem, opV] at h
  refine ⟨fun f _ => hF.fn f, ?_⟩
  rw [Oper.semAt_plain F _ o hnd]
  by_cases hy : ∃ c f y l, o.op = .call c ∧ c.callee = .value f ∧ s.ev f = .yld y l
  · obtain ⟨c, f, y, l, ho, hf, hev⟩ := hy
    obtain ⟨hd, bx, rw_, hS⟩ := h0
    have hk : ∃ r, ready (flatE C.Θ) (St.cellsAt C.Θ) C.Δ s y (c.args.toList.map s.ev ++ l.map KV.av) = some r ∧ callK (flatE C.Θ) r o.dst some = some s' := by
      unfold stepD stepC at h
      rw [ho] at h
      simp only [hf, hev] at h
      split at h <;> try (cases h; done)
      rename_i r hr
      exact ⟨r, hr, h⟩
    obtain ⟨r, hr, hk⟩ := hk
    have hfv := hS.ev a rfl f
    rw [hev] at hfv
    obtain ⟨lb, R, rec, hu, hFl, hrec, hvals⟩ := hfv
    have hy := hC.Δ _ (ready_ok hr).1
    have hav := (evs_ok hS c.args.toList).append (kvs_args hvals)
    obtain ⟨E', z, bx1, rw1, hFz, hw, hD, hZ, hent, hpost⟩ := call_post hS hd hav hr hy.lent hk
    have hlen : (c.args.map a.eval).size = rec.params.size := by
      have h1 := hent.len
      have h2 : R.ps.size + R.live.length = r.sp.hin.slots.length := hy.arity R hrec.tab
      have h3 : (r.sp.hin.st r.y.x).slots.length = r.sp.hin.slots.length := by
        unfold Shape.st Shape.mk'
        exact fillAs_length _ _
      rw [h3] at h1
      simp only [List.size_toArray, List.length_append, List.length_map, Array.length_toList] at h1
      rw [hrec.ps]
      simp
      omega
    have hrun : (execOp a.eval o).run C.P W = .ok (.round lb rec.fn ((rec.params.zip (c.args.map a.eval)).foldl (fun tmps (t, a) => tmps.setIfInBounds t a) rec.tmps) rec.assign rec.body) W := by
      have := run_yield (P := C.P) hrec.at_ hlen
      simp [execOp, ho, resolve, hf, Deferred.ofValue, hu, invoke, this]
    rw [hrun, Oper.uponIn_round]
    refine ⟨hF.depth n, hF.round ?_⟩
    rw [hrec.ps, hrec.assign, hrec.body]
    have hr2 := hy.rounds _ z hFz E' lb (n - 1) R rec (c.args.toList.map a.eval) bx1 rw1 hD (by rw [hw]; exact hrec) (fun hz => hFl.2.2 (hZ lb hz)) (by rw [hw]; exact hent)
    rw [hw] at hr2
    have he : (c.args.toList.map a.eval).toArray = c.args.map a.eval := by apply Array.ext'; simp
    rw [he] at hr2
    refine hr2.mono ?_
    intro e w' hp
    obtain ⟨v, rfl, hat⟩ := hpost e w' hp
    exact hat
  · exact upon_in hF (step_ok hC h0 (fun c f y l h1 h2 h3 => hy ⟨c, f, y, l, h1, h2, h3⟩) h Q)
theorem guard_okIn (hC : C.Ok) (hF : FX F) {ops : Array Oper} {Q : Exit → Act → World → Prop} (h0 : At C.Θ E s a W) {i : Nat} {o : Oper} (hi : ops[i]? = some o) (h : guardD C ops s o = some s') :
    wpOpIn F n C.P ops Q i (fun a' w' => At C.Θ E s' a' w') a W := by
  unfold wpOpIn
  simp only [hi]
  have h00 := h0
  obtain ⟨hd, bx, rw_, hS⟩ := h0
  unfold guardD at h
  split at h
  · rename_i hg
    have hw : Region.wanted o (yielded ops a.tmps) = true := by simp [Region.wanted, hg]
    simp only [hw, if_true]
    exact step_in hC hF h00 h Q
  · rename_i j want hg
    split at h <;> try (cases h; done)
    rename_i d hj
    have hsl := hS.slots d
    split at h <;> try (cases h; done)
    · rename_i b hb
      rw [hb] at hsl
      generalize hu : a.tmps.getD d undef = u at hsl
      cases hsl
      have hy : yielded ops a.tmps j = some b := by
        unfold yielded
        rw [hj]
        have : a.tmps[d]? = some (.bool b) := by
          rw [Array.getD_eq_getD_getElem?] at hu
          cases hq : a.tmps[d]? with
          | none => rw [hq] at hu; simp [undef] at hu
          | some q => rw [hq] at hu; simp at hu; rw [hu]
        simp [this]
      split at h
      · rename_i hbw
        have hw : Region.wanted o (yielded ops a.tmps) = true := by simp [Region.wanted, hg, hy, hbw]
        simp only [hw, if_true]
        exact step_in hC hF h00 h Q
      · rename_i hbw
        have hw : Region.wanted o (yielded ops a.tmps) = false := by simp [Region.wanted, hg, hy, hbw]
        simp only [hw, Bool.false_eq_true, if_false]
        cases h
        exact ⟨fun f _ => hF.fn f, put_skip h00 o.dst⟩
    · rename_i hb
      rw [hb] at hsl
      have hu : a.tmps.getD d undef = undef := hsl
      have hy : yielded ops a.tmps j = none := by
        unfold yielded
        rw [hj]
        rw [Array.getD_eq_getD_getElem?] at hu
        cases hq : a.tmps[d]? with
        | none => simp [hq]
        | some q => rw [hq] at hu; simp at hu; simp [hq, hu, undef]
      have hw : Region.wanted o (yielded ops a.tmps) = false := by simp [Region.wanted, hg, hy]
      simp only [hw, Bool.false_eq_true, if_false]
      cases h
      exact ⟨fun f _ => hF.fn f, put_skip h00 o.dst⟩
theorem ops_okIn (hC : C.Ok) (hF : FX F) {ops : Array Oper} {Q : Exit → Act → World → Prop} : ∀ (is : List Nat) (l : List Oper) (s s' : St C.Θ.T) (a : Act) (W : World), is.map (fun i => ops[i]?) = l.map some → At C.Θ E s a W → opsD C ops l s = some s' →
    (∀ a' w', At C.Θ E s' a' w' → Q .normal a' w') → wpOpsIn F n C.P ops Q is a W := by
  intro is
  induction is with
  | nil =>
    intro l s s' a W hm h0 h hQ
    cases l with
    | nil => cases h; exact hQ a W h0
    | cons o l => simp at hm
  | cons i is ih =>
    intro l s s' a W hm h0 h hQ
    cases l with
    | nil => simp at hm
    | cons o l =>
      simp only [List.map_cons, List.cons.injEq] at hm
      simp only [opsD] at h
      split at h <;> try (cases h; done)
      rename_i s1 h1
      rw [wpOpsIn_cons]
      exact wpOpIn_mono (fun a' w' h' => ih l s1 s' a' w' hm.2 h' h hQ) (guard_okIn hC hF h0 hm.1 h1)
theorem any_okIn (hC : C.Ok) (hF : FX F) {E : Env} {ops : Array Oper} {Q : Exit → Act → World → Prop} (hdraw : drawOk C ops = true) {s' : St C.Θ.T} (hQ : ∀ a' w', At C.Θ E s' a' w' → Q .normal a' w') :
    ∀ (fuel : Nat) (listed : Array Bool) (s : St C.Θ.T) (a : Act) (W : World), listed.size = ops.size → Shut ops listed → (left_ ops.size listed).length = fuel → At C.Θ E s a W →
      opsD C ops ((left_ ops.size listed).filterMap fun i => ops[i]?) s = some s' → wpAnyIn F n C.P .any ops Q fuel listed a W := by
  have hrow : ∀ (i : Nat) (o : Oper), ops[i]? = some o → (∀ e ∈ o.after.toList, Region.binds .any e = true → e.on < i) ∧ ∀ k, k < i → pairOk C ops ((ancTab ops.toList []).getD i 0) k o = true := by
    intro i o ho
    have := List.all_eq_true.1 hdraw i (List.mem_range.2 (Array.getElem?_eq_some_iff.1 ho).1)
    simp only [rowOk, ho, Bool.and_eq_true, List.all_eq_true] at this
    refine ⟨fun e he hb => ?_, fun k hk => this.2 k (List.mem_range.2 hk)⟩
    have := this.1 e he
    simp only [hb, Bool.not_true, Bool.false_or] at this
    rw [Nat.blt_eq] at this; exact this
  intro fuel
  induction fuel with
  | zero =>
    intro listed s a W hsz hsh hlen h0 h
    have hnil : left_ ops.size listed = [] := List.eq_nil_of_length_eq_zero hlen
    rw [hnil] at h
    cases h
    refine ⟨?_, hQ a W h0⟩
    have : ∀ j, j ∉ Region.ready .any ops listed := by
      intro j hj
      obtain ⟨hu, o, ho, _⟩ := mem_ready.1 hj
      have : j ∈ left_ ops.size listed := List.mem_filter.2 ⟨List.mem_range.2 (Array.getElem?_eq_some_iff.1 ho).1, by simp only [hu]; rfl⟩
      rw [hnil] at this
      cases this
    exact List.eq_nil_iff_forall_not_mem.2 this
  | succ fuel ih =>
    intro listed s a W hsz hsh hlen h0 h
    have hne : Region.ready .any ops listed ≠ [] := by
      intro hnil
      cases hl : left_ ops.size listed with
      | nil => rw [hl] at hlen; simp at hlen
      | cons i r =>
        have hi : i ∈ left_ ops.size listed := by rw [hl]; simp
        obtain ⟨hi1, hi2⟩ := List.mem_filter.1 hi
        have hlt := List.mem_range.1 hi1
        have ho : ops[i]? = some ops[i] := Array.getElem?_eq_getElem hlt
        have : i ∈ Region.ready .any ops listed := by
          refine mem_ready.2 ⟨by simpa using hi2, ops[i], ho, fun e he hb => ?_⟩
          have hei := (hrow i _ ho).1 e (by simpa using he) hb
          by_cases hx : listed.getD e.on false = true
          · exact hx
          · exfalso
            have hm : e.on ∈ left_ ops.size listed := by
              refine List.mem_filter.2 ⟨List.mem_range.2 (by omega), ?_⟩
              have hlt' : e.on < listed.size := by omega
              simp only [Array.getD_eq_getD_getElem?, Array.getElem?_eq_getElem hlt', Option.getD_some] at hx ⊢
              simpa using hx
            have hsorted : (left_ ops.size listed).Pairwise (· < ·) := List.Pairwise.filter _ List.pairwise_lt_range
            rw [hl] at hsorted hm
            rw [List.pairwise_cons] at hsorted
            rcases List.mem_cons.1 hm with h | h
            · omega
            · have := hsorted.1 _ h; omega
        rw [hnil] at this
        cases this
    refine ⟨fun h => absurd h hne, fun i hi => ?_⟩
    obtain ⟨hu, o, ho, hall⟩ := mem_ready.1 hi
    have hlt := (Array.getElem?_eq_some_iff.1 ho).1
    have hall' : ∀ e ∈ o.after.toList, Region.binds .any e = true → listed.getD e.on false = true := fun e he hb => hall e (by simpa using he) hb
    have hmem : i ∈ left_ ops.size listed := List.mem_filter.2 ⟨List.mem_range.2 hlt, by simp only [hu]; rfl⟩
    obtain ⟨l1, l2, hsplit⟩ := List.append_of_mem hmem
    have hsorted : (left_ ops.size listed).Pairwise (· < ·) := List.Pairwise.filter _ List.pairwise_lt_range
    rw [hsplit] at hsorted
    have hs1 : ∀ k ∈ l1, k < i := fun k hk => (List.pairwise_append.1 hsorted).2.2 k hk i (by simp)
    have hs2 : ∀ k ∈ l2, i < k := fun k hk => (List.pairwise_cons.1 (List.pairwise_append.1 hsorted).2.1).1 k hk
    have hfm : (left_ ops.size listed).filterMap (fun i => ops[i]?) = l1.filterMap (fun i => ops[i]?) ++ o :: l2.filterMap (fun i => ops[i]?) := by
      rw [hsplit, List.filterMap_append, List.filterMap_cons, ho]
    rw [hfm] at h
    obtain ⟨s1, g1, g2⟩ := front _ _ _ _ (fun ok hk => by
      obtain ⟨k, hk1, hk2⟩ := List.mem_filterMap.1 hk
      have hkl : k ∈ left_ ops.size listed := by rw [hsplit]; simp [hk1]
      have hku : listed.getD k true = false := by
        have := (List.mem_filter.1 hkl).2
        simpa using this
      have := (hrow i o ho).2 k (hs1 k hk1)
      unfold pairOk at this
      rw [hk2] at this
      simp only [Bool.or_eq_true, Bool.and_eq_true] at this
      rcases this with hb | ⟨h1, h2, h3⟩
      · exfalso
        have := anc_listed hsh (fun i o ho => (hrow i o ho).1) i o ho hall' k hb
        have hkz : k < listed.size := by rw [hsz]; exact (Array.getElem?_eq_some_iff.1 hk2).1
        simp only [Array.getD_eq_getD_getElem?, Array.getElem?_eq_getElem hkz, Option.getD_some] at this hku
        rw [this] at hku; cases hku
      · exact ⟨h1, h2, h3⟩) h
    have hstep := guard_okIn (n := n) (Q := Q) hC hF h0 ho g1
    have hl' : left_ ops.size (listed.setIfInBounds i true) = l1 ++ l2 := by
      have : left_ ops.size (listed.setIfInBounds i true) = (left_ ops.size listed).filter fun k => k != i := by
        unfold left_
        rw [List.filter_filter]
        apply List.filter_congr
        intro k hk
        by_cases hki : k = i
        · subst hki
          have hkz : k < listed.size := by omega
          simp [Array.getD_eq_getD_getElem?, hkz]
        · rw [getD_set_ne true (fun e => hki e.symm)]
          simp [hki]
      rw [this, hsplit, List.filter_append, List.filter_cons]
      have f1 : l1.filter (fun k => k != i) = l1 := List.filter_eq_self.2 fun k hk => by have := hs1 k hk; simp; omega
      have f2 : l2.filter (fun k => k != i) = l2 := List.filter_eq_self.2 fun k hk => by have := hs2 k hk; simp; omega
      simp [f1, f2]
    refine wpOpIn_mono (fun a' w' h' => ih (listed.setIfInBounds i true) s1 a' w' (by simpa using hsz) ?_ ?_ h' ?_) hstep
    · intro m om hom hm e he hb
      by_cases hmi : m = i
      · subst hmi
        rw [ho] at hom
        cases hom
        exact getD_set_true (hall' e he hb)
      · rw [getD_set_ne false (fun e => hmi e.symm)] at hm
        exact getD_set_true (hsh m om hom hm e he hb)
    · rw [hl']
      rw [hsplit] at hlen
      simp at hlen ⊢
      omega
    · rw [hl', List.filterMap_append]
      exact g2
theorem draw_okA (hC : C.Ok) (hF : FX F) {E : Env} {ops : Array Oper} {Q : Exit → Act → World → Prop} (hdraw : drawOk C ops = true) {s s' : St C.Θ.T} {a : Act} {W : World} (h0 : At C.Θ E s a W)
    (h : opsD C ops ops.toList s = some s') (hQ : ∀ a' w', At C.Θ E s' a' w' → Q .normal a' w') : wpAnyIn F n C.P .any ops Q ops.size (Array.replicate ops.size false) a { W with drawn := W.drawn + 1 } := by
  have hl : left_ ops.size (Array.replicate ops.size false) = List.range ops.size := by
    unfold left_
    refine List.filter_eq_self.2 fun i hi => ?_
    have := List.mem_range.1 hi
    simp [Array.getD_eq_getD_getElem?, this]
  refine any_okIn hC hF hdraw hQ ops.size _ s a _ (by simp) ?_ (by rw [hl]; simp) ?_ ?_
  · intro m o _ hm
    exfalso
    by_cases hm' : m < ops.size <;> simp [Array.getD_eq_getD_getElem?, hm'] at hm
  · obtain ⟨hd, bx, rw_, hS⟩ := h0
    exact ⟨hd, bx, rw_, hS.later ⟨rfl, rfl, rfl, Nat.le_refl _, fun _ _ => rfl⟩⟩
  · rw [hl]
    have : (List.range ops.size).filterMap (fun i => ops[i]?) = ops.toList := by
      have h1 := range_map ops
      have h2 : ((List.range ops.size).map fun i => ops[i]?).filterMap _root_.id = (ops.toList.map some).filterMap _root_.id := by rw [h1]
      rw [List.filterMap_map, List.filterMap_map] at h2
      simpa [Function.comp_def] using h2
    rw [this]
    exact h
theorem any_ok2In (hC : C.Ok) (hF : FX F) {E : Env} {ops : Array Oper} {Q : Exit → Act → World → Prop} (hdraw : drawOk2 C ops = true) {s' : St C.Θ.T} (hQ : ∀ a' w', At C.Θ E s' a' w' → Q .normal a' w') :
    ∀ (fuel : Nat) (listed : Array Bool) (s : St C.Θ.T) (a : Act) (W : World), listed.size = ops.size → Shut ops listed → (left_ ops.size listed).length = fuel → At C.Θ E s a W →
      ((left_ ops.size listed).filterMap fun i => ops[i]?).Pairwise (KApart C) → ((∃ q ∈ (left_ ops.size listed).filterMap fun i => ops[i]?, (kindOf C q).grow = true) → Tame ((left_ ops.size listed).filterMap fun i => ops[i]?) s) →
      opsD C ops ((left_ ops.size listed).filterMap fun i => ops[i]?) s = some s' → wpAnyIn F n C.P .any ops Q fuel listed a W := by
  have hrow : ∀ (i : Nat) (o : Oper), ops[i]? = some o → (∀ e ∈ o.after.toList, Region.binds .any e = true → e.on < i) ∧ (∀ k, k < i → pairOk2 C ops ((ancTab ops.toList []).getD i 0) k o = true) ∧ (kindOf C o = .no → ∀ j oj, i < j → ops[j]? = some oj → (kindOf C oj).grow = false) := by
    intro i o ho
    have := List.all_eq_true.1 hdraw i (List.mem_range.2 (Array.getElem?_eq_some_iff.1 ho).1)
    simp only [rowOk2, ho, Bool.and_eq_true, List.all_eq_true] at this
    refine ⟨fun e he hb => ?_, fun k hk => this.1.2 k (List.mem_range.2 hk), fun hno j oj hj hoj => ?_⟩
    · have := this.1.1 e he
      simp only [hb, Bool.not_true, Bool.false_or] at this
      rw [Nat.blt_eq] at this; exact this
    · have h2 := this.2
      rw [hno] at h2
      simp only [List.all_eq_true] at h2
      have h3 := h2 j (List.mem_range.2 (Array.getElem?_eq_some_iff.1 hoj).1)
      rw [hoj] at h3
      simp only [Bool.or_eq_true, Nat.ble_eq, Bool.not_eq_true'] at h3
      rcases h3 with h3 | h3
      · omega
      · exact h3
  intro fuel
  induction fuel with
  | zero =>
    intro listed s a W hsz hsh hlen h0 hPW hTm h
    have hnil : left_ ops.size listed = [] := List.eq_nil_of_length_eq_zero hlen
    rw [hnil] at h
    cases h
    refine ⟨?_, hQ a W h0⟩
    have : ∀ j, j ∉ Region.ready .any ops listed := by
      intro j hj
      obtain ⟨hu, o, ho, _⟩ := mem_ready.1 hj
      have : j ∈ left_ ops.size listed := List.mem_filter.2 ⟨List.mem_range.2 (Array.getElem?_eq_some_iff.1 ho).1, by simp only [hu]; rfl⟩
      rw [hnil] at this
      cases this
    exact List.eq_nil_iff_forall_not_mem.2 this
  | succ fuel ih =>
    intro listed s a W hsz hsh hlen h0 hPW hTm h
    have hne : Region.ready .any ops listed ≠ [] := by
      intro hnil
      cases hl : left_ ops.size listed with
      | nil => rw [hl] at hlen; simp at hlen
      | cons i r =>
        have hi : i ∈ left_ ops.size listed := by rw [hl]; simp
        obtain ⟨hi1, hi2⟩ := List.mem_filter.1 hi
        have hlt := List.mem_range.1 hi1
        have ho : ops[i]? = some ops[i] := Array.getElem?_eq_getElem hlt
        have : i ∈ Region.ready .any ops listed := by
          refine mem_ready.2 ⟨by simpa using hi2, ops[i], ho, fun e he hb => ?_⟩
          have hei := (hrow i _ ho).1 e (by simpa using he) hb
          by_cases hx : listed.getD e.on false = true
          · exact hx
          · exfalso
            have hm : e.on ∈ left_ ops.size listed := by
              refine List.mem_filter.2 ⟨List.mem_range.2 (by omega), ?_⟩
              have hlt' : e.on < listed.size := by omega
              simp only [Array.getD_eq_getD_getElem?, Array.getElem?_eq_getElem hlt', Option.getD_some] at hx ⊢
              simpa using hx
            have hsorted : (left_ ops.size listed).Pairwise (· < ·) := List.Pairwise.filter _ List.pairwise_lt_range
            rw [hl] at hsorted hm
            rw [List.pairwise_cons] at hsorted
            rcases List.mem_cons.1 hm with h | h
            · omega
            · have := hsorted.1 _ h; omega
        rw [hnil] at this
        cases this
    refine ⟨fun h => absurd h hne, fun i hi => ?_⟩
    obtain ⟨hu, o, ho, hall⟩ := mem_ready.1 hi
    have hlt := (Array.getElem?_eq_some_iff.1 ho).1
    have hall' : ∀ e ∈ o.after.toList, Region.binds .any e = true → listed.getD e.on false = true := fun e he hb => hall e (by simpa using he) hb
    have hmem : i ∈ left_ ops.size listed := List.mem_filter.2 ⟨List.mem_range.2 hlt, by simp only [hu]; rfl⟩
    obtain ⟨l1, l2, hsplit⟩ := List.append_of_mem hmem
    have hsorted : (left_ ops.size listed).Pairwise (· < ·) := List.Pairwise.filter _ List.pairwise_lt_range
    rw [hsplit] at hsorted
    have hs1 : ∀ k ∈ l1, k < i := fun k hk => (List.pairwise_append.1 hsorted).2.2 k hk i (by simp)
    have hs2 : ∀ k ∈ l2, i < k := fun k hk => (List.pairwise_cons.1 (List.pairwise_append.1 hsorted).2.1).1 k hk
    have hfm : (left_ ops.size listed).filterMap (fun i => ops[i]?) = l1.filterMap (fun i => ops[i]?) ++ o :: l2.filterMap (fun i => ops[i]?) := by
      rw [hsplit, List.filterMap_append, List.filterMap_cons, ho]
    rw [hfm] at h hPW hTm
    have hfr0 : ∀ ok ∈ l1.filterMap (fun i => ops[i]?), ((kindOf C ok).comm (kindOf C o) = true ∨ (moveOp ok = true ∧ callN C o = true) ∨ ((callN C ok = true ∧ natOp o = true) ∧ kindOf C ok = .no)) ∧ Oper.apart ops ok o = true := (fun ok hk => by
      obtain ⟨k, hk1, hk2⟩ := List.mem_filterMap.1 hk
      have hkl : k ∈ left_ ops.size listed := by rw [hsplit]; simp [hk1]
      have hku : listed.getD k true = false := by
        have := (List.mem_filter.1 hkl).2
        simpa using this
      have := (hrow i o ho).2.1 k (hs1 k hk1)
      unfold pairOk2 at this
      rw [hk2] at this
      simp only [Bool.or_eq_true, Bool.and_eq_true] at this
      rcases this with hb | ⟨h1, h2⟩
      · exfalso
        have := anc_listed hsh (fun i o ho => (hrow i o ho).1) i o ho hall' k hb
        have hkz : k < listed.size := by rw [hsz]; exact (Array.getElem?_eq_some_iff.1 hk2).1
        simp only [Array.getD_eq_getD_getElem?, Array.getElem?_eq_getElem hkz, Option.getD_some] at this hku
        rw [this] at hku; cases hku
      · refine ⟨?_, h2⟩
        rcases h1 with (h1 | h1) | h1
        · exact .inl h1
        · exact .inr (.inl h1)
        · refine .inr (.inr ⟨h1.1, ?_⟩)
          have h3 := h1.2
          cases hk : kindOf C ok <;> first | rfl | (rw [hk] at h3; cases h3))
    have mvP : ∀ ok : Oper, moveOp ok = true → kindOf C ok = .P := fun ok hm => by
      have : pureOp ok.op = true := by
        unfold moveOp at hm
        split at hm <;> first | (rename_i e; rw [e]; rfl) | cases hm
      unfold kindOf
      have hlr : litR C.Θ ok = false := by
        unfold moveOp at hm
        unfold litR
        split at hm <;> first | (rename_i e; rw [e]) | cases hm
      rw [hlr]
      simp only [Bool.false_eq_true, if_false]
      unfold kindOf0
      rw [if_pos this]
    have ntNo : natOp o = true → kindOf C o ≠ .no := fun hn e => by
      have hor : pureOp o.op = true ∨ readOp o.op = true := by
        unfold natOp at hn
        split at hn <;> first | (rename_i e; rw [e]; exact .inl rfl) | (rename_i e; rw [e]; exact .inr rfl) | cases hn
      have hlr : litR C.Θ o = false := by
        unfold natOp at hn
        unfold litR
        split at hn <;> first | (rename_i e; rw [e]) | cases hn
      unfold kindOf at e
      rw [hlr] at e
      simp only [Bool.false_eq_true, if_false] at e
      unfold kindOf0 at e
      rcases hor with h | h
      · rw [if_pos h] at e; cases e
      · by_cases hp : pureOp o.op = true
        · rw [if_pos hp] at e; cases e
        · rw [if_neg hp, if_pos h] at e; cases e
    have hfr : kindOf C o ≠ .no → ∀ ok ∈ l1.filterMap (fun i => ops[i]?), ((kindOf C ok).comm (kindOf C o) = true ∨ (kindOf C ok = .no ∧ callN C ok = true ∧ natOp o = true)) ∧ Oper.apart ops ok o = true := fun hno ok hk => by
      obtain ⟨h1, h2⟩ := hfr0 ok hk
      refine ⟨?_, h2⟩
      rcases h1 with h1 | ⟨h1, _⟩ | ⟨⟨h1, h3⟩, hkn⟩
      · exact .inl h1
      · left
        rw [mvP ok h1]
        cases hko : kindOf C o <;> first | rfl | exact absurd hko hno
      · exact .inr ⟨hkn, h1, h3⟩
    have hmv : kindOf C o = .no → ∀ ok ∈ l1.filterMap (fun i => ops[i]?), (moveOp ok = true ∧ callN C o = true) ∧ Oper.apart ops ok o = true := fun hno ok hk => by
      obtain ⟨h1, h2⟩ := hfr0 ok hk
      refine ⟨?_, h2⟩
      rcases h1 with h1 | h1 | ⟨⟨_, h1⟩, _⟩
      · rw [hno] at h1; cases hk : kindOf C ok <;> simp [hk, Kd.comm] at h1
      · exact h1
      · exact absurd hno (ntNo h1)
    obtain ⟨s1, g1, g2⟩ : ∃ s1, guardD C ops s o = some s1 ∧ opsD C ops (l1.filterMap (fun i => ops[i]?) ++ l2.filterMap (fun i => ops[i]?)) s1 = some s' := by
      by_cases hno : kindOf C o = .no
      · cases hl1 : l1.filterMap (fun i => ops[i]?) with
        | nil =>
          rw [hl1] at h
          simp only [List.nil_append, opsD] at h ⊢
          split at h <;> try (cases h; done)
          rename_i s1 h1
          exact ⟨s1, h1, h⟩
        | cons q l =>
          have hcn := (hmv hno q (by rw [hl1]; simp)).1.2
          rw [← hl1]
          exact frontMN hcn _ _ _ _ (fun ok hk => ⟨(hmv hno ok hk).1.1, (hmv hno ok hk).2⟩) h
      · refine front3 _ _ _ _ (hfr hno) hPW ?_ hTm h
        rw [← hfm]
        refine List.Pairwise.filterMap _ (fun a a' hR b hb c hc => ?_) (List.Pairwise.filter _ List.pairwise_lt_range)
        intro e
        exact (hrow a b hb).2.2 e a' c hR hc
    have hstep := guard_okIn (n := n) (Q := Q) hC hF h0 ho g1
    have hl' : left_ ops.size (listed.setIfInBounds i true) = l1 ++ l2 := by
      have : left_ ops.size (listed.setIfInBounds i true) = (left_ ops.size listed).filter fun k => k != i := by
        unfold left_
        rw [List.filter_filter]
        apply List.filter_congr
        intro k hk
        by_cases hki : k = i
        · subst hki
          have hkz : k < listed.size := by omega
          simp [Array.getD_eq_getD_getElem?, hkz]
        · rw [getD_set_ne true (fun e => hki e.symm)]
          simp [hki]
      rw [this, hsplit, List.filter_append, List.filter_cons]
      have f1 : l1.filter (fun k => k != i) = l1 := List.filter_eq_self.2 fun k hk => by have := hs1 k hk; simp; omega
      have f2 : l2.filter (fun k => k != i) = l2 := List.filter_eq_self.2 fun k hk => by have := hs2 k hk; simp; omega
      simp [f1, f2]
    refine wpOpIn_mono (fun a' w' h' => ih (listed.setIfInBounds i true) s1 a' w' (by simpa using hsz) ?_ ?_ h' ?_ ?_ ?_) hstep
    · intro m om hom hm e he hb
      by_cases hmi : m = i
      · subst hmi
        rw [ho] at hom
        cases hom
        exact getD_set_true (hall' e he hb)
      · rw [getD_set_ne false (fun e => hmi e.symm)] at hm
        exact getD_set_true (hsh m om hom hm e he hb)
    · rw [hl']
      rw [hsplit] at hlen
      simp at hlen ⊢
      omega
    · rw [hl', List.filterMap_append]
      exact hPW.sublist (List.Sublist.append (List.Sublist.refl _) (List.sublist_cons_self _ _))
    · rw [hl', List.filterMap_append]
      rintro ⟨q, hq, hgr⟩
      have hno : kindOf C o ≠ .no := by
        intro e
        rcases List.mem_append.1 hq with hq | hq
        · have := mvP q (hmv e q hq).1.1
          rw [this] at hgr; cases hgr
        · obtain ⟨k, hk1, hk2⟩ := List.mem_filterMap.1 hq
          have := (hrow i o ho).2.2 e k q (hs2 k hk1) hk2
          rw [this] at hgr; cases hgr
      refine step_tame hno (hTm ⟨q, ?_, hgr⟩) (fun _ => by simp) g1 (fun z hz => ?_) (fun z hz => ?_)
      · rcases List.mem_append.1 hq with hq | hq
        · exact List.mem_append_left _ hq
        · exact List.mem_append_right _ (List.mem_cons_of_mem _ hq)
      · rcases List.mem_append.1 hz with hz | hz
        · exact List.mem_append_left _ hz
        · exact List.mem_append_right _ (List.mem_cons_of_mem _ hz)
      · obtain ⟨_, p2, p3⟩ := List.pairwise_append.1 hPW
        rcases List.mem_append.1 hz with hz | hz
        · exact (p3 z hz o (by simp)).symm
        · exact (List.pairwise_cons.1 p2).1 z hz
    · rw [hl', List.filterMap_append]
      exact g2
theorem draw_ok2A (hC : C.Ok) (hF : FX F) {E : Env} {ops : Array Oper} {Q : Exit → Act → World → Prop} (hdraw : drawOk2 C ops = true) {s s' : St C.Θ.T} (htm : tameOk C s ops.toList = true) {a : Act} {W : World} (h0 : At C.Θ E s a W)
    (h : opsD C ops ops.toList s = some s') (hQ : ∀ a' w', At C.Θ E s' a' w' → Q .normal a' w') : wpAnyIn F n C.P .any ops Q ops.size (Array.replicate ops.size false) a { W with drawn := W.drawn + 1 } := by
  have hl : left_ ops.size (Array.replicate ops.size false) = List.range ops.size := by
    unfold left_
    refine List.filter_eq_self.2 fun i hi => ?_
    have := List.mem_range.1 hi
    simp [Array.getD_eq_getD_getElem?, this]
  have hlist : (List.range ops.size).filterMap (fun i => ops[i]?) = ops.toList := by
    have h1 := range_map ops
    have h2 : ((List.range ops.size).map fun i => ops[i]?).filterMap _root_.id = (ops.toList.map some).filterMap _root_.id := by rw [h1]
    rw [List.filterMap_map, List.filterMap_map] at h2
    simpa [Function.comp_def] using h2
  obtain ⟨hp, ht⟩ := tame_of htm
  refine any_ok2In hC hF hdraw hQ ops.size _ s a _ (by simp) ?_ (by rw [hl]; simp) ?_ ?_ ?_ ?_
  · intro m o _ hm
    exfalso
    by_cases hm' : m < ops.size <;> simp [Array.getD_eq_getD_getElem?, hm'] at hm
  · obtain ⟨hd, bx, rw_, hS⟩ := h0
    exact ⟨hd, bx, rw_, hS.later ⟨rfl, rfl, rfl, Nat.le_refl _, fun _ _ => rfl⟩⟩
  · rw [hl, hlist]; exact hp
  · rw [hl, hlist]; exact fun _ => ht
  · rw [hl, hlist]
    exact h
theorem any_ok3In (hC : C.Ok) (hF : FX F) {E : Env} {ops : Array Oper} {Q : Exit → Act → World → Prop} {N : List (Option Nat)} {A B : List Nat} (hAB : ∀ k ∈ A, k ∉ B) (hdraw : drawOk3 C N ops = true) {s' : St C.Θ.T} (hQ : ∀ a' w', At C.Θ E s' a' w' → Q .normal a' w') :
    ∀ (fuel : Nat) (listed : Array Bool) (s : St C.Θ.T) (a : Act) (W : World), listed.size = ops.size → Shut ops listed → (left_ ops.size listed).length = fuel → At C.Θ E s a W →
      ((left_ ops.size listed).filterMap fun i => ops[i]?).Pairwise (KApart C) → ((left_ ops.size listed).filterMap fun i => ops[i]?).Pairwise DApart → GoodW ((left_ ops.size listed).filterMap fun i => ops[i]?) s →
      RunW C ops N A B ((left_ ops.size listed).filterMap fun i => ops[i]?) s s' → wpAnyIn F n C.P .any ops Q fuel listed a W := by
  have hrow : ∀ (i : Nat) (o : Oper), ops[i]? = some o → (∀ e ∈ o.after.toList, Region.binds .any e = true → e.on < i) ∧ (∀ k, k < i → pairOk3 C N ops ((ancTab ops.toList []).getD i 0) k o = true) := by
    intro i o ho
    unfold drawOk3 at hdraw
    rw [Bool.and_eq_true] at hdraw
    have := List.all_eq_true.1 hdraw.1 i (List.mem_range.2 (Array.getElem?_eq_some_iff.1 ho).1)
    simp only [rowOk3, ho, Bool.and_eq_true, List.all_eq_true] at this
    refine ⟨fun e he hb => ?_, fun k hk => this.2 k (List.mem_range.2 hk)⟩
    have := this.1 e he
    simp only [hb, Bool.not_true, Bool.false_or] at this
    rw [Nat.blt_eq] at this; exact this
  intro fuel
  induction fuel with
  | zero =>
    intro listed s a W hsz hsh hlen h0 hPW hPD hG h
    have hnil : left_ ops.size listed = [] := List.eq_nil_of_length_eq_zero hlen
    rw [hnil] at h
    simp only [List.filterMap_nil] at h
    cases h
    refine ⟨?_, hQ a W h0⟩
    have : ∀ j, j ∉ Region.ready .any ops listed := by
      intro j hj
      obtain ⟨hu, o, ho, _⟩ := mem_ready.1 hj
      have : j ∈ left_ ops.size listed := List.mem_filter.2 ⟨List.mem_range.2 (Array.getElem?_eq_some_iff.1 ho).1, by simp only [hu]; rfl⟩
      rw [hnil] at this
      cases this
    exact List.eq_nil_iff_forall_not_mem.2 this
  | succ fuel ih =>
    intro listed s a W hsz hsh hlen h0 hPW hPD hG h
    have hne : Region.ready .any ops listed ≠ [] := by
      intro hnil
      cases hl : left_ ops.size listed with
      | nil => rw [hl] at hlen; simp at hlen
      | cons i r =>
        have hi : i ∈ left_ ops.size listed := by rw [hl]; simp
        obtain ⟨hi1, hi2⟩ := List.mem_filter.1 hi
        have hlt := List.mem_range.1 hi1
        have ho : ops[i]? = some ops[i] := Array.getElem?_eq_getElem hlt
        have : i ∈ Region.ready .any ops listed := by
          refine mem_ready.2 ⟨by simpa using hi2, ops[i], ho, fun e he hb => ?_⟩
          have hei := (hrow i _ ho).1 e (by simpa using he) hb
          by_cases hx : listed.getD e.on false = true
          · exact hx
          · exfalso
            have hm : e.on ∈ left_ ops.size listed := by
              refine List.mem_filter.2 ⟨List.mem_range.2 (by omega), ?_⟩
              have hlt' : e.on < listed.size := by omega
              simp only [Array.getD_eq_getD_getElem?, Array.getElem?_eq_getElem hlt', Option.getD_some] at hx ⊢
              simpa using hx
            have hsorted : (left_ ops.size listed).Pairwise (· < ·) := List.Pairwise.filter _ List.pairwise_lt_range
            rw [hl] at hsorted hm
            rw [List.pairwise_cons] at hsorted
            rcases List.mem_cons.1 hm with h | h
            · omega
            · have := hsorted.1 _ h; omega
        rw [hnil] at this
        cases this
    refine ⟨fun h => absurd h hne, fun i hi => ?_⟩
    obtain ⟨hu, o, ho, hall⟩ := mem_ready.1 hi
    have hlt := (Array.getElem?_eq_some_iff.1 ho).1
    have hall' : ∀ e ∈ o.after.toList, Region.binds .any e = true → listed.getD e.on false = true := fun e he hb => hall e (by simpa using he) hb
    have hmem : i ∈ left_ ops.size listed := List.mem_filter.2 ⟨List.mem_range.2 hlt, by simp only [hu]; rfl⟩
    obtain ⟨l1, l2, hsplit⟩ := List.append_of_mem hmem
    have hsorted : (left_ ops.size listed).Pairwise (· < ·) := List.Pairwise.filter _ List.pairwise_lt_range
    rw [hsplit] at hsorted
    have hs1 : ∀ k ∈ l1, k < i := fun k hk => (List.pairwise_append.1 hsorted).2.2 k hk i (by simp)
    have hs2 : ∀ k ∈ l2, i < k := fun k hk => (List.pairwise_cons.1 (List.pairwise_append.1 hsorted).2.1).1 k hk
    have hfm : (left_ ops.size listed).filterMap (fun i => ops[i]?) = l1.filterMap (fun i => ops[i]?) ++ o :: l2.filterMap (fun i => ops[i]?) := by
      rw [hsplit, List.filterMap_append, List.filterMap_cons, ho]
    rw [hfm] at h hPW hPD hG
    have hfr0 : ∀ ok ∈ l1.filterMap (fun i => ops[i]?), PairW C ops N ok o := (fun ok hk => by
      obtain ⟨k, hk1, hk2⟩ := List.mem_filterMap.1 hk
      have hkl : k ∈ left_ ops.size listed := by rw [hsplit]; simp [hk1]
      have hku : listed.getD k true = false := by
        have := (List.mem_filter.1 hkl).2
        simpa using this
      have := (hrow i o ho).2 k (hs1 k hk1)
      unfold pairOk3 at this
      rw [hk2] at this
      simp only [Bool.or_eq_true, Bool.and_eq_true] at this
      rcases this with hb | ⟨h1, h2⟩
      · exfalso
        have := anc_listed hsh (fun i o ho => (hrow i o ho).1) i o ho hall' k hb
        have hkz : k < listed.size := by rw [hsz]; exact (Array.getElem?_eq_some_iff.1 hk2).1
        simp only [Array.getD_eq_getD_getElem?, Array.getElem?_eq_getElem hkz, Option.getD_some] at this hku
        rw [this] at hku; cases hku
      · refine ⟨?_, h2⟩
        rcases h1 with (((h1 | h1) | h1) | h1) | h1
        · exact .inl h1
        · exact .inr (.inl ⟨h1.1.1, h1.1.2, h1.2⟩)
        · exact .inr (.inr (.inl ⟨h1.1.1, h1.1.2, h1.2⟩))
        · exact .inr (.inr (.inr (.inl ⟨isP_eq h1.1, h1.2⟩)))
        · exact .inr (.inr (.inr (.inr ⟨⟨h1.1.1, h1.1.2⟩, isB_eq h1.2⟩))))
    have hr := front4 hAB _ _ _ _ hfr0 hPW hPD hG h
    cases hr with
    | cons g1 hl0 hb0 ht hfz0 g2 =>
    rename_i s1
    have hstep := guard_okIn (n := n) (Q := Q) hC hF h0 ho g1
    have hl' : left_ ops.size (listed.setIfInBounds i true) = l1 ++ l2 := by
      have : left_ ops.size (listed.setIfInBounds i true) = (left_ ops.size listed).filter fun k => k != i := by
        unfold left_
        rw [List.filter_filter]
        apply List.filter_congr
        intro k hk
        by_cases hki : k = i
        · subst hki
          have hkz : k < listed.size := by omega
          simp [Array.getD_eq_getD_getElem?, hkz]
        · rw [getD_set_ne true (fun e => hki e.symm)]
          simp [hki]
      rw [this, hsplit, List.filter_append, List.filter_cons]
      have f1 : l1.filter (fun k => k != i) = l1 := List.filter_eq_self.2 fun k hk => by have := hs1 k hk; simp; omega
      have f2 : l2.filter (fun k => k != i) = l2 := List.filter_eq_self.2 fun k hk => by have := hs2 k hk; simp; omega
      simp [f1, f2]
    refine wpOpIn_mono (fun a' w' h' => ih (listed.setIfInBounds i true) s1 a' w' (by simpa using hsz) ?_ ?_ h' ?_ ?_ ?_ ?_) hstep
    · intro m om hom hm e he hb
      by_cases hmi : m = i
      · subst hmi
        rw [ho] at hom
        cases hom
        exact getD_set_true (hall' e he hb)
      · rw [getD_set_ne false (fun e => hmi e.symm)] at hm
        exact getD_set_true (hsh m om hom hm e he hb)
    · rw [hl']
      rw [hsplit] at hlen
      simp at hlen ⊢
      omega
    · rw [hl', List.filterMap_append]
      exact hPW.sublist (List.Sublist.append (List.Sublist.refl _) (List.sublist_cons_self _ _))
    · rw [hl', List.filterMap_append]
      exact hPD.sublist (List.Sublist.append (List.Sublist.refl _) (List.sublist_cons_self _ _))
    · rw [hl', List.filterMap_append]
      by_cases hno : kindOf C o = .no
      · exact ht hno
      · obtain ⟨_, p2, p3⟩ := List.pairwise_append.1 hPW
        obtain ⟨_, d2, d3⟩ := List.pairwise_append.1 hPD
        refine good_step hno hG (by simp) g1 (fun z hz => ?_) (fun z hz => ?_) (fun z hz => ?_)
        · rcases List.mem_append.1 hz with hz | hz
          · exact List.mem_append_left _ hz
          · exact List.mem_append_right _ (List.mem_cons_of_mem _ hz)
        · rcases List.mem_append.1 hz with hz | hz
          · exact (p3 z hz o (by simp)).symm
          · exact (List.pairwise_cons.1 p2).1 z hz
        · rcases List.mem_append.1 hz with hz | hz
          · exact (d3 z hz o (by simp)).symm
          · exact (List.pairwise_cons.1 d2).1 z hz
    · rw [hl', List.filterMap_append]
      exact g2
theorem dapart_of : ∀ (l : List Oper), apartKs (dstsOf l) = true → l.Pairwise DApart := by
  intro l
  induction l with
  | nil => intro _; exact .nil
  | cons x l ih =>
    intro h
    have mem : ∀ y ∈ l, ∀ d, y.dst = some d → d ∈ dstsOf l := by
      clear ih h
      induction l with
      | nil => intro y hy; cases hy
      | cons z l ih =>
        intro y hy d hd
        simp only [dstsOf]
        rcases List.mem_cons.1 hy with rfl | hy
        · rw [hd]; simp
        · have := ih y hy d hd
          split
          · exact List.mem_cons_of_mem _ this
          · exact this
    simp only [dstsOf] at h
    cases hx : x.dst with
    | none =>
      rw [hx] at h
      exact List.pairwise_cons.2 ⟨fun y _ d hd => (by rw [hx] at hd; cases hd), ih h⟩
    | some d =>
      rw [hx] at h
      simp only [apartKs, Bool.and_eq_true, Bool.not_eq_true', List.contains_eq_mem, decide_eq_false_iff_not] at h
      refine List.pairwise_cons.2 ⟨fun y hy d' hd hyd => ?_, ih h.2⟩
      rw [hx] at hd
      cases hd
      exact h.1 (mem y hy d hyd)
theorem draw_ok3A (hC : C.Ok) (hF : FX F) {E : Env} {ops : Array Oper} {Q : Exit → Act → World → Prop} {N : List (Option Nat)} {A B : List Nat} (hAB : ∀ k ∈ A, k ∉ B) (hdraw : drawOk3 C N ops = true) {s s' : St C.Θ.T} (htm : (!(ops.toList.any fun q => (kindOf C q).grow) || (tameOk C s ops.toList && cleanOk C s ops.toList)) = true) {a : Act} {W : World} (h0 : At C.Θ E s a W)
    (h : RunW C ops N A B ops.toList s s') (hQ : ∀ a' w', At C.Θ E s' a' w' → Q .normal a' w') : wpAnyIn F n C.P .any ops Q ops.size (Array.replicate ops.size false) a { W with drawn := W.drawn + 1 } := by
  have hl : left_ ops.size (Array.replicate ops.size false) = List.range ops.size := by
    unfold left_
    refine List.filter_eq_self.2 fun i hi => ?_
    have := List.mem_range.1 hi
    simp [Array.getD_eq_getD_getElem?, this]
  have hlist : (List.range ops.size).filterMap (fun i => ops[i]?) = ops.toList := by
    have h1 := range_map ops
    have h2 : ((List.range ops.size).map fun i => ops[i]?).filterMap _root_.id = (ops.toList.map some).filterMap _root_.id := by rw [h1]
    rw [List.filterMap_map, List.filterMap_map] at h2
    simpa [Function.comp_def] using h2
  have hD := hdraw
  unfold drawOk3 at hD
  rw [Bool.and_eq_true] at hD
  have hpd := dapart_of _ hD.2
  have hpt : ops.toList.Pairwise (KApart C) ∧ GoodW ops.toList s := by
    simp only [Bool.or_eq_true, Bool.not_eq_true', Bool.and_eq_true] at htm
    rcases htm with h | ⟨h1, h2⟩
    · have no : ∀ q ∈ ops.toList, (kindOf C q).grow = false := fun q hq => by
        have := List.any_eq_false.1 h q hq
        simpa using this
      refine ⟨?_, fun ⟨q, hq, hg⟩ => (by rw [no q hq] at hg; cases hg)⟩
      have : growDs C ops.toList = [] := by
        generalize ops.toList = l at no
        induction l with
        | nil => rfl
        | cons x l ih =>
          simp only [growDs, no x (by simp)]
          exact ih fun q hq => no q (by simp [hq])
      exact pw_of _ (by rw [this]; rfl) (by rw [this]; intro d hd; cases hd)
    · exact ⟨(tame_of h1).1, fun _ => ⟨(tame_of h1).2, clean_of h2⟩⟩
  refine any_ok3In hC hF hAB hdraw hQ ops.size _ s a _ (by simp) ?_ (by rw [hl]; simp) ?_ ?_ ?_ ?_ ?_
  · intro m o _ hm
    exfalso
    by_cases hm' : m < ops.size <;> simp [Array.getD_eq_getD_getElem?, hm'] at hm
  · obtain ⟨hd, bx, rw_, hS⟩ := h0
    exact ⟨hd, bx, rw_, hS.later ⟨rfl, rfl, rfl, Nat.le_refl _, fun _ _ => rfl⟩⟩
  · rw [hl, hlist]; exact hpt.1
  · rw [hl, hlist]; exact hpd
  · rw [hl, hlist]; exact hpt.2
  · rw [hl, hlist]
    exact h
end
end Go.Den
namespace Go.Den
open Go Go.RowKit
section
variable {F : Fence} {n : Nat} {P : Program}
def aheadQ (F : Fence) (n : Nat) (P : Program) (ops : Array Oper) (k : Nat) (Q : Exit → Act → World → Prop) : Exit → Act → World → Prop
  | .normal, a, w => wpOpIn F n P ops Q k (fun a' w' => Q .normal a' w') a w
  | e, a, w => Q e a w
theorem upon_ahead {ops : Array Oper} {k : Nat} {Q : Exit → Act → World → Prop} {o : Oper} {a : Act} {next next' : Act → World → Prop} (hn : ∀ a w, next a w → next' a w) {r : Result Next} (h : o.uponIn F n P a next (aheadQ F n P ops k Q) r) : o.uponIn F n P a next' Q r := by
  cases r with
  | ok x w' =>
    cases x with
    | value v => exact hn _ _ h
    | skip => exact hn _ _ h
    | defer d => exact hn _ _ h
    | enter f args => exact ⟨h.1, CallsIn.mono h.2 fun e w he => by
        cases e with
        | returned v => exact hn _ _ he
        | panicked c => exact he
        | outgrown => exact he⟩
    | row row args => exact ⟨h.1, RowsIn.mono h.2 fun v w he => hn _ _ he⟩
    | round l f tmps assign body => exact ⟨h.1, RoundIn.mono h.2 fun e w he => by
        cases e with
        | returned v => exact hn _ _ he
        | panicked c => exact he
        | outgrown => exact he⟩
    | _ => exact h.elim
  | halt x w' => cases x <;> first | exact h | exact h.elim
theorem op_ahead {pre ops : Array Oper} {k : Nat} {Q : Exit → Act → World → Prop} {i : Nat} {a : Act} {w : World} {K K' : Act → World → Prop} (hi : pre[i]? = ops[i]?) (hy : ∀ o, ops[i]? = some o → Region.wanted o (yielded pre a.tmps) = Region.wanted o (yielded ops a.tmps))
    (hK : ∀ a w, K a w → K' a w) (h : wpOpIn F n P pre (aheadQ F n P ops k Q) i K a w) : wpOpIn F n P ops Q i K' a w := by
  unfold wpOpIn at h ⊢
  rw [hi] at h
  cases ho : ops[i]? with
  | none => rw [ho] at h; exact hK _ _ h
  | some o =>
    rw [ho] at h
    simp only [hy o ho] at h
    simp only
    split at h
    · rename_i hw
      rw [if_pos hw]
      exact ⟨h.1, upon_ahead hK h.2⟩
    · rename_i hw
      rw [if_neg hw]
      exact ⟨h.1, hK _ _ h.2⟩
theorem last_spec {ops : Array Oper} {k : Nat} (h : lastOk ops k = true) : ops.size = k + 1 ∧ ∃ o, ops[k]? = some o ∧ (∀ e ∈ o.after.toList, Region.binds .any e = true → e.on < k) ∧ (∀ j, j < k → ((ancTab ops.toList []).getD k 0).testBit j = true) ∧
    ∀ i q, i < k → ops[i]? = some q → (∀ e ∈ q.after.toList, Region.binds .any e = true → e.on < i) ∧ ∀ j w, q.guard = some (j, w) → j < k := by
  unfold lastOk at h
  split at h
  · cases h
  · rename_i o ho
    simp only [Bool.and_eq_true, List.all_eq_true, List.mem_range] at h
    obtain ⟨h1, ⟨h2, h3⟩, h4⟩ := h
    refine ⟨Nat.eq_of_beq_eq_true h1, o, ho, fun e he hb => ?_, h3, fun i q hi hq => ?_⟩
    · have := h2 e he
      simp only [hb, Bool.not_true, Bool.false_or] at this
      rwa [Nat.blt_eq] at this
    · have := h4 i hi
      rw [hq] at this
      simp only [Bool.and_eq_true, List.all_eq_true] at this
      refine ⟨fun e he hb => ?_, fun j w hg => ?_⟩
      · have := this.1 e he
        simp only [hb, Bool.not_true, Bool.false_or] at this
        rwa [Nat.blt_eq] at this
      · have := this.2
        rw [hg] at this
        rwa [Nat.blt_eq] at this
theorem any_last {ops : Array Oper} {k : Nat} {Q : Exit → Act → World → Prop} (hlast : lastOk ops k = true) : ∀ (fuel : Nat) (listed : Array Bool) (a : Act) (w : World), listed.size = k → Shut (ops.toList.take k).toArray listed → (left_ k listed).length = fuel →
    wpAnyIn F n P .any (ops.toList.take k).toArray (aheadQ F n P ops k Q) fuel listed a w → wpAnyIn F n P .any ops Q (fuel + 1) (listed.push false) a w := by
  obtain ⟨hsz, o, ho, hfw, hanc, hall⟩ := last_spec hlast
  have hpre : ∀ i, i < k → (ops.toList.take k).toArray[i]? = ops[i]? := fun i hi => by simp [hi]
  have hpre2 : ∀ i, k ≤ i → (ops.toList.take k).toArray[i]? = none := fun i hi => by simp; omega
  have hfwd : ∀ (i : Nat) (q : Oper), ops[i]? = some q → ∀ e ∈ q.after.toList, Region.binds .any e = true → e.on < i := by
    intro i q hq e he hb
    have hlt : i < ops.size := (Array.getElem?_eq_some_iff.1 hq).1
    by_cases hik : i = k
    · subst hik; rw [ho] at hq; cases hq; exact hfw e he hb
    · exact (hall i q (by omega) hq).1 e he hb
  have hgp : ∀ (l : Array Bool) (i : Nat) (d : Bool), l.size = k → i < k → (l.push false).getD i d = l.getD i d := fun l i d hl hi => by
    simp only [Array.getD_eq_getD_getElem?]
    rw [Array.getElem?_push_lt (by omega)]
    rw [Array.getElem?_eq_getElem (by omega)]
  have hgk : ∀ (l : Array Bool) (d : Bool), l.size = k → (l.push false).getD k d = false := fun l d hl => by
    simp only [Array.getD_eq_getD_getElem?]
    subst hl
    simp
  have hready : ∀ (l : Array Bool) (i : Nat), l.size = k → i < k → (i ∈ Region.ready .any ops (l.push false) ↔ i ∈ Region.ready .any (ops.toList.take k).toArray l) := by
    intro l i hl hi
    rw [mem_ready, mem_ready, hgp l i _ hl hi, hpre i hi]
    constructor
    · rintro ⟨h1, q, hq, h2⟩
      refine ⟨h1, q, hq, fun e he hb => ?_⟩
      have := h2 e he hb
      rwa [hgp l e.on _ hl (by have := hfwd i q hq e (by simpa using he) hb; omega)] at this
    · rintro ⟨h1, q, hq, h2⟩
      refine ⟨h1, q, hq, fun e he hb => ?_⟩
      rw [hgp l e.on _ hl (by have := hfwd i q hq e (by simpa using he) hb; omega)]
      exact h2 e he hb
  have hshut : ∀ l : Array Bool, l.size = k → Shut (ops.toList.take k).toArray l → Shut ops (l.push false) := by
    intro l hl hs m q hq hm e he hb
    have hlt : m < ops.size := (Array.getElem?_eq_some_iff.1 hq).1
    by_cases hmk : m = k
    · subst hmk; rw [hgk l _ hl] at hm; cases hm
    · rw [hgp l m _ hl (by omega)] at hm
      rw [hgp l e.on _ hl (by have := hfwd m q hq e he hb; omega)]
      exact hs m q (by rw [hpre m (by omega)]; exact hq) hm e he hb
  intro fuel
  induction fuel with
  | zero =>
    intro listed a w hl hs hlen h
    have hnil : left_ k listed = [] := List.eq_nil_of_length_eq_zero hlen
    have hon : ∀ i, i < k → listed.getD i true = true := by
      intro i hi
      by_cases hx : listed.getD i true = true
      · exact hx
      · exfalso
        have : i ∈ left_ k listed := List.mem_filter.2 ⟨List.mem_range.2 hi, by simpa using hx⟩
        rw [hnil] at this; cases this
    have hon' : ∀ i, i < k → listed.getD i false = true := by
      intro i hi
      have := hon i hi
      simp only [Array.getD_eq_getD_getElem?, Array.getElem?_eq_getElem (show i < listed.size by omega), Option.getD_some] at this ⊢
      exact this
    have hk : k ∈ Region.ready .any ops (listed.push false) := by
      refine mem_ready.2 ⟨hgk listed _ hl, o, ho, fun e he hb => ?_⟩
      have := hfw e (by simpa using he) hb
      rw [hgp listed e.on _ hl this]
      exact hon' _ this
    refine ⟨fun e => (by rw [e] at hk; cases hk), fun i hi => ?_⟩
    have hik : i = k := by
      obtain ⟨hu, q, hq, _⟩ := mem_ready.1 hi
      have hlt : i < ops.size := (Array.getElem?_eq_some_iff.1 hq).1
      by_cases e : i = k
      · exact e
      · exfalso
        rw [hgp listed i _ hl (by omega), hon i (by omega)] at hu
        cases hu
    subst hik
    refine wpOpIn_mono (fun a' w' h' => ?_) h.2
    refine ⟨List.eq_nil_iff_forall_not_mem.2 fun j hj => ?_, h'⟩
    obtain ⟨hu, q, hq, _⟩ := mem_ready.1 hj
    have hlt : j < ops.size := (Array.getElem?_eq_some_iff.1 hq).1
    by_cases e : j = i
    · subst e
      simp [Array.getD_eq_getD_getElem?, hl] at hu
    · rw [getD_set_ne true (fun e' => e e'.symm), hgp listed j _ hl (by omega), hon j (by omega)] at hu
      cases hu
  | succ fuel ih =>
    intro listed a w hl hs hlen h
    obtain ⟨_, h⟩ := h
    have hne : Region.ready .any ops (listed.push false) ≠ [] := by
      intro hnil
      cases hq : left_ k listed with
      | nil => rw [hq] at hlen; simp at hlen
      | cons i r =>
        have hi : i ∈ left_ k listed := by rw [hq]; simp
        obtain ⟨hi1, hi2⟩ := List.mem_filter.1 hi
        have hlt := List.mem_range.1 hi1
        have : i ∈ Region.ready .any ops (listed.push false) := by
          have hoi : ops[i]? = some ops[i] := Array.getElem?_eq_getElem (by omega)
          refine mem_ready.2 ⟨by rw [hgp listed i _ hl hlt]; simpa using hi2, ops[i], hoi, fun e he hb => ?_⟩
          have hei := hfwd i _ hoi e (by simpa using he) hb
          rw [hgp listed e.on _ hl (by omega)]
          by_cases hx : listed.getD e.on false = true
          · exact hx
          · exfalso
            have hm : e.on ∈ left_ k listed := by
              refine List.mem_filter.2 ⟨List.mem_range.2 (by omega), ?_⟩
              simp only [Array.getD_eq_getD_getElem?, Array.getElem?_eq_getElem (show e.on < listed.size by omega), Option.getD_some] at hx ⊢
              simpa using hx
            have hsorted : (left_ k listed).Pairwise (· < ·) := List.Pairwise.filter _ List.pairwise_lt_range
            rw [hq] at hsorted hm
            rw [List.pairwise_cons] at hsorted
            rcases List.mem_cons.1 hm with h | h
            · omega
            · have := hsorted.1 _ h; omega
        rw [hnil] at this
        cases this
    refine ⟨fun e => absurd e hne, fun i hi => ?_⟩
    have hlt : i < k := by
      obtain ⟨hu, q, hq, hqa⟩ := mem_ready.1 hi
      have hlt : i < ops.size := (Array.getElem?_eq_some_iff.1 hq).1
      by_cases e : i = k
      · exfalso
        subst e
        rw [ho] at hq
        cases hq
        cases hq : left_ i listed with
        | nil => rw [hq] at hlen; simp at hlen
        | cons j r =>
          have hj : j ∈ left_ i listed := by rw [hq]; simp
          obtain ⟨hj1, hj2⟩ := List.mem_filter.1 hj
          have hjk := List.mem_range.1 hj1
          have := anc_listed (hshut listed hl hs) hfwd i o ho (fun e he hb => hqa e (by simpa using he) hb) j (hanc j hjk)
          rw [hgp listed j _ hl hjk] at this
          simp only [Array.getD_eq_getD_getElem?, Array.getElem?_eq_getElem (show j < listed.size by omega), Option.getD_some] at this hj2
          rw [this] at hj2
          cases hj2
      · omega
    have hip := (hready listed i hl hlt).1 hi
    have hwp := h i hip
    refine op_ahead (hpre i hlt) (fun q hq => ?_) (fun a' w' h' => ?_) hwp
    · have hg := (hall i q hlt hq).2
      unfold Region.wanted
      cases hgd : q.guard with
      | none => rfl
      | some jw =>
        obtain ⟨j, want⟩ := jw
        have hjk := hg j want hgd
        simp only [yielded, hpre j hjk]
    · have e : (listed.push false).setIfInBounds i true = (listed.setIfInBounds i true).push false := by
        apply Array.ext
        · simp
        · intro j h1 h2
          have hj : j < listed.size + 1 := by simpa using h1
          rw [Array.getElem_setIfInBounds (by simpa using hj)]
          simp only [Array.getElem_push, Array.size_setIfInBounds]
          by_cases hji : i = j
          · subst hji
            rw [if_pos rfl, dif_pos (by omega)]
            rw [Array.getElem_setIfInBounds (by omega), if_pos rfl]
          · rw [if_neg hji]
            by_cases hjl : j < listed.size
            · rw [dif_pos hjl, dif_pos hjl, Array.getElem_setIfInBounds hjl, if_neg hji]
            · rw [dif_neg hjl, dif_neg hjl]
      rw [e]
      have hshut' : Shut (ops.toList.take k).toArray (listed.setIfInBounds i true) := by
        obtain ⟨hu, q, hq, hqa⟩ := mem_ready.1 hip
        intro m om hom hm ed hed hb
        by_cases hmi : m = i
        · subst hmi
          rw [hq] at hom
          cases hom
          exact getD_set_true (hqa ed (by simpa using hed) hb)
        · rw [getD_set_ne false (fun e => hmi e.symm)] at hm
          exact getD_set_true (hs m om hom hm ed hed hb)
      have hlen' : (left_ k (listed.setIfInBounds i true)).length = fuel := by
        have e1 : left_ k (listed.setIfInBounds i true) = (left_ k listed).filter fun j => j != i := by
          unfold left_
          rw [List.filter_filter]
          apply List.filter_congr
          intro j hj
          by_cases hji : j = i
          · subst hji
            have hkz : j < listed.size := by omega
            simp [Array.getD_eq_getD_getElem?, hkz]
          · rw [getD_set_ne true (fun e => hji e.symm)]
            simp [hji]
        have hmem : i ∈ left_ k listed := by
          obtain ⟨hu, _⟩ := mem_ready.1 hip
          exact List.mem_filter.2 ⟨List.mem_range.2 hlt, by simp only [hu]; rfl⟩
        have hnd : (left_ k listed).Nodup := List.Pairwise.filter _ List.nodup_range
        rw [e1]
        have : ((left_ k listed).filter fun j => j != i) = (left_ k listed).erase i := (List.Nodup.erase_eq_filter hnd i).symm
        rw [this, List.length_erase_of_mem hmem, hlen]
        rfl
      exact ih _ a' w' (by simpa using hl) hshut' hlen' h'
end
end Go.Den
namespace Go.Den
open Go Go.RowKit
section
variable {Θ : Tab} {E E1 E2 : Env} {s : St Θ.T} {tm : Array Value} {W W' : World} {bx : Nat → Nat → Nat} {rw_ : Nat → Nat → Value}
theorem no_cell {q : Nat} {o : Obj} (hq : W.heap[q]? = some o) (ho : o.isCells = false) : ∀ ad : Addr, ad.block = q → W.cell? ad = none := by
  intro ad e
  cases hc : W.cell? ad with
  | none => rfl
  | some v =>
    obtain ⟨o', h1, h2⟩ := cells_of_cell hc
    rw [e, hq] at h1
    cases h1
    rw [ho] at h2; cases h2
theorem Globs.step {row : Option Nat} {E' : Env} (h : Globs Θ E) (hb : Keeps E W) (hg : W.grownBy W' row) (hrow : ∀ q, row = some q → ∀ ad : Addr, ad.block = q → W.cell? ad = none) (hw : E'.w0 = W') (hz : ∀ b, E'.Z b → E.Own b) : Globs Θ E' := by
  intro p hp
  obtain ⟨h1, h2, h3⟩ := h p hp
  have h4 : p.1 < W.heap.size := Nat.lt_of_lt_of_le h1 hb.size
  refine ⟨by rw [hw]; exact Nat.lt_of_lt_of_le h4 hg.size, fun hZ => ?_, fun j u hj => ?_⟩
  · rcases hz _ hZ with h' | h'
    · exact h2 h'
    · omega
  · rw [hw]
    have hc := (World.cell?_of_block (a := ⟨p.1, j, none⟩) (hb.block _ h1 h2)).trans (h3 j u hj)
    by_cases he : row = some p.1
    · rw [hrow _ he ⟨p.1, j, none⟩ rfl] at hc; cases hc
    · exact (World.cell?_of_block (hg.block _ h4 fun e => he e.symm)).trans hc
theorem Sim.move {row : Option Nat} (hS : Sim Θ E1 s tm W bx rw_) (hg : W.grownBy W' row) (hK : Keeps E2 W') (hG : Globs Θ E2) (hPB : E2.PB = E1.PB) (hPR : E2.PR = E1.PR) (hO : ∀ b, Mut s bx rw_ b → E1.Own b → E2.Own b)
    (hF : ∀ b, FF E1 s bx rw_ W b → FF E2 s bx rw_ W' b) (hrow : ∀ q, row = some q → ¬ FF E1 s bx rw_ W q ∧ ¬ Mut s bx rw_ q) : Sim Θ E2 s tm W' bx rw_ := by
  have hW : ∀ b, FF E1 s bx rw_ W b → W'.heap[b]? = W.heap[b]? := fun b hb => hg.block b hb.2.1 fun e => (hrow b e.symm).1 hb
  refine ⟨hK, hG, by rw [hPB]; exact hS.pinB, by rw [hPR]; exact hS.pinR, hS.rwsl, fun k B hB => ?_, fun r R hR => ?_, hS.bb, hS.rr, hS.br, hS.len, fun i => RAV.trans hF hW (fun _ _ => rfl) (fun _ _ => rfl) (hS.slots i)⟩
  · obtain ⟨h1, cv, hh, ha⟩ := hS.boxes k B hB
    have hm : Mut s bx rw_ (bx k B.gen) := .inl ⟨k, B, hB, rfl⟩
    have hlt : bx k B.gen < W.heap.size := (Array.getElem?_eq_some_iff.1 hh).1
    exact ⟨hO _ hm h1, cv, by rw [hg.block _ hlt fun e => (hrow _ e.symm).2 hm]; exact hh, RCs.trans hF hW (fun _ _ => rfl) (fun _ _ => rfl) ha⟩
  · obtain ⟨h1, us, ho, ha⟩ := hS.rows r R hR
    refine ⟨fun b hb => hO b (.inr ⟨r, R, hR, hb⟩) (h1 b hb), us, ho.kept hg ?_, ha.mono fun x u hx => Rep.mono hx hF hW⟩
    cases hob : ob (rw_ r R.gen) with
    | none => exact .inl rfl
    | some b => exact .inr fun e => (hrow b e.symm).2 (.inr ⟨r, R, hR, hob⟩)
section
variable {F F' : Nat → Prop} {q : Nat}
theorem Rep.drop {v : Value} {x : PV Θ.T} (hq : ∀ ad : Addr, ad.block = q → W.cell? ad = none) (hf : ∀ b, F b → b ≠ q → F' b) (h : Rep Θ W F v x) : Rep Θ W F' v x := by
  induction h with
  | int k n => exact .int k n
  | bool b => exact .bool b
  | str s => exact .str s
  | sl e l A n cap us hn hcap hz hA _ ih =>
    refine .sl e l A n cap us hn hcap hz (fun hne => ?_) (fun i j y x hy hx => ih i j y x hy hx)
    obtain ⟨ad, e1, e2, e3, e4⟩ := hA hne
    refine ⟨ad, e1, e2, fun h => ⟨hf _ (e3 h).1 fun e => ?_, (e3 h).2⟩, e4⟩
    have := e4 0 0 (List.length_pos_iff.2 hne) h
    rw [hq _ (by rw [Addr.add_block]; exact e)] at this
    cases this
theorem RCV.drop (hq : ∀ ad : Addr, ad.block = q → W.cell? ad = none) (hf : ∀ b, F b → b ≠ q → F' b) {c : CV Θ.T} {u : Value} (h : RCV Θ W F bx rw_ c u) : RCV Θ W F' bx rw_ c u := by
  cases c with
  | v x => exact Rep.drop hq hf h
  | _ => exact h
theorem RAV.drop (hq : ∀ ad : Addr, ad.block = q → W.cell? ad = none) (hf : ∀ b, F b → b ≠ q → F' b) {v : AV Θ.T} {u : Value} (hv : notYld v = true) (h : RAV Θ W F bx rw_ v u) : RAV Θ W F' bx rw_ v u := by
  have sums : ∀ (l : List (CV Θ.T ⊕ List (CV Θ.T))) (us : List Value), All2 (RSum Θ W F bx rw_) l us → All2 (RSum Θ W F' bx rw_) l us := fun l us ha => ha.mono fun a u h => by
    cases a with
    | inl c => exact RCV.drop hq hf h
    | inr cs => obtain ⟨us, e, ha⟩ := h; exact ⟨us, e, ha.mono fun _ _ h => RCV.drop hq hf h⟩
  cases v with
  | c x => exact RCV.drop hq hf h
  | agg cs => obtain ⟨us, e, ha⟩ := h; exact ⟨us, e, ha.mono fun _ _ h => RCV.drop hq hf h⟩
  | tup l => obtain ⟨us, e, ha⟩ := h; exact ⟨us, e, sums _ _ ha⟩
  | mth f l => obtain ⟨us, e, ha⟩ := h; exact ⟨us, e, sums _ _ ha⟩
  | cel xs =>
    obtain ⟨ad, e, hs, hF, hc⟩ := h
    refine ⟨ad, e, hs, fun hne => hf _ (hF hne) fun eq => ?_, fun j x hx => ?_⟩
    · cases xs with
      | nil => exact hne rfl
      | cons x xs =>
        obtain ⟨c, h1, _⟩ := hc 0 x (by simp)
        rw [hq _ (by rw [Addr.add_block]; exact eq)] at h1
        cases h1
    · obtain ⟨c, h1, h2⟩ := hc j x hx
      exact ⟨c, h1, Rep.drop hq hf h2⟩
  | yld y l => cases hv
  | _ => exact h
end
theorem Sim.drop {q : Nat} {o : Obj} (hS : Sim Θ E1 s tm W bx rw_) (hq : W.heap[q]? = some o) (ho : o.isCells = false) (hO : ¬ E1.Own q) (hny : s.slots.all notYld = true) : Sim Θ { E1 with F := fun b => E1.F b ∧ b ≠ q } s tm W bx rw_ := by
  have hcell : ∀ ad : Addr, ad.block = q → W.cell? ad = none := by
    intro ad e
    cases hc : W.cell? ad with
    | none => rfl
    | some v =>
      obtain ⟨o', h1, h2⟩ := cells_of_cell hc
      rw [e, hq] at h1
      cases h1
      rw [ho] at h2; cases h2
  have hF : ∀ b, FF E1 s bx rw_ W b → b ≠ q → FF { E1 with F := fun b => E1.F b ∧ b ≠ q } s bx rw_ W b := by
    rintro b ⟨h1, h2, h3⟩ hne
    refine ⟨?_, h2, h3⟩
    rcases h1 with h1 | h1
    · exact .inl ⟨h1, hne⟩
    · exact .inr h1
  refine ⟨⟨hS.below.os, hS.below.tape, hS.below.output, hS.below.size, hS.below.block⟩, hS.glob, hS.pinB, hS.pinR, hS.rwsl, fun k B hB => ?_, fun r R hR => ?_, hS.bb, hS.rr, hS.br, hS.len, fun i => ?_⟩
  · obtain ⟨a1, cv, hh, ha⟩ := hS.boxes k B hB
    exact ⟨a1, cv, hh, ha.mono fun _ _ h => RCV.drop hcell hF h⟩
  · obtain ⟨a1, us, ho, ha⟩ := hS.rows r R hR
    exact ⟨a1, us, ho, ha.mono fun _ _ h => Rep.drop hcell hF h⟩
  · refine RAV.drop hcell hF ?_ (hS.slots i)
    unfold St.at_
    rw [List.getD_eq_getElem?_getD]
    cases hi : s.slots[i]? with
    | none => rfl
    | some v => exact List.all_eq_true.1 hny v (List.mem_of_getElem? hi)
def mark (D : Nat) : Deferred := { target := .collected D, args := #[] }
structure Rebase (E E2 : Env) : Prop where
  os : E2.w0.os = E.w0.os
  tape : E2.w0.tape = E.w0.tape
  output : E2.w0.output = E.w0.output
  size : E.w0.heap.size ≤ E2.w0.heap.size
  own : ∀ b, E2.Own b → E.Own b
  keep : ∀ k, k < E.w0.heap.size → ¬ E.Z k → ¬ E2.Z k ∧ E2.w0.heap[k]? = E.w0.heap[k]?
  F : ∀ b, E2.F b → E.F b ∨ E.Own b
  PB : E2.PB = E.PB
  PR : E2.PR = E.PR
  marks : ∃ Ds : List Nat, E2.D = Ds.map mark ++ E.D ∧ Ds.Nodup ∧ ∀ D ∈ Ds, (D < E2.w0.heap.size ∧ ¬ E2.Z D ∧ E2.w0.heap[D]? = some (.deferred (some []))) ∧ ¬ E2.F D ∧ E.w0.heap.size ≤ D
theorem Rebase.refl (E : Env) : Rebase E E := ⟨rfl, rfl, rfl, Nat.le_refl _, fun _ h => h, fun _ _ h => ⟨h, rfl⟩, fun _ h => .inl h, rfl, rfl, [], rfl, .nil, fun _ h => by cases h⟩
theorem Rebase.keeps (h : Rebase E E2) (hK : Keeps E2 W) : Keeps E W :=
  ⟨hK.os.trans h.os, hK.tape.trans h.tape, hK.output.trans h.output, Nat.le_trans h.size hK.size, fun k hk hz => by
    obtain ⟨h1, h2⟩ := h.keep k hk hz
    exact (hK.block k (Nat.lt_of_lt_of_le hk h.size) h1).trans h2⟩
end
end Go.Den
namespace Go.Den
open Go Go.RowKit
def Ex.exit_ : Ex → Exit
  | .normal => .normal
  | .exit i => .exit i
  | .ret => .ret
  | .pan _ => .outgrown
section
variable {C : Cx} {n m : Nat} {E E2 : Env} {F : Fence}
theorem At.ext {E : Env} {s : St C.Θ.T} {a : Act} {W : World} (h0 : At C.Θ E s a W) {h : Shape} {x : h.X C.Θ.T} (hx : h.ext s = some x) : At C.Θ E (h.st x) a W := by
  obtain ⟨hd, bx, rw_, hS⟩ := h0
  obtain ⟨bx', rw', hS'⟩ := ext_ok hS hx
  exact ⟨hd, bx', rw', hS'⟩
def PanFr (C : Cx) (E : Env) (a : Act) (W : World) : Prop := ∀ p ∈ C.keep, ∃ s bx rw_ x, Sim C.Θ E s a.tmps W bx rw_ ∧ s.at_ p.1 = .c (.box p.2.1 0 0) ∧ look s.boxes p.2.1 = some ⟨0, p.2.2, [.v (.int .i64 x)]⟩
theorem keep_fr {E : Env} {s : St C.Θ.T} {a : Act} {W : World} {bx : Nat → Nat → Nat} {rw_ : Nat → Nat → Value} (hS : Sim C.Θ E s a.tmps W bx rw_) (h : keepOk C s = true) : PanFr C E a W := by
  intro p hp
  have := List.all_eq_true.1 h p hp
  rw [Bool.and_eq_true] at this
  obtain ⟨h1, h2⟩ := this
  split at h1 <;> try (cases h1; done)
  rename_i k g o e
  simp only [Bool.and_eq_true] at h1
  obtain ⟨e1, e2, e3⟩ := h1
  have e1 := Nat.eq_of_beq_eq_true e1
  have e2 := Nat.eq_of_beq_eq_true e2
  have e3 := Nat.eq_of_beq_eq_true e3
  subst e1 e2 e3
  split at h2 <;> try (cases h2; done)
  rename_i B hB
  simp only [Bool.and_eq_true] at h2
  obtain ⟨g1, g2, g3⟩ := h2
  split at g3 <;> try (cases g3; done)
  rename_i x hc
  refine ⟨s, bx, rw_, x, hS, e, ?_⟩
  rw [hB]
  obtain ⟨gn, ty, cs⟩ := B
  have g1 := Nat.eq_of_beq_eq_true g1
  have g2 := Nat.eq_of_beq_eq_true g2
  simp only at g1 g2 hc
  rw [g1, g2, hc]
structure Ends {R : Type} (K : Ex → St C.Θ.T → Option R) (r : R) (E : Env) (Q : Exit → Act → World → Prop) : Prop where
  go : ∀ E2 e s a W, (∀ ty, e ≠ .pan ty) → Rebase E E2 → K e s = some r → At C.Θ E2 s a W → Q e.exit_ a W
  pan : ∀ E2 ty s u a W, Rebase E E2 → K (.pan ty) s = some r → a.defers = E2.D → (∃ bx rw_, Sim C.Θ E2 s #[u] W bx rw_) → PanFr C E2 a W → Q (.panic [{ v := .iface ty u, recovered := false }]) a W
section
variable {R : Type} {K : Ex → St C.Θ.T → Option R} {r : R} {Q : Exit → Act → World → Prop}
theorem Ends.nrm (h : Ends K r E Q) (E2 : Env) (s : St C.Θ.T) (a : Act) (W : World) (hb : Rebase E E2) (hk : K .normal s = some r) (h0 : At C.Θ E2 s a W) : Q .normal a W := h.go E2 .normal s a W (fun _ e => by cases e) hb hk h0
theorem Ends.ext (h : Ends K r E Q) (i : Nat) (E2 : Env) (s : St C.Θ.T) (a : Act) (W : World) (hb : Rebase E E2) (hk : K (.exit i) s = some r) (h0 : At C.Θ E2 s a W) : Q (.exit i) a W := h.go E2 (.exit i) s a W (fun _ e => by cases e) hb hk h0
theorem Ends.rtn (h : Ends K r E Q) (E2 : Env) (s : St C.Θ.T) (a : Act) (W : World) (hb : Rebase E E2) (hk : K .ret s = some r) (h0 : At C.Θ E2 s a W) : Q .ret a W := h.go E2 .ret s a W (fun _ e => by cases e) hb hk h0
end
theorem joined_ok {R : Type} {p : Plan} {K : Ex → St C.Θ.T → Option R} {f : (Ex → St C.Θ.T → Option R) → Option R} {r : R} (h : joined C p K f = some r) {Q : Exit → Act → World → Prop} (hK : Ends K r E Q) :
    ∃ K', f K' = some r ∧ Ends K' r E Q := by
  unfold joined at h
  split at h
  · exact ⟨K, h, hK⟩
  · rename_i hsh _
    refine ⟨_, h, ⟨?_, fun E2 ty s u a W hb he hd hS hf => hK.pan E2 ty s u a W hb he hd hS hf⟩⟩
    intro E2 e s a W hp hb he h0
    cases e with
    | normal =>
      simp only at he
      split at he <;> try (cases he; done)
      rename_i x hx
      exact hK.nrm E2 _ a W hb he (h0.ext hx)
    | exit i => exact hK.ext i E2 s a W hb he h0
    | ret => exact hK.rtn E2 s a W hb he h0
    | pan ty => exact absurd rfl (hp ty)
theorem same_eq {e e' : Ex} (h : e.same e' = true) : e = e' := by
  cases e <;> cases e' <;> simp_all [Ex.same]
theorem out_ok {T : TypeId → Type} : ∀ (es : List (Ex × Shape)) (e : Ex) (s : St T) (y : Outs T es), outOf es e s = some y → ∃ h : Shape, ∃ x, h.ext s = some x ∧ ∀ {R : Type} (K : Ex → Shape → St T → R), outTo es K y = K e h (h.st x) := by
  intro es
  induction es with
  | nil => intro e s y h; cases h
  | cons a es ih =>
    intro e s y h
    cases es with
    | nil =>
      have h' : (if a.1.same e = true then a.2.ext s else none : Option (a.2.X T)) = some y := h
      by_cases hs : a.1.same e = true
      · rw [if_pos hs] at h'
        exact ⟨a.2, y, h', fun K => by rw [← same_eq hs]; rfl⟩
      · rw [if_neg hs] at h'; cases h'
    | cons b es =>
      have rest : ∀ {z : Outs T (b :: es)}, outOf (b :: es) e s = some z → ∃ h : Shape, ∃ x, h.ext s = some x ∧ ∀ {R : Type} (K : Ex → Shape → St T → R), outTo (a :: b :: es) K (.inr z) = K e h (h.st x) := by
        intro z hz
        obtain ⟨sh, x, h1, h2⟩ := ih e s z hz
        exact ⟨sh, x, h1, fun K => h2 K⟩
      simp only [outOf] at h
      split at h
      · rename_i hs
        split at h
        · rename_i x hx
          cases h
          exact ⟨a.2, x, hx, fun K => by rw [← same_eq hs]; rfl⟩
        · split at h <;> try (cases h; done)
          rename_i z hz
          cases h
          exact rest hz
      · split at h <;> try (cases h; done)
        rename_i z hz
        cases h
        exact rest hz
theorem exit_then {e : Ex} {next : Act → World → Prop} {Q : Exit → Act → World → Prop} {a : Act} {W : World} : Exit.then next Q e.exit_ a W = match e with
    | .normal => next a W
    | .exit i => Q (.exit i) a W
    | .ret => Q .ret a W
    | .pan _ => Q .outgrown a W := by cases e <;> rfl
theorem kvs_at {s : St C.Θ.T} {tm : Array Value} {W : World} {bx : Nat → Nat → Nat} {rw_ : Nat → Nat → Value} (hS : Sim C.Θ E s tm W bx rw_) : ∀ (live : List Nat) (vals : List (KV C.Θ.T)), kvsAt s live = some vals → All2 (RKV C.Θ W (FF E s bx rw_ W) bx rw_) vals (live.map fun i => tm.getD i undef) := by
  intro live
  induction live with
  | nil => intro vals h; cases h; exact .nil
  | cons i live ih =>
    intro vals h
    simp only [kvsAt] at h
    split at h <;> try (cases h; done)
    rename_i v hv
    split at h <;> try (cases h; done)
    rename_i l hl
    cases h
    refine .cons ?_ (ih l hl)
    have := hS.slots i
    revert this hv
    generalize s.at_ i = w
    intro hv hw
    cases w <;> simp only [KV.of] at hv <;> first | (cases hv; done) | (cases hv; exact hw)
theorem range_ok (hC : C.Ok) {R : Type} {g : Operand} {ps : Array Tmp} {assign body : Code} {p : Plan} {s : St C.Θ.T} {K : Ex → St C.Θ.T → Option R} {r : R} (h : codeC C n (.rangeFunc g ps assign body) p s K = some r) {a : Act} {W : World} {Q : Exit → Act → World → Prop}
    (hb : Rebase E E2) (h0 : At C.Θ E2 s a W) (hK : Ends K r E Q) : (Code.rangeFunc g ps assign body).wpIn Fence.wide m C.P Q a W := by
  simp only [codeC] at h
  split at h <;> try (cases h; done)
  rename_i y live
  split at h <;> try (cases h; done)
  rename_i f caps hg
  split at h <;> try (cases h; done)
  rename_i vals hvals
  unfold ifY at h
  split at h <;> try (cases h; done)
  rename_i hY
  split at h <;> try (cases h; done)
  rename_i rd hrd
  rw [callK_eq] at h
  cases hck : callK (flatE C.Θ) rd none some with
  | none => simp [hck] at h
  | some s' =>
  simp only [hck, Option.bind_some] at h
  split at h <;> try (cases h; done)
  rename_i hny
  obtain ⟨hd, bx, rw_, hS⟩ := h0
  have hgv : a.eval g = .func (.func f) #[] (caps.map fun kg => Value.pointer (some ⟨bx kg.1 kg.2, 0, none⟩)).toArray := by
    have := hS.ev a rfl g
    rw [hg] at this
    exact this
  refine wpIn_rangeFunc ?_
  intro fn hfn
  obtain ⟨rec, hrec⟩ : ∃ rec : Loop, rec = { state := .ready, pending := none, fn, tmps := a.tmps, params := ps, assign, body, defers := W.heap.size } := ⟨_, rfl⟩
  obtain ⟨W1, hW1⟩ : ∃ W1, (W.alloc (.deferred (some []))).alloc (.loop rec) = W1 := ⟨_, rfl⟩
  have hsz : W1.heap.size = W.heap.size + 2 := by rw [← hW1]; simp
  have hL1 : W1.heap[W.heap.size + 1]? = some (.loop rec) := by
    rw [← hW1]; have := World.alloc_heap_new (W.alloc (.deferred (some []))) (.loop rec); rwa [World.size_alloc] at this
  have hK1 : W1.heap[W.heap.size]? = some (.deferred (some [])) := by
    rw [← hW1]; exact (Below.heap_alloc _ _ _ (by simp)).trans (World.alloc_heap_new W _)
  have hbel : Below W.heap.size W W1 := by
    rw [← hW1]; exact ((Below.refl _ W).alloc (Nat.le_refl _) _).alloc (by simp) _
  have hg1 : W.grownBy W1 none := ⟨hbel.os, hbel.tape, hbel.output, hbel.size, fun b hb' _ => hbel.block b hb'⟩
  let E1 : Env := ⟨W1, fun b => E2.Own b ∧ b < W.heap.size, fun b => (E2.F b ∧ b < W.heap.size) ∨ b = W.heap.size + 1, E2.PB, E2.PR, E2.D⟩
  have hmlt : ∀ b, Mut s bx rw_ b → b < W.heap.size := by
    rintro b (⟨k, B, hB, e⟩ | ⟨q, R', hR, e⟩)
    · obtain ⟨_, cv, hh, _⟩ := hS.boxes k B hB
      rw [← e]; exact (Array.getElem?_eq_some_iff.1 hh).1
    · obtain ⟨_, us, hown, _⟩ := hS.rows q R' hR
      exact hown.lt e
  have hS1 : Sim C.Θ E1 s a.tmps W1 bx rw_ := by
    refine hS.move hg1 ⟨rfl, rfl, rfl, Nat.le_refl _, fun _ _ _ => rfl⟩ (hS.glob.step hS.below hg1 (fun q e => by cases e) rfl fun b h => h.1) rfl rfl (fun b hm ho => .inl ⟨ho, hmlt b hm⟩) (fun b hb' => ⟨?_, Nat.lt_of_lt_of_le hb'.2.1 hbel.size, hb'.2.2⟩) (fun q e => by cases e)
    rcases hb'.1 with h1 | h1
    · exact .inl (.inl ⟨h1, hb'.2.1⟩)
    · exact .inr (.inl ⟨h1, hb'.2.1⟩)
  have hFl : FF E1 s bx rw_ W1 (W.heap.size + 1) := ⟨.inl (.inr rfl), by omega, fun hm => by have := hmlt _ hm; omega⟩
  have hav : All2 (RAV C.Θ W1 (FF E1 s bx rw_ W1) bx rw_) (.yld y vals :: caps.map fun kg => .c (.box kg.1 kg.2 0)) (.func (.yield (W.heap.size + 1)) #[] #[] :: caps.map fun kg => Value.pointer (some ⟨bx kg.1 kg.2, 0, none⟩)) := by
    refine .cons ⟨W.heap.size + 1, _, rec, rfl, hFl, ⟨hL1, by rw [hrec], by rw [hrec], hY, by rw [hrec], by rw [hrec], by rw [hrec], by rw [hrec]; exact hS.len.symm⟩, ?_⟩ ?_
    · have := kvs_at hS1 live vals hvals
      rw [hrec]; exact this
    · have all : ∀ l : List (Nat × Nat), All2 (RAV C.Θ W1 (FF E1 s bx rw_ W1) bx rw_) (l.map fun kg => .c (.box kg.1 kg.2 0)) (l.map fun kg => Value.pointer (some ⟨bx kg.1 kg.2, 0, none⟩)) := by
        intro l
        induction l with
        | nil => exact .nil
        | cons p l ih => exact .cons rfl ih
      exact all caps
  obtain ⟨hent, hcalls⟩ := call_ok hC hS1 (a := a) (E := E1) hd hav hrd hck
  refine ⟨W.heap.size + 1, [{ target := .collected W.heap.size, args := #[] }], W1, { target := .fn (.func f) (caps.map fun kg => Value.pointer (some ⟨bx kg.1 kg.2, 0, none⟩)).toArray, args := #[.func (.yield (W.heap.size + 1)) #[] #[]] }, W1, f,
    #[.func (.yield (W.heap.size + 1)) #[] #[]] ++ (caps.map fun kg => Value.pointer (some ⟨bx kg.1 kg.2, 0, none⟩)).toArray, W1, ?_, ?_, fun _ _ => trivial, ?_, fun h => (by cases h), ?_⟩
  · rw [← hW1, hrec]; exact run_enterLoop_outer _ _ _ _ _
  · simp only [resolve, hgv]
    simp [go_sem]
  · have := hent (#[.func (.yield (W.heap.size + 1)) #[] #[]] ++ (caps.map fun kg => Value.pointer (some ⟨bx kg.1 kg.2, 0, none⟩)).toArray) W1
    unfold invoke
    simp only
    exact this
  refine callsIn_wide.2 ?_
  have hargs : #[Value.func (.yield (W.heap.size + 1)) #[] #[]] ++ (caps.map fun kg => Value.pointer (some ⟨bx kg.1 kg.2, 0, none⟩)).toArray = (Value.func (.yield (W.heap.size + 1)) #[] #[] :: caps.map fun kg => Value.pointer (some ⟨bx kg.1 kg.2, 0, none⟩)).toArray := by
    apply Array.ext'; simp
  rw [hargs]
  refine Calls.mono hcalls ?_
  rintro e w' ⟨v, rfl, _, bx', rw', hS'⟩
  have hnZ1 : ∀ b, W.heap.size ≤ b → ¬ E1.Z b := fun b hb' hz => by have := hz.2; omega
  have hl' : w'.heap[W.heap.size + 1]? = some (.loop rec) := (hS'.below.block _ (by show _ < W1.heap.size; omega) (hnZ1 _ (by omega))).trans hL1
  have hk' : w'.heap[W.heap.size]? = some (.deferred (some [])) := (hS'.below.block _ (by show _ < W1.heap.size; omega) (hnZ1 _ (Nat.le_refl _))).trans hK1
  have hend := run_endLoop (P := C.P) hl' (by rw [hrec]; simp)
  refine ⟨none, _, by rw [hrec] at hend; exact hend, ?_⟩
  obtain ⟨w4, hw4⟩ : ∃ w4, w'.putObj (W.heap.size + 1) (.loop { rec with state := .exhausted }) = w4 := ⟨_, rfl⟩
  have hw4' : w'.putObj (W.heap.size + 1) (.loop { state := .exhausted, pending := none, fn, tmps := a.tmps, params := ps, assign, body, defers := W.heap.size }) = w4 := by rw [← hw4, hrec]
  simp only
  rw [hrec] at hw4
  rw [hw4]
  have hg4 : w'.grownBy w4 (some (W.heap.size + 1)) := by rw [← hw4]; exact grownBy_putObj' _ _ _
  have hother : ∀ k, k ≠ W.heap.size + 1 → w4.heap[k]? = w'.heap[k]? := fun k hk => by rw [← hw4]; exact World.putObj_heap_other fun e => hk (by rw [e])
  have hs4 : w4.heap.size = w'.heap.size := by rw [← hw4]; simp
  have hO1 : ∀ b, E1.Own b → E2.Own b ∧ b ≠ W.heap.size ∧ b ≠ W.heap.size + 1 := by
    rintro b (hz | hz)
    · have := hz.2; exact ⟨hz.1, by omega, by omega⟩
    · have hz : W1.heap.size ≤ b := hz
      exact ⟨Env.own_new hS.below (by omega), by omega, by omega⟩
  have hnotL : ¬ E1.Own (W.heap.size + 1) := fun h => (hO1 _ h).2.2 rfl
  have hdrop := hS'.drop hl' rfl hnotL hny
  let E3 : Env := ⟨w4, fun b => E1.Own b ∧ b < w'.heap.size, fun b => E2.F b ∧ b < W.heap.size, E2.PB, E2.PR, mark W.heap.size :: E2.D⟩
  have hmut' : ∀ b, Mut s' bx' rw' b → E1.Own b ∧ b < w'.heap.size := by
    rintro b (⟨k, B, hB, e⟩ | ⟨q, R', hR, e⟩)
    · obtain ⟨h1, cv, hh, _⟩ := hS'.boxes k B hB
      rw [← e]; exact ⟨h1, (Array.getElem?_eq_some_iff.1 hh).1⟩
    · obtain ⟨h1, us, hown, _⟩ := hS'.rows q R' hR
      exact ⟨h1 b e, hown.lt e⟩
  have hchain : ∀ k, k < E2.w0.heap.size → ¬ E2.Z k → w4.heap[k]? = E2.w0.heap[k]? := by
    intro k hk hz
    have hk2 : k < W.heap.size := Nat.lt_of_lt_of_le hk hS.below.size
    rw [hother k (by omega)]
    have h1 : ¬ E1.Z k := fun h => by
      rcases h.1 with h | h
      · exact hz h
      · omega
    rw [hS'.below.block k (by show k < W1.heap.size; omega) h1]
    show W1.heap[k]? = _
    rw [hbel.block k hk2]
    exact hS.below.block k hk hz
  have hS3 : Sim C.Θ E3 s' a.tmps w4 bx' rw' := by
    refine hdrop.move hg4 ⟨rfl, rfl, rfl, Nat.le_refl _, fun _ _ _ => rfl⟩ (hdrop.glob.step hdrop.below hg4 (fun q e => by cases e; exact no_cell hl' rfl) rfl fun b h => h.1) rfl rfl (fun b hm ho => .inl (hmut' b hm)) (fun b hb' => ⟨?_, by rw [hs4]; exact hb'.2.1, hb'.2.2⟩) (fun q e => ?_)
    · rcases hb'.1 with h1 | h1
      · rcases h1.1 with h2 | h2
        · exact .inl h2
        · exact absurd h2 h1.2
      · exact .inr (.inl ⟨h1, hb'.2.1⟩)
    · cases e
      refine ⟨fun hf => ?_, fun hm => hnotL (hmut' _ hm).1⟩
      rcases hf.1 with h1 | h1
      · exact h1.2 rfl
      · exact hnotL h1
  have hb3 : Rebase E E3 := by
    obtain ⟨Ds, hDs, hnd, hD⟩ := hb.marks
    refine ⟨?_, ?_, ?_, ?_, fun b hz => hb.own b ?_, fun k hk hz => ?_, fun b hf => hb.F b hf.1, hb.PB, hb.PR, W.heap.size :: Ds, by show mark W.heap.size :: E2.D = _; rw [hDs]; rfl, ?_, fun D hm => ?_⟩
    · show w4.os = _; rw [hg4.os, hS'.below.os]; show W1.os = _; rw [hbel.os, hS.below.os, hb.os]
    · show w4.tape = _; rw [hg4.tape, hS'.below.tape]; show W1.tape = _; rw [hbel.tape, hS.below.tape, hb.tape]
    · show w4.output = _; rw [hg4.output, hS'.below.output]; show W1.output = _; rw [hbel.output, hS.below.output, hb.output]
    · have h1 := hb.size
      have h2 := hS.below.size
      have h3 : W1.heap.size ≤ w'.heap.size := hS'.below.size
      show _ ≤ w4.heap.size
      omega
    · rcases hz with hz | hz
      · exact (hO1 b hz.1).1
      · have hz : w4.heap.size ≤ b := hz
        have h3 : W1.heap.size ≤ w'.heap.size := hS'.below.size
        exact Env.own_new hS.below (by omega)
    · obtain ⟨h1, h2⟩ := hb.keep k hk hz
      refine ⟨fun h3 => ?_, (hchain k (Nat.lt_of_lt_of_le hk hb.size) h1).trans h2⟩
      rcases hb.own k (hO1 k h3.1).1 with h4 | h4
      · exact hz h4
      · omega
    · refine List.nodup_cons.2 ⟨fun hm => ?_, hnd⟩
      have := (hD _ hm).1.1
      have h2 := hS.below.size
      omega
    · rcases List.mem_cons.1 hm with e | e
      · subst e
        have h3 : W1.heap.size ≤ w'.heap.size := hS'.below.size
        have h1 := hb.size
        have h2 := hS.below.size
        exact ⟨⟨by show _ < w4.heap.size; omega, fun h => (hO1 _ h.1).2.1 rfl, (hother _ (by omega)).trans hk'⟩, fun h => by have := h.2; omega, by omega⟩
      · obtain ⟨⟨d1, d2, d3⟩, d4, d5⟩ := hD D e
        have h2 := hS.below.size
        have h3 : W1.heap.size ≤ w'.heap.size := hS'.below.size
        refine ⟨⟨by show _ < w4.heap.size; omega, fun h => ?_, (hchain D d1 d2).trans d3⟩, fun h => d4 h.1, d5⟩
        rcases (hO1 D h.1).1 with h4 | h4
        · exact d2 h4
        · omega
  refine hK.nrm E3 s' _ w4 hb3 h ⟨?_, bx', rw', hS3⟩
  show _ :: a.defers = mark W.heap.size :: E2.D
  rw [hd]; rfl
theorem allZ_some {Z A : Type} {R : Z → Prop} {K : Z → Option A} {r : A} (h : allZ R K = some r) : ∀ z, R z → K z = some r := by
  unfold allZ at h
  split at h <;> try (cases h; done)
  rename_i hx
  cases h
  exact Classical.choose_spec hx
theorem findN_mem {T : TypeId → Type} {l : List (Nat × NSpec T)} {g : Nat} {ns : NSpec T} (h : findN l g = some ns) : (g, ns) ∈ l := by
  induction l with
  | nil => cases h
  | cons p l ih =>
    simp only [findN] at h
    split at h
    · rename_i e; cases h; rw [← e]; simp
    · exact List.mem_cons_of_mem _ (ih h)
theorem amb_ok (hC : C.Ok) (hF : FX F) {R : Type} {s : St C.Θ.T} {K : Ex → St C.Θ.T → Option R} {r : R} {o : Oper} {q : NSpec C.Θ.T × Nat × List Operand} (hq : ambOf C o = some q) {a : Act} {W : World} {Q : Exit → Act → World → Prop} (hb : Rebase E E2) (h0 : At C.Θ E2 s a W)
    (h : ambC C s q o.dst (K .normal) = some r) (hK : Ends K r E Q) : o.wpIn F m C.P a W (fun a' w' => Q .normal a' w') Q := by
  obtain ⟨ns, g, xs⟩ := q
  have ho : ∃ args ats, o.op = .call ⟨.value (.func g), args, ats⟩ ∧ args.toList = xs ∧ findN C.N g = some ns := by
    unfold ambOf at hq
    split at hq <;> try (cases hq; done)
    rename_i c hop _
    obtain ⟨callee, args, ats⟩ := c
    split at hq <;> try (cases hq; done)
    rename_i g' hc
    simp only at hc
    split at hq <;> try (cases hq; done)
    rename_i ns' hn
    cases hq
    exact ⟨args, ats, by rw [hop, hc], rfl, hn⟩
  obtain ⟨args, ats, hop, rfl, hn⟩ := ho
  have hN := hC.N _ (findN_mem hn)
  obtain ⟨hd, bx, rw_, hS⟩ := h0
  unfold ambC at h
  simp only at h
  split at h <;> try (cases h; done)
  rename_i y hy
  split at h <;> try (cases h; done)
  rename_i hfl
  have hz := allZ_some h
  have hr : ready (flatE C.Θ) (St.cellsAt C.Θ) [(g, ns.none_)] s g (args.toList.map s.ev) = some ⟨s, ns.none_, args.toList.map s.ev, y⟩ := by
    unfold ready
    have : findSpec (flatE C.Θ) (St.cellsAt C.Θ) [(g, ns.none_)] g s (args.toList.map s.ev) = some ⟨ns.none_, y⟩ := by
      simp only [findSpec, if_true, hy]
    rw [this]
    simp only
    have hfl' : (flatOuts (flatE C.Θ) ns.none_.outs || y.hs.all notRow) = true := hfl
    rw [if_pos hfl']
  obtain ⟨E', bx1, rw1, h1, h2, h3, h4, h5⟩ := call_env (a := a) hS hd (evs_ok hS args.toList) hr hN.lent
  have hnd : ∀ c, o.op ≠ .defer c := by rw [hop]; intro c e; cases e
  refine ⟨fun f _ => hF.fn f, ?_⟩
  rw [Oper.semAt_plain F _ o hnd]
  have hrun : (execOp a.eval o).run C.P W = .ok (.enter g (args.map a.eval)) W := by
    have := hN.enters (args.map a.eval) W
    simp [execOp, hop, resolve, Deferred.ofValue, Act.eval, invoke, this]
  rw [hrun, Oper.uponIn_enter]
  refine ⟨hF.depth m, hF.calls ?_⟩
  have hvs : args.map a.eval = (args.toList.map a.eval).toArray := by apply Array.ext'; simp
  rw [hvs]
  have hc := hN.calls y.x E' (args.toList.map a.eval) bx1 rw1 h2 (by rw [h1]; exact h4)
  rw [h1] at hc
  refine Calls.mono hc ?_
  rintro e w' ⟨z, hRz, hp⟩
  have hk := hz z hRz
  obtain ⟨qq, _, x, _, hto⟩ := outTo_some ns.outs (fun _ _ _ => ()) z
  rw [hto] at hk
  split at hk <;> try (cases hk; done)
  rename_i hret
  split at hk <;> try (cases hk; done)
  rename_i s' hs'
  unfold Post at hp
  rw [hto, hret] at hp
  obtain ⟨_, us, bx2, rw2, rfl, hT⟩ := hp
  exact hK.nrm E2 s' _ w' hb hk (h5 o.dst s' _ hs' us bx2 rw2 w' hT)
theorem ops_pre (hC : C.Ok) (hF : FX F) {ops : Array Oper} {Q : Exit → Act → World → Prop} (is2 : List Nat) : ∀ (is : List Nat) (l : List Oper) (s s' : St C.Θ.T) (a : Act) (W : World), is.map (fun i => ops[i]?) = l.map some → At C.Θ E s a W → opsD C ops l s = some s' →
    (∀ a' w', At C.Θ E s' a' w' → wpOpsIn F m C.P ops Q is2 a' w') → wpOpsIn F m C.P ops Q (is ++ is2) a W := by
  intro is
  induction is with
  | nil =>
    intro l s s' a W hm h0 h hQ
    cases l with
    | nil => cases h; exact hQ a W h0
    | cons o l => simp at hm
  | cons i is ih =>
    intro l s s' a W hm h0 h hQ
    cases l with
    | nil => simp at hm
    | cons o l =>
      simp only [List.map_cons, List.cons.injEq] at hm
      simp only [opsD] at h
      split at h <;> try (cases h; done)
      rename_i s1 h1
      rw [List.cons_append, wpOpsIn_cons]
      exact wpOpIn_mono (fun a' w' h' => ih l s1 s' a' w' hm.2 h' h hQ) (guard_okIn (n := m) hC hF h0 hm.1 h1)
theorem reg_ok (hC : C.Ok) (hF : FX F) {R : Type} {id : Nat} {ops : Array Oper} {s : St C.Θ.T} {K : Ex → St C.Θ.T → Option R} {r : R} {a : Act} {W : World} {Q : Exit → Act → World → Prop} (hb : Rebase E E2) (h0 : At C.Θ E2 s a W)
    (h : regC C ops s (K .normal) = some r) (hK : Ends K r E Q) : (Code.region id ops false).wpIn F m C.P Q a W := by
  have plain : opsC C ops ops.toList [] s (K .normal) = some r → (Code.region id ops false).wpIn F m C.P Q a W := by
    intro hj
    rw [opsC_eq ops _ [] s _ (fun d b hb => by simp [look] at hb)] at hj
    cases ho : opsD C ops ops.toList s with
    | none => simp [ho] at hj
    | some s' =>
      simp only [ho, Option.bind_some] at hj
      exact wpIn_region (ops_okIn hC hF _ _ s s' a W (range_map ops) h0 ho fun a' w' h' => hK.nrm E2 s' a' w' hb hj h')
  unfold regC at h
  split at h
  · exact plain h
  · rename_i o hlast
    split at h
    · exact plain h
    · rename_i q hq
      rw [opsC_eq ops _ [] s _ (fun d b hb => by simp [look] at hb)] at h
      cases ho : opsD C ops ops.toList.dropLast s with
      | none => simp [ho] at h
      | some s1 =>
        simp only [ho, Option.bind_some] at h
        have hsplit : ops.toList = ops.toList.dropLast ++ [o] := by
          have hne : ops.toList ≠ [] := by intro e; rw [e] at hlast; cases hlast
          have h1 := List.dropLast_concat_getLast hne
          rw [List.getLast?_eq_some_getLast hne] at hlast
          cases hlast
          exact h1.symm
        obtain ⟨pre, hpre⟩ : ∃ pre, ops.toList.dropLast = pre := ⟨_, rfl⟩
        rw [hpre] at hsplit ho
        have hsz : ops.size = pre.length + 1 := by
          have := congrArg List.length hsplit
          simpa using this
        have hrm := range_map ops
        rw [hsz, List.range_succ, hsplit, List.map_append, List.map_append] at hrm
        have hrm' : (List.range pre.length).map (fun i => ops[i]?) = pre.map some ∧ ops[pre.length]? = some o := by
          have := List.append_inj hrm (by simp)
          exact ⟨this.1, by simpa using this.2⟩
        refine wpIn_region ?_
        rw [hsz, List.range_succ]
        refine ops_pre hC hF _ _ _ s s1 a W hrm'.1 h0 ho fun a' w' h' => ?_
        rw [wpOpsIn_cons]
        unfold wpOpIn
        have hgd : o.guard = none := by
          unfold ambOf at hq
          split at hq <;> try (cases hq; done)
          assumption
        have hw : Region.wanted o (yielded ops a'.tmps) = true := by simp [Region.wanted, hgd]
        simp only [hrm'.2, hw, if_true]
        exact amb_ok hC hF hq hb h' h hK
theorem regD_any (hC : C.Ok) (hF : FX F) {R : Type} {ops : Array Oper} {s : St C.Θ.T} {K : Ex → St C.Θ.T → Option R} {r : R} {a : Act} {W : World} {Q : Exit → Act → World → Prop} (hb : Rebase E E2) (h0 : At C.Θ E2 s a W)
    (hj : regD C ops true s K = some r) (hK' : Ends K r E Q) : wpAnyIn F m C.P .any ops Q ops.size (Array.replicate ops.size false) a { W with drawn := W.drawn + 1 } := by
  unfold regD at hj
  split at hj
  · rename_i hdr
    split at hj <;> try (cases hj; done)
    rename_i hd3
    rw [Bool.and_eq_true] at hd3
    obtain ⟨s', A, B, hj', _, _, hAB, hrun⟩ := opsW_run ops _ [] ([], []) s _ r (fun d b hb => by simp [look] at hb) (fun k hk => by cases hk) hj
    exact draw_ok3A hC hF hAB hd3.1 hd3.2 h0 hrun fun a' w' h' => hK'.nrm E2 s' a' w' hb hj' h'
  · rename_i hdr
    simp only [cond_true] at hj
    rw [opsC_eq ops _ [] s _ (fun d b hb => by simp [look] at hb)] at hj
    cases ho : opsD C ops ops.toList s with
    | none => simp [ho] at hj
    | some s' =>
      simp only [ho, Option.bind_some] at hj
      have hdr' : drawOk C ops = true ∨ (drawOk2 C ops = true ∧ tameOk C s ops.toList = true) := by
        by_cases hd1 : drawOk C ops = true
        · exact .inl hd1
        · right
          have hd2 : drawOk C ops = false := by simpa using hd1
          simp only [hd2, Bool.false_or, Bool.true_and, Bool.not_eq_true', Bool.not_eq_true, Bool.not_eq_false, Bool.and_eq_true] at hdr
          exact hdr
      rcases hdr' with hdr' | ⟨hdr', htm⟩
      · exact draw_okA hC hF hdr' h0 ho fun a' w' h' => hK'.nrm E2 s' a' w' hb hj h'
      · exact draw_ok2A hC hF hdr' htm h0 ho fun a' w' h' => hK'.nrm E2 s' a' w' hb hj h'
theorem regD_ok (hC : C.Ok) (hF : FX F) {R : Type} {id : Nat} {ops : Array Oper} {draw : Bool} {s : St C.Θ.T} {K : Ex → St C.Θ.T → Option R} {r : R} {a : Act} {W : World} {Q : Exit → Act → World → Prop} (hb : Rebase E E2) (h0 : At C.Θ E2 s a W)
    (hj : regD C ops draw s K = some r) (hK' : Ends K r E Q) : (Code.region id ops draw).wpIn F m C.P Q a W := by
  cases draw with
  | true => exact wpIn_region_any hC.mixed (regD_any hC hF hb h0 hj hK')
  | false =>
    unfold regD at hj
    simp only [Bool.false_and, Bool.false_eq_true, if_false, cond_false] at hj
    exact reg_ok hC hF hb h0 hj hK'
theorem ints_rep {v : AV C.Θ.T} {u : Value} {W W' : World} {F F' : Nat → Prop} {bx bx' : Nat → Nat → Nat} {rw_ rw' : Nat → Nat → Value} (hi : intsA v = true) (h : RAV C.Θ W F bx rw_ v u) : RAV C.Θ W' F' bx' rw' v u := by
  unfold intsA at hi
  split at hi
  · rename_i cs
    obtain ⟨us, e, ha⟩ := h
    refine ⟨us, e, ?_⟩
    clear e
    revert hi
    induction ha with
    | nil => intro _; exact .nil
    | cons h1 _ ih =>
      intro hi
      simp only [List.all_cons, Bool.and_eq_true] at hi
      refine .cons ?_ (ih hi.2)
      have hc := hi.1
      split at hc
      · cases h1; exact .int _ _
      · cases hc
  · cases hi
theorem Sim.only {s : St C.Θ.T} {tm : Array Value} {W : World} {bx : Nat → Nat → Nat} {rw_ : Nat → Nat → Value} (hS : Sim C.Θ E s tm W bx rw_) {v : AV C.Θ.T} {u : Value} {W1 : World} {F1 : Nat → Prop} {bx1 : Nat → Nat → Nat} {rw1 : Nat → Nat → Value} (hi : intsA v = true) (h : RAV C.Θ W1 F1 bx1 rw1 v u) :
    Sim C.Θ E ⟨[v], [], []⟩ #[u] W bx rw_ := by
  refine ⟨hS.below, hS.glob, fun k b hk => ⟨(hS.pinB k b hk).1, (fun B hB => nomatch hB)⟩, fun r v hr => ⟨(hS.pinR r v hr).1, (fun R hR => nomatch hR)⟩, hS.rwsl, (fun k B hB => nomatch hB), (fun r R hR => nomatch hR), (fun k B k' B' hB => nomatch hB), (fun r R r' R' b hR => nomatch hR), (fun k B r R hB => nomatch hB), rfl, fun i => ?_⟩
  cases i with
  | zero => exact ints_rep hi h
  | succ i => exact trivial
theorem panKind_spec {ops : Array Oper} {q : PanQ} {k : Nat} (h : panKind C ops = some (q, k)) : ∃ o, ops[k]? = some o ∧ ops.size ≤ k + 2 ∧ k < ops.size ∧
    ((∃ g args dst ats, q = .call g args dst ∧ o.guard = none ∧ o.op = .call ⟨.value (.func g), args, ats⟩ ∧ o.dst = dst ∧ ops.size = k + 1) ∨
     (∃ ty x d o', q = .lit ty x d ∧ o.guard = none ∧ o.op = .makeInterface ty x ∧ o.dst = some d ∧ ops[k + 1]? = some o' ∧ o'.guard = none ∧ o'.op = .panic (.tmp d) ∧ ops.size = k + 2)) := by
  unfold panKind at h
  split at h
  · cases h
  · rename_i o r hrev
    have hl : ops.toList = r.reverse ++ [o] := by
      have := congrArg List.reverse hrev
      simpa using this
    have hsz : ops.size = r.length + 1 := by
      have := congrArg List.length hl
      simpa using this
    have hat : ∀ i, ops[i]? = (r.reverse ++ [o])[i]? := fun i => by rw [← hl, Array.getElem?_toList]
    split at h <;> try (cases h; done)
    rename_i hgd
    split at h
    · rename_i x hop
      split at h <;> try (cases h; done)
      rename_i d o' r'
      split at h <;> try (cases h; done)
      rename_i ty y d' h1 h2 h3
      split at h <;> try (cases h; done)
      rename_i hdd
      subst hdd
      simp only [Option.some.injEq, Prod.mk.injEq] at h
      obtain ⟨rfl, rfl⟩ := h
      simp only [List.length_cons] at hsz
      refine ⟨o', ?_, by omega, by omega, .inr ⟨ty, y, d, o, rfl, h3, h1, h2, ?_, hgd, hop, by omega⟩⟩
      · rw [hat]; simp
      · rw [hat]; simp
    · split at h <;> try (cases h; done)
      rename_i g c hcal hop
      split at h <;> try (cases h; done)
      simp only [Option.some.injEq, Prod.mk.injEq] at h
      obtain ⟨rfl, rfl⟩ := h
      refine ⟨o, by rw [hat]; simp, by omega, by omega, .inl ⟨g, c.args, o.dst, c.argTypes, rfl, hgd, ?_, rfl, hsz⟩⟩
      unfold calleeC at hcal
      rw [hop] at hcal
      simp only at hcal
      obtain ⟨cal, args, ats⟩ := c
      simp only at hcal
      split at hcal <;> try (cases hcal; done)
      split at hcal <;> try (cases hcal; done)
      cases hcal
      exact hop
theorem panL_ok (hC : C.Ok) (hF : FX F) {R : Type} {ops : Array Oper} {q : PanQ} {k : Nat} (hq : panKind C ops = some (q, k)) {s : St C.Θ.T} {K : Ex → St C.Θ.T → Option R} {r : R} {a : Act} {W : World} {Q : Exit → Act → World → Prop} (hb : Rebase E E2) (h0 : At C.Θ E2 s a W)
    (h : panL C q s K = some r) (hK : Ends K r E Q) : wpOpsIn F m C.P ops Q ((List.range (ops.size - k)).map (k + ·)) a W := by
  obtain ⟨o, hok, _, _, hcase⟩ := panKind_spec hq
  obtain ⟨hd, bx, rw_, hS⟩ := h0
  rcases hcase with ⟨g, args, dst, ats, rfl, hgd, hop, hdst, hsz⟩ | ⟨ty, x, d, o', rfl, hgd, hop, hod, hok', hgd', hop', hsz⟩
  · have hl : (List.range (ops.size - k)).map (k + ·) = [k] := by
      rw [hsz, Nat.add_sub_cancel_left]; rfl
    rw [hl, wpOpsIn_cons]
    unfold wpOpIn
    have hw : Region.wanted o (yielded ops a.tmps) = true := by simp [Region.wanted, hgd]
    simp only [hok, hw, if_true]
    unfold panL at h
    simp only at h
    split at h <;> try (cases h; done)
    rename_i rd hrd
    have hg := hC.Γ _ (ready_ok hrd).1
    obtain ⟨E', bx1, rw1, h1, h2, h3, h4, h5⟩ := call_env (a := a) hS hd (evs_ok hS args.toList) hrd hg.lent
    cases hFz : rd.sp.F rd.y.x with
    | none => simp [hFz] at h
    | some z =>
    simp only [hFz, Option.bind_some] at h
    have hnd : ∀ c, o.op ≠ .defer c := by rw [hop]; intro c e; cases e
    refine ⟨fun f _ => hF.fn f, ?_⟩
    rw [Oper.semAt_plain F _ o hnd]
    have hrun : (execOp a.eval o).run C.P W = .ok (.enter g (args.map a.eval)) W := by
      have := hg.enters (args.map a.eval) W
      simp [execOp, hop, resolve, Deferred.ofValue, Act.eval, invoke, this]
    rw [hrun, Oper.uponIn_enter]
    refine ⟨hF.depth m, hF.calls ?_⟩
    have hvs : args.map a.eval = (args.toList.map a.eval).toArray := by apply Array.ext'; simp
    rw [hvs]
    have hc := hg.calls _ z hFz E' (args.toList.map a.eval) bx1 rw1 h2 (by rw [h1]; exact h4)
    rw [h1] at hc
    refine Calls.mono hc ?_
    intro e w' hp
    obtain ⟨qq, _, x, _, hto⟩ := outTo_some rd.sp.outs (fun _ _ _ => ()) z
    unfold Post at hp
    rw [hto] at h hp
    obtain ⟨ex, sh⟩ := qq
    cases ex with
    | normal => cases h
    | exit i => cases h
    | ret =>
      simp only at h hp
      split at h <;> try (cases h; done)
      rename_i s' hs'
      obtain ⟨_, us, bx2, rw2, rfl, hT⟩ := hp
      have := h5 dst s' _ hs' us bx2 rw2 w' hT
      rw [← hdst] at this
      exact hK.nrm E2 s' _ w' hb h this
    | pan ty =>
      simp only at h hp
      split at h <;> try (cases h; done)
      rename_i s' hs'
      split at h <;> try (cases h; done)
      rename_i v hv
      split at h <;> try (cases h; done)
      rename_i hi
      rw [Bool.and_eq_true] at hi
      obtain ⟨hi, hkp⟩ := hi
      obtain ⟨u, bx2, rw2, rfl, hT⟩ := hp
      obtain ⟨hd', bx3, rw3, hS3⟩ := h5 none s' _ hs' [u] bx2 rw2 w' hT
      have hv0 := hT.slots 0
      unfold St.at_ at hv0
      rw [hv] at hv0
      exact hK.pan E2 ty _ u a w' hb h hd ⟨bx3, rw3, Sim.only hS3 hi hv0⟩ (keep_fr hS3 hkp)
  · have hl : (List.range (ops.size - k)).map (k + ·) = [k, k + 1] := by
      rw [hsz, Nat.add_sub_cancel_left]; rfl
    unfold panL at h
    simp only at h
    split at h <;> try (cases h; done)
    rename_i hi
    rw [Bool.and_eq_true] at hi
    obtain ⟨hi, hst⟩ := hi
    rw [Bool.and_eq_true, Bool.and_eq_true, Nat.blt_eq] at hst
    obtain ⟨⟨hst, hdl⟩, hke⟩ := hst
    rw [hS.len] at hdl
    obtain ⟨fs, hu⟩ : ∃ fs, C.P.underlying ty = some (.struct fs) := by
      unfold structTy at hst
      split at hst
      · rename_i fs hu; exact ⟨fs, hu⟩
      · cases hst
    have hxv := hS.ev a rfl x
    rw [hl, wpOpsIn_cons]
    unfold wpOpIn
    have hw : Region.wanted o (yielded ops a.tmps) = true := by simp [Region.wanted, hgd]
    simp only [hok, hw, if_true]
    have hnd : ∀ c, o.op ≠ .defer c := by rw [hop]; intro c e; cases e
    refine ⟨fun f _ => hF.fn f, ?_⟩
    rw [Oper.semAt_plain F _ o hnd]
    have hrun : (execOp a.eval o).run C.P W = .ok (.value (.iface ty (a.eval x))) W := by
      simp [execOp, hop, Instr.makeInterface, run_underlying hu]
    rw [hrun, Oper.uponIn_value]
    rw [wpOpsIn_cons]
    unfold wpOpIn
    have hw' : Region.wanted o' (yielded ops (a.put o.dst (.iface ty (a.eval x))).tmps) = true := by simp [Region.wanted, hgd']
    simp only [hok', hw', if_true]
    have hnd' : ∀ c, o'.op ≠ .defer c := by rw [hop']; intro c e; cases e
    refine ⟨fun f _ => hF.fn f, ?_⟩
    rw [Oper.semAt_plain F _ o' hnd']
    have hev : (a.put o.dst (.iface ty (a.eval x))).eval (.tmp d) = .iface ty (a.eval x) := by
      rw [hod]
      simp [Act.put, Act.eval, Array.getD_eq_getD_getElem?, hdl]
    have hrun' : (execOp (a.put o.dst (.iface ty (a.eval x))).eval o').run C.P W = .halt (.panic (.iface ty (a.eval x))) W := by
      simp [execOp, hop', hev, Instr.panic]
    rw [hrun']
    have hd1 : (a.put o.dst (.iface ty (a.eval x))).defers = E2.D := by rw [hod]; exact hd
    exact hK.pan E2 ty _ (a.eval x) _ W hb h hd1 ⟨bx, rw_, Sim.only hS hi hxv⟩ fun p hp => by rw [List.isEmpty_iff.1 hke] at hp; cases hp
theorem panR_ok (hC : C.Ok) (hF : FX F) {R : Type} {id : Nat} {ops : Array Oper} {draw : Bool} {q : PanQ × Nat} {s : St C.Θ.T} {K : Ex → St C.Θ.T → Option R} {r : R} {a : Act} {W : World} {Q : Exit → Act → World → Prop} (hb : Rebase E E2) (h0 : At C.Θ E2 s a W)
    (hq : panKind C ops = some q) (h : panR C ops draw q s K = some r) (hK : Ends K r E Q) : (Code.region id ops draw).wpIn F m C.P Q a W := by
  obtain ⟨q, k⟩ := q
  obtain ⟨o, hok, _, hkl, _⟩ := panKind_spec hq
  have hpl : (ops.toList.take k).length = k := by simp; omega
  unfold panR at h
  cases draw with
  | false =>
    simp only [Bool.false_eq_true, if_false] at h
    rw [opsC_eq ops _ [] s _ (fun d b hb => by simp [look] at hb)] at h
    cases ho : opsD C ops (ops.toList.take k) s with
    | none => simp [ho] at h
    | some s1 =>
      simp only [ho, Option.bind_some] at h
      refine wpIn_region ?_
      have hsp : List.range ops.size = List.range k ++ (List.range (ops.size - k)).map (k + ·) := by
        have := List.range_add (n := k) (m := ops.size - k)
        rwa [show k + (ops.size - k) = ops.size by omega] at this
      rw [hsp]
      refine ops_pre hC hF _ _ _ s s1 a W ?_ h0 ho fun a' w' h' => panL_ok hC hF hq hb h' h hK
      refine List.ext_getElem? fun i => ?_
      simp only [List.getElem?_map]
      by_cases hi : i < k
      · rw [List.getElem?_range hi, List.getElem?_take_of_lt hi]
        have : i < ops.size := by omega
        simp [this]
      · rw [List.getElem?_eq_none (by simpa using Nat.le_of_not_lt hi), List.getElem?_eq_none (l := List.take k ops.toList) (by omega)]
        rfl
  | true =>
    simp only [if_true] at h
    split at h <;> try (cases h; done)
    rename_i hlast
    obtain ⟨hsz, _⟩ := last_spec hlast
    refine wpIn_region_any hC.mixed ?_
    have hps : (ops.toList.take k).toArray.size = k := by simpa using hpl
    have hany := regD_any (m := m) (Q := aheadQ F m C.P ops k Q) hC hF hb h0 h ⟨fun E3 e s' a' W' hp hb3 he h' => ?_, fun E3 ty s' u a' W' hb3 he => by cases he⟩
    · rw [hps] at hany
      have := any_last (Q := Q) hlast k (Array.replicate k false) a _ (by simp) (fun m' q' hq' hm => ?_) ?_ hany
      · rw [hsz, Array.replicate_succ]; exact this
      · exfalso
        by_cases hm' : m' < k <;> simp [Array.getD_eq_getD_getElem?, hm'] at hm
      · have : left_ k (Array.replicate k false) = List.range k := by
          unfold left_
          refine List.filter_eq_self.2 fun i hi => ?_
          have := List.mem_range.1 hi
          simp [Array.getD_eq_getD_getElem?, this]
        rw [this]; simp
    · cases e with
      | normal =>
        have hpan := panL_ok (m := m) hC hF hq hb3 h' he hK
        have hl : (List.range (ops.size - k)).map (k + ·) = [k] := by rw [hsz, Nat.add_sub_cancel_left]; rfl
        rw [hl, wpOpsIn_cons] at hpan
        exact hpan
      | exit i => cases he
      | ret => cases he
      | pan ty => exact absurd rfl (hp ty)
theorem code_ok (hC : C.Ok) (hF : FX F) : ∀ (c : Code) {R : Type} (p : Plan) (s : St C.Θ.T) (K : Ex → St C.Θ.T → Option R) (r : R), (F.round = none ∨ noRange c = true) → codeC C n c p s K = some r → ∀ (E2 : Env) (a : Act) (W : World) (Q : Exit → Act → World → Prop), Rebase E E2 → At C.Θ E2 s a W → Ends K r E Q → c.wpIn F m C.P Q a W := by
  intro c
  induction c with
  | skip =>
    intro R p s K r hn h E2 a W Q hb h0 hK
    exact wpIn_skip (hK.nrm E2 s a W hb (by simpa only [codeC] using h) h0)
  | region id ops draw =>
    intro R p s K r hn hc E2 a W Q hb h0 hK
    simp only [codeC] at hc
    obtain ⟨K', hj, hK'⟩ := joined_ok hc hK
    split at hj
    · exact regD_ok hC hF hb h0 hj hK'
    · rename_i q hq
      exact panR_ok hC hF hb h0 hq hj hK'
  | seq x y ihx ihy =>
    intro R p s K r hn h E2 a W Q hb h0 hK
    simp only [codeC] at h
    obtain ⟨K', h, hK'⟩ := joined_ok h hK
    have hn1 : F.round = none ∨ noRange x = true := hn.imp id fun h => by simp only [noRange, Bool.and_eq_true] at h; exact h.1
    have hn2 : F.round = none ∨ noRange y = true := hn.imp id fun h => by simp only [noRange, Bool.and_eq_true] at h; exact h.2
    refine wpIn_seq (ihx _ s _ r hn1 h E2 a W _ hb h0 ⟨?_, fun E3 ty s' u a' W' hb3 he hd' hS' hf' => hK'.pan E3 ty s' u a' W' hb3 he hd' hS' hf'⟩)
    intro E3 e s' a' W' hp hb3 he h'
    rw [exit_then]
    cases e with
    | normal => exact ihy _ s' K' r hn2 he E3 a' W' Q hb3 h' hK'
    | exit i => exact hK'.ext i E3 s' a' W' hb3 he h'
    | ret => exact hK'.rtn E3 s' a' W' hb3 he h'
    | pan ty => exact absurd rfl (hp ty)
  | cond c x y ihx ihy =>
    intro R p s K r hn h E2 a W Q hb h0 hK
    simp only [codeC] at h
    obtain ⟨K', h, hK'⟩ := joined_ok h hK
    have hn1 : F.round = none ∨ noRange x = true := hn.imp id fun h => by simp only [noRange, Bool.and_eq_true] at h; exact h.1
    have hn2 : F.round = none ∨ noRange y = true := hn.imp id fun h => by simp only [noRange, Bool.and_eq_true] at h; exact h.2
    split at h <;> try (cases h; done)
    rotate_left
    · rename_i e ht
      obtain ⟨b, hc, hbf⟩ : ∃ b, a.eval c = .bool b ∧ (e = false → b = false) := by
        obtain ⟨hd, bx, rw_, hS⟩ := h0
        have := hS.ev a rfl c
        rw [ht] at this
        exact this
      refine wpIn_cond hc ?_
      unfold nilJ at h
      cases e with
      | false =>
        rw [hbf rfl]
        exact ihy _ s K' r hn2 h E2 a W Q hb h0 hK'
      | true =>
        simp only [cond_true] at h
        unfold both at h
        split at h <;> try (cases h; done)
        rename_i he
        cases b with
        | true => exact ihx _ s K' r hn1 h E2 a W Q hb h0 hK'
        | false => exact ihy _ s K' r hn2 (he ▸ h) E2 a W Q hb h0 hK'
    rename_i t ht
    have hc : a.eval c = .bool t := by
      obtain ⟨hd, bx, rw_, hS⟩ := h0
      have := hS.ev a rfl c
      rw [ht] at this
      generalize a.eval c = u at this ⊢
      cases this
      rfl
    refine wpIn_cond hc ?_
    cases t with
    | true => exact ihx _ s K' r hn1 h E2 a W Q hb h0 hK'
    | false => exact ihy _ s K' r hn2 h E2 a W Q hb h0 hK'
  | block id c ih =>
    intro R p s K r hn h E2 a W Q hb h0 hK
    simp only [codeC] at h
    obtain ⟨K', h, hK'⟩ := joined_ok h hK
    refine wpIn_block (ih _ s _ r hn h E2 a W _ hb h0 ⟨?_, fun E3 ty s' u a' W' hb3 he hd' hS' hf' => hK'.pan E3 ty s' u a' W' hb3 he hd' hS' hf'⟩)
    intro E3 e s' a' W' hp hb3 he h'
    cases e with
    | normal => exact hK'.nrm E3 s' a' W' hb3 he h'
    | pan ty => exact absurd rfl (hp ty)
    | exit i =>
      simp only at he
      simp only [Ex.exit_, Exit.inBlock]
      by_cases hi : i = id
      · rw [if_pos hi] at he ⊢
        exact hK'.nrm E3 s' a' W' hb3 he h'
      · rw [if_neg hi] at he ⊢
        exact hK'.ext i E3 s' a' W' hb3 he h'
    | ret => exact hK'.rtn E3 s' a' W' hb3 he h'
  | loop c ih =>
    intro R p s K r hn h E2 a W Q hb h0 hK
    simp only [codeC] at h
    split at h <;> try (cases h; done)
    rename_i hd es p
    split at h <;> try (cases h; done)
    rename_i x hx
    refine wpIn_loop_rounds n ?_
    have h0' := h0.ext hx
    revert h h0'
    generalize hL : (fun x => codeC C n c p (hd.st x) fun e s' => match e with
      | .normal => match hd.ext s' with
        | some x' => some (.inl x')
        | none => none
      | .exit i => match outOf es (.exit i) s' with
        | some y => some (.inr y)
        | none => none
      | .ret => (match outOf es .ret s' with
        | some y => some (.inr y)
        | none => none)
      | .pan t => match outOf es (.pan t) s' with
        | some y => some (.inr y)
        | none => none : hd.X C.Θ.T → Option (hd.X C.Θ.T ⊕ Outs C.Θ.T es)) = L
    have key : ∀ (q : Nat) (E2 : Env) (x : hd.X C.Θ.T) (a : Act) (W : World), Rebase E E2 → (iterL q L x).bind (outTo es fun e _ s => K e s) = some r → At C.Θ E2 (hd.st x) a W → Code.roundsIn F m C.P c Q q a W := by
      intro q
      induction q with
      | zero => intro E2 x a W _ h _; cases h
      | succ q ihm =>
        intro E2 x a W hb h h0
        rw [roundsIn_succ]
        simp only [iterL] at h
        cases hz : L x with
        | none => simp [hz] at h
        | some z =>
          simp only [hz, Option.bind_some] at h
          rw [← hL] at hz
          refine ih p (hd.st x) _ z hn hz E2 a W _ hb h0 ⟨?_, fun E3 ty s' u a' W' hb3 he hd' hS' hf' => ?_⟩
          rotate_left
          · simp only at he
            split at he <;> try (cases he; done)
            rename_i y hy
            cases he
            obtain ⟨sh, x', h1, h2⟩ := out_ok es (.pan ty) s' y hy
            simp only [Option.bind_some] at h
            rw [h2] at h
            obtain ⟨bx3, rw3, hS3⟩ := hS'
            obtain ⟨bx4, rw4, hS4⟩ := ext_ok hS3 h1
            exact hK.pan E3 ty _ u a' W' hb3 h hd' ⟨bx4, rw4, hS4⟩ hf'
          intro E3 e s' a' W' hp hb3 he h'
          rw [exit_then]
          cases e with
          | pan ty => exact absurd rfl (hp ty)
          | normal =>
            simp only at he
            split at he <;> try (cases he; done)
            rename_i x' hx'
            cases he
            exact ihm E3 x' a' W' hb3 h (h'.ext hx')
          | exit i =>
            simp only at he
            split at he <;> try (cases he; done)
            rename_i y hy
            cases he
            obtain ⟨sh, x', h1, h2⟩ := out_ok es (.exit i) s' y hy
            simp only [Option.bind_some] at h
            rw [h2] at h
            exact hK.ext i E3 _ a' W' hb3 h (h'.ext h1)
          | ret =>
            simp only at he
            split at he <;> try (cases he; done)
            rename_i y hy
            cases he
            obtain ⟨sh, x', h1, h2⟩ := out_ok es .ret s' y hy
            simp only [Option.bind_some] at h
            rw [h2] at h
            exact hK.rtn E3 _ a' W' hb3 h (h'.ext h1)
    exact fun h h0' => key n E2 x a W hb h h0'
  | exit id =>
    intro R p s K r hn h E2 a W Q hb h0 hK
    exact wpIn_exit (hK.ext id E2 s a W hb (by simpa only [codeC] using h) h0)
  | ret =>
    intro R p s K r hn h E2 a W Q hb h0 hK
    exact wpIn_ret (hK.rtn E2 s a W hb (by simpa only [codeC] using h) h0)
  | rangeFunc g ps assign body iha ihb =>
    intro R p s K r hn h E2 a W Q hb h0 hK
    have hwide : F = Fence.wide := by
      rcases hn with h | h
      · rcases hF with hF | ⟨l, hF⟩
        · exact hF
        · rw [hF] at h; cases h
      · cases h
    subst hwide
    exact range_ok hC h hb h0 hK
  | scope b ih => intro R p s K r hn h; simp [codeC] at h
  | label l => intro R p s K r hn h; simp [codeC] at h
  | goto l => intro R p s K r hn h; simp [codeC] at h
  | refuse w => intro R p s K r hn h; simp [codeC] at h
theorem loadVar_of {P : Program} {t : TypeId} {u r : Value} {W : World} (h : (Instr.loadAt t u).run P W = .ok r W) : (do loadVar t (← asAddr u) : Sem Value).run P W = .ok r W := by
  unfold Instr.loadAt Instr.sureAddr at h
  split at h
  · simpa [asAddr] using h
  · simp [stuck] at h
def resSem (tm : Array Value) (r : ResultVar) : Sem Value := match r with
  | .tmp t => pure (tm.getD t undef)
  | .cell a t => do loadVar t (← asAddr (tm.getD a undef))
theorem results_eq (fn : Func) (tm : Array Value) : results fn tm = (do let vs ← fn.results.toList.mapM (resSem tm); pure (if h : vs.toArray.size = 1 then vs.toArray[0] else .tuple vs.toArray)) := by
  unfold results
  rw [Array.mapM_eq_mapM_toList]
  have : (fun r : ResultVar => (match r with | .tmp t => pure (tm.getD t undef) | .cell a t => do loadVar t (← asAddr (tm.getD a undef)) : Sem Value)) = resSem tm := by
    funext r; cases r <;> rfl
  rw [bind_map_left]
  congr 1
theorem results_ok {s : St C.Θ.T} {tm : Array Value} {W : World} {bx : Nat → Nat → Nat} {rw_ : Nat → Nat → Value} (hS : Sim C.Θ E s tm W bx rw_) :
    ∀ (l : List ResultVar), (∀ rv ∈ l, ∀ a t, rv = .cell a t → ∃ v, vLoad C.P C.Θ s t (s.at_ a) = some (true, v)) → ∃ us : List Value, (l.mapM (resSem tm)).run C.P W = .ok us W ∧ All2 (RAV C.Θ W (FF E s bx rw_ W) bx rw_) (l.map (resultAV C s)) us := by
  have one : ∀ (rv : ResultVar), (∀ a t, rv = .cell a t → ∃ v, vLoad C.P C.Θ s t (s.at_ a) = some (true, v)) → ∃ u, (resSem tm rv).run C.P W = .ok u W ∧ RAV C.Θ W (FF E s bx rw_ W) bx rw_ (resultAV C s rv) u := by
    intro rv h
    cases rv with
    | tmp t => exact ⟨_, rfl, hS.slots t⟩
    | cell a t =>
      obtain ⟨v, hv⟩ := h a t rfl
      obtain ⟨u, h1, h2⟩ := load_ok (P := C.P) hS hv (hS.slots a)
      exact ⟨u, loadVar_of h1, by simp only [resultAV, hv]; exact h2⟩
  intro l
  induction l with
  | nil => intro _; exact ⟨[], by simp, .nil⟩
  | cons rv l ih =>
    intro h
    obtain ⟨u, h1, h2⟩ := one rv (h rv (by simp))
    obtain ⟨us, h3, h4⟩ := ih (fun rv' hm => h rv' (by simp [hm]))
    exact ⟨u :: us, by simp [List.mapM_cons, h1, h3], .cons h2 h4⟩
theorem entry_at {E : Env} (hED : E.D = []) {fn : Func} {hin : Shape} {x : hin.X C.Θ.T} {vs : List Value} {bx : Nat → Nat → Nat} {rw_ : Nat → Nat → Value} (hS : Sim C.Θ E (hin.st x) vs.toArray E.w0 bx rw_) :
    At C.Θ E (entry C fn hin x) { tmps := vs.toArray ++ Array.replicate (fn.ntmps - vs.toArray.size) undef, defers := [] } E.w0 := by
  have hl : (hin.st x).slots.length = vs.length := by simpa using hS.len
  refine ⟨hED.symm, bx, rw_, hS.below, hS.glob, hS.pinB, hS.pinR, hS.rwsl, hS.boxes, hS.rows, hS.bb, hS.rr, hS.br, ?_, fun i => ?_⟩
  · simp [entry, hl]
  · have hi := hS.slots i
    unfold entry St.at_
    simp only
    rw [List.getD_eq_getElem?_getD]
    by_cases hlt : i < vs.length
    · rw [List.getElem?_append_left (by omega)]
      have e2 : (vs.toArray ++ Array.replicate (fn.ntmps - vs.toArray.size) undef).getD i undef = vs.toArray.getD i undef := by
        simp [Array.getD_eq_getD_getElem?, Array.getElem?_append_left, hlt]
      rw [e2, ← List.getD_eq_getElem?_getD]
      exact hi
    · rw [List.getElem?_append_right (by omega)]
      cases hq : (List.replicate (fn.ntmps - (hin.st x).slots.length) (AV.undef : AV C.Θ.T))[i - (hin.st x).slots.length]? with
      | none => exact trivial
      | some v =>
        have := List.mem_of_getElem? hq
        rw [List.mem_replicate] at this
        rw [this.2]
        exact trivial
theorem cellsOk_spec {s : St C.Θ.T} : ∀ {l : List ResultVar}, cellsOk C s l = true → ∀ rv ∈ l, ∀ a t, rv = .cell a t → ∃ v, vLoad C.P C.Θ s t (s.at_ a) = some (true, v) := by
  intro l
  induction l with
  | nil => intro _ rv h; cases h
  | cons x l ih =>
    intro h rv hm a t e
    cases x with
    | tmp j =>
      rcases List.mem_cons.1 hm with e' | e'
      · rw [e'] at e; cases e
      · exact ih h rv e' a t e
    | cell a' t' =>
      simp only [cellsOk, Bool.and_eq_true] at h
      rcases List.mem_cons.1 hm with e' | e'
      · rw [e'] at e
        cases e
        have := h.1
        split at this
        · rename_i c v hv; subst this; exact ⟨v, hv⟩
        · cases this
      · exact ih h.2 rv e' a t e
theorem leave_ok {fn : Func} {s : St C.Θ.T} {tm : Array Value} {bx : Nat → Nat → Nat} {rw_ : Nat → Nat → Value} {R : Ending → World → Prop} {tms : Array Value} {md : FrameMode} {tl : List Deferred} (hmd : md ≠ .run) : ∀ (Ds : List Nat) (w : World),
    Sim C.Θ ⟨w, fun b => E2.Own b ∧ b < w.heap.size, E2.F, E2.PB, E2.PR, []⟩ s tm w bx rw_ → Ds.Nodup → (∀ D ∈ Ds, ¬ E2.Own D ∧ ¬ E2.F D ∧ w.heap[D]? = some (.deferred (some []))) →
    (∀ w', Sim C.Θ ⟨w', fun b => E2.Own b ∧ b < w'.heap.size, E2.F, E2.PB, E2.PR, []⟩ s tm w' bx rw_ → w'.os = w.os → w'.tape = w.tape → w'.output = w.output → w'.heap.size = w.heap.size → (∀ k, k ∉ Ds → w'.heap[k]? = w.heap[k]?) → LeavesInM Fence.wide m C.P fn tms R tl md w') →
    LeavesInM Fence.wide m C.P fn tms R (Ds.map mark ++ tl) md w := by
  intro Ds
  induction Ds with
  | nil =>
    intro w hS _ _ hfin
    exact hfin w hS rfl rfl rfl rfl (fun _ _ => rfl)
  | cons D Ds ih =>
    intro w hS hnd hD hfin
    obtain ⟨hn1, hn2⟩ := List.nodup_cons.1 hnd
    obtain ⟨d1, d2, d3⟩ := hD D (by simp)
    have hlt : D < w.heap.size := (Array.getElem?_eq_some_iff.1 d3).1
    obtain ⟨w1, hw1⟩ : ∃ w1, w.putObj D (.deferred none) = w1 := ⟨_, rfl⟩
    have hg : w.grownBy w1 (some D) := by rw [← hw1]; exact grownBy_putObj' _ _ _
    have hs1 : w1.heap.size = w.heap.size := by rw [← hw1]; simp
    have hoth : ∀ k, k ≠ D → w1.heap[k]? = w.heap[k]? := fun k hk => by rw [← hw1]; exact World.putObj_heap_other fun e => hk (by rw [e])
    refine ⟨hmd, .inl ⟨D, w1, rfl, by rw [← hw1]; exact run_takeDeferred d3, ?_⟩⟩
    have hmut : ∀ b, Mut s bx rw_ b → E2.Own b := by
      rintro b (⟨k, B, hB, e⟩ | ⟨q, R', hR, e⟩)
      · obtain ⟨h1, cv, hh, _⟩ := hS.boxes k B hB
        rw [e] at h1 hh
        rcases h1 with h1 | h1
        · exact h1.1
        · have h1 : w.heap.size ≤ b := h1
          have := (Array.getElem?_eq_some_iff.1 hh).1
          omega
      · obtain ⟨h1, us, hown, _⟩ := hS.rows q R' hR
        rcases h1 b e with h1 | h1
        · exact h1.1
        · have h1 : w.heap.size ≤ b := h1
          have := hown.lt e
          omega
    have hmlt : ∀ b, Mut s bx rw_ b → b < w.heap.size := by
      rintro b (⟨k, B, hB, e⟩ | ⟨q, R', hR, e⟩)
      · obtain ⟨h1, cv, hh, _⟩ := hS.boxes k B hB
        rw [e] at hh
        exact (Array.getElem?_eq_some_iff.1 hh).1
      · obtain ⟨h1, us, hown, _⟩ := hS.rows q R' hR
        exact hown.lt e
    have hS1 : Sim C.Θ ⟨w1, fun b => E2.Own b ∧ b < w1.heap.size, E2.F, E2.PB, E2.PR, []⟩ s tm w1 bx rw_ := by
      refine hS.move hg ⟨rfl, rfl, rfl, Nat.le_refl _, fun _ _ _ => rfl⟩ (hS.glob.step hS.below hg (fun q e => by cases e; exact no_cell d3 rfl) rfl fun b h => .inl ⟨h.1, by have := h.2; omega⟩) rfl rfl (fun b hm _ => .inl ⟨hmut b hm, by rw [hs1]; exact hmlt b hm⟩) (fun b hb' => ⟨?_, by rw [hs1]; exact hb'.2.1, hb'.2.2⟩) (fun q e => ?_)
      · rcases hb'.1 with h1 | h1
        · exact .inl h1
        · rcases h1 with h1 | h1
          · exact .inr (.inl ⟨h1.1, by rw [hs1]; exact h1.2⟩)
          · have h1 : w.heap.size ≤ b := h1
            have := hb'.2.1; omega
      · cases e
        refine ⟨fun hf => ?_, fun hm => d1 (hmut _ hm)⟩
        rcases hf.1 with h1 | h1
        · exact d2 h1
        · rcases h1 with h1 | h1
          · exact d1 h1.1
          · have h1 : w.heap.size ≤ D := h1
            omega
    refine ih w1 hS1 hn2 (fun D' hm => ?_) (fun w' hS' e1 e2 e3 e4 e5 => hfin w' hS' (e1.trans hg.os) (e2.trans hg.tape) (e3.trans hg.output) (e4.trans hs1) fun k hk => ?_)
    · obtain ⟨g1, g2, g3⟩ := hD D' (by simp [hm])
      exact ⟨g1, g2, (hoth D' fun e => hn1 (e ▸ hm)).trans g3⟩
    · simp only [List.mem_cons, not_or] at hk
      exact (e5 k hk.2).trans (hoth k hk.1)
noncomputable def outK (C : Cx) (fn : Func) (outs : List (Ex × Shape)) (e : Ex) (s : St C.Θ.T) : Option (Outs C.Θ.T outs) := match e with
  | .exit _ => none
  | .normal => handsBack C fn outs s
  | .ret => handsBack C fn outs s
  | .pan t => outOf outs (.pan t) s
theorem func_gen {g : FuncId} {fn : Func} {hin : Shape} {outs : List (Ex × Shape)} (hf : C.P.funcs[g]? = some fn) {c : Code} (hb : fn.body = some c) {x : hin.X C.Θ.T} {z : Outs C.Θ.T outs} {E : Env} {vs : List Value} {bx : Nat → Nat → Nat} {rw_ : Nat → Nat → Value} (hED : E.D = []) (hS : Sim C.Θ E (hin.st x) vs.toArray E.w0 bx rw_)
    (hcode : ∀ Q, Ends (outK C fn outs) z E Q → ∀ a, At C.Θ E (entry C fn hin x) a E.w0 → c.wpIn Fence.wide 0 C.P Q a E.w0) : Calls C.P g vs.toArray E.w0 (Post C.Θ E outs z) := by
  have hG0 := hS.glob
  refine callsIn_wide.1 (callsIn_of_wp_marks (n := 0) hf hb trivial (hcode _ ?_ _ (entry_at hED hS)))
  refine ⟨fun E2 e s a W hp hbs he h0 => ?_, fun E2 ty s u a W hbs he hd hS _ => ?_⟩
  rotate_left
  · obtain ⟨bx, rw_, hS⟩ := hS
    obtain ⟨Ds, hDs, hnd, hD⟩ := hbs.marks
    have hmlt : ∀ b, Mut s bx rw_ b → b < W.heap.size := by
      rintro b (⟨k, B, hB, e⟩ | ⟨q, R', hR, e⟩)
      · obtain ⟨_, cv, hh, _⟩ := hS.boxes k B hB
        rw [← e]; exact (Array.getElem?_eq_some_iff.1 hh).1
      · obtain ⟨_, us, hown, _⟩ := hS.rows q R' hR
        exact hown.lt e
    have hmown : ∀ b, Mut s bx rw_ b → E2.Own b := by
      rintro b (⟨k, B, hB, e⟩ | ⟨q, R', hR, e⟩)
      · rw [← e]; exact (hS.boxes k B hB).1
      · exact (hS.rows q R' hR).1 b e
    have hS0 : Sim C.Θ ⟨W, fun b => E2.Own b ∧ b < W.heap.size, E2.F, E2.PB, E2.PR, []⟩ s #[u] W bx rw_ := by
      refine hS.move (row := none) ⟨rfl, rfl, rfl, Nat.le_refl _, fun _ _ _ => rfl⟩ ⟨rfl, rfl, rfl, Nat.le_refl _, fun _ _ _ => rfl⟩ (hS.glob.step (row := none) hS.below ⟨rfl, rfl, rfl, Nat.le_refl _, fun _ _ _ => rfl⟩ (fun q e => by cases e) rfl fun b h => h.1) rfl rfl (fun b hm ho => .inl ⟨ho, hmlt b hm⟩) (fun b hb' => ⟨?_, hb'.2.1, hb'.2.2⟩) (fun q e => by cases e)
      rcases hb'.1 with h1 | h1
      · exact .inl h1
      · exact .inr (.inl ⟨h1, hb'.2.1⟩)
    show LeavesInM Fence.wide 0 C.P fn a.tmps (Post C.Θ E outs z) a.defers _ W
    rw [hd, hDs, hED]
    refine leave_ok (E2 := E2) (tms := a.tmps) (by simp) Ds W hS0 hnd (fun D hm => ?_) (fun w' hS' e1 e2 e3 e4 e5 => ?_)
    · obtain ⟨⟨d1, d2, d3⟩, d4, d5⟩ := hD D hm
      refine ⟨fun h => ?_, d4, (hS.below.block D d1 d2).trans d3⟩
      rcases h with h | h
      · exact d2 h
      · omega
    have hKE := hbs.keeps hS.below
    have hK' : Keeps E w' := ⟨e1.trans hKE.os, e2.trans hKE.tape, e3.trans hKE.output, by rw [e4]; exact hKE.size, fun k hk hz => by
      rw [e5 k fun hm => by have := (hD k hm).2.2; omega]
      exact hKE.block k hk hz⟩
    have hSE : Sim C.Θ E s #[u] w' bx rw_ := by
      refine hS'.move (row := none) ⟨rfl, rfl, rfl, Nat.le_refl _, fun _ _ _ => rfl⟩ hK' hG0 hbs.PB.symm hbs.PR.symm (fun b hm _ => hbs.own b (hmown b hm)) (fun b hb' => ⟨?_, hb'.2.1, hb'.2.2⟩) (fun q e => by cases e)
      rcases hb'.1 with h1 | h1
      · exact hbs.F b h1
      · rcases h1 with h1 | h1
        · exact .inr (hbs.own b h1.1)
        · have h1 : w'.heap.size ≤ b := h1
          have := hb'.2.1; omega
    obtain ⟨sh, x', hx', hto⟩ := out_ok _ _ _ _ he
    obtain ⟨bx', rw', hS2⟩ := ext_ok hSE hx'
    show Post C.Θ E outs z (.panicked _) w'
    unfold Post
    rw [hto]
    exact ⟨u, bx', rw', rfl, hS2⟩
  obtain ⟨hd, bx, rw_, hS⟩ := h0
  have fin : ∀ hh : handsBack C fn outs s = some z, LeavesInM Fence.wide 0 C.P fn a.tmps (Post C.Θ E outs z) a.defers .returning W := by
    intro hh
    obtain ⟨Ds, hDs, hnd, hD⟩ := hbs.marks
    rw [hd, hDs, hED]
    have hmlt : ∀ b, Mut s bx rw_ b → b < W.heap.size := by
      rintro b (⟨k, B, hB, e⟩ | ⟨q, R', hR, e⟩)
      · obtain ⟨_, cv, hh, _⟩ := hS.boxes k B hB
        rw [← e]; exact (Array.getElem?_eq_some_iff.1 hh).1
      · obtain ⟨_, us, hown, _⟩ := hS.rows q R' hR
        exact hown.lt e
    have hmown : ∀ b, Mut s bx rw_ b → E2.Own b := by
      rintro b (⟨k, B, hB, e⟩ | ⟨q, R', hR, e⟩)
      · rw [← e]; exact (hS.boxes k B hB).1
      · exact (hS.rows q R' hR).1 b e
    have hS0 : Sim C.Θ ⟨W, fun b => E2.Own b ∧ b < W.heap.size, E2.F, E2.PB, E2.PR, []⟩ s a.tmps W bx rw_ := by
      refine hS.move (row := none) ⟨rfl, rfl, rfl, Nat.le_refl _, fun _ _ _ => rfl⟩ ⟨rfl, rfl, rfl, Nat.le_refl _, fun _ _ _ => rfl⟩ (hS.glob.step (row := none) hS.below ⟨rfl, rfl, rfl, Nat.le_refl _, fun _ _ _ => rfl⟩ (fun q e => by cases e) rfl fun b h => h.1) rfl rfl (fun b hm ho => .inl ⟨ho, hmlt b hm⟩) (fun b hb' => ⟨?_, hb'.2.1, hb'.2.2⟩) (fun q e => by cases e)
      rcases hb'.1 with h1 | h1
      · exact .inl h1
      · exact .inr (.inl ⟨h1, hb'.2.1⟩)
    refine leave_ok (E2 := E2) (tms := a.tmps) (by simp) Ds W hS0 hnd (fun D hm => ?_) (fun w' hS' e1 e2 e3 e4 e5 => ?_)
    · obtain ⟨⟨d1, d2, d3⟩, d4, d5⟩ := hD D hm
      refine ⟨fun h => ?_, d4, (hS.below.block D d1 d2).trans d3⟩
      rcases h with h | h
      · exact d2 h
      · omega
    have hKE := hbs.keeps hS.below
    have hK' : Keeps E w' := ⟨e1.trans hKE.os, e2.trans hKE.tape, e3.trans hKE.output, by rw [e4]; exact hKE.size, fun k hk hz => by
      rw [e5 k fun hm => by have := (hD k hm).2.2; omega]
      exact hKE.block k hk hz⟩
    have hSE : Sim C.Θ E s a.tmps w' bx rw_ := by
      refine hS'.move (row := none) ⟨rfl, rfl, rfl, Nat.le_refl _, fun _ _ _ => rfl⟩ hK' hG0 hbs.PB.symm hbs.PR.symm (fun b hm _ => hbs.own b (hmown b hm)) (fun b hb' => ⟨?_, hb'.2.1, hb'.2.2⟩) (fun q e => by cases e)
      rcases hb'.1 with h1 | h1
      · exact hbs.F b h1
      · rcases h1 with h1 | h1
        · exact .inr (hbs.own b h1.1)
        · have h1 : w'.heap.size ≤ b := h1
          have := hb'.2.1; omega
    unfold handsBack at hh
    split at hh <;> try (cases hh; done)
    rename_i hc
    obtain ⟨us, h1, h2⟩ := results_ok hSE fn.results.toList (cellsOk_spec hc)
    have hS1 : Sim C.Θ E ⟨fn.results.toList.map (resultAV C s), s.boxes, s.rows⟩ us.toArray w' bx rw_ := by
      refine ⟨hSE.below, hSE.glob, hSE.pinB, hSE.pinR, hSE.rwsl, hSE.boxes, hSE.rows, hSE.bb, hSE.rr, hSE.br, by simpa using h2.length, fun i => ?_⟩
      simp only [St.at_, List.getD_eq_getElem?_getD, Array.getD_eq_getD_getElem?, List.getElem?_toArray]
      cases hi : (fn.results.toList.map (resultAV C s))[i]? with
      | none => exact trivial
      | some v =>
        obtain ⟨u, hu, hr⟩ := h2.get i hi
        simp only [hu, Option.getD_some]
        exact hr
    obtain ⟨sh, x', hx', hto⟩ := out_ok _ _ _ _ hh
    obtain ⟨bx', rw', hS2⟩ := ext_ok hS1 hx'
    have hr : (results fn a.tmps).run C.P w' = .ok (tupleOf us) w' := by
      rw [results_eq, Sem.run_bind, h1]
      rfl
    refine ⟨_, hr, ?_⟩
    unfold Post
    rw [hto]
    exact ⟨rfl, us, bx', rw', rfl, hS2⟩
  cases e with
  | exit i => cases he
  | normal => exact fin he
  | ret => exact fin he
  | pan ty => exact absurd rfl (hp ty)
theorem func_ok' (hC : C.Ok) {g : FuncId} {fn : Func} {p : Plan} {hin : Shape} {outs : List (Ex × Shape)} {F : hin.X C.Θ.T → Option (Outs C.Θ.T outs)} (hf : C.P.funcs[g]? = some fn) (hname : (fn.name == "runtime.NumGoroutine") = false)
    (hl : hin.lentOk = true) (h : ∀ x, denF C n fn p hin outs x = F x) (hb : fn.body.isSome = true) : PCalls C.P C.Θ g ⟨hin, outs, F⟩ := by
  obtain ⟨c, hb⟩ := Option.isSome_iff_exists.1 hb
  refine ⟨Go.Proofs.enters_of hf hname hb, hl, ?_⟩
  intro x z hz E vs bx rw_ hED hS
  have hz : denF C n fn p hin outs x = some z := by rw [h]; exact hz
  unfold denF at hz
  simp only [hb] at hz
  exact func_gen hf hb hED hS fun Q hE a ha => code_ok (m := 0) (F := Fence.wide) hC (.inl rfl) c p _ _ z (.inl rfl) hz E _ E.w0 _ (Rebase.refl E) ha hE
end
end Go.Den
namespace Go.Den
open Go Go.RowKit
section
variable {C : Cx} {n : Nat}
section
variable {W : World} {F : Nat → Prop} {bx : Nat → Nat → Nat} {rw_ : Nat → Nat → Value}
end
end
end Go.Den
namespace Go.Den
open Go Go.RowKit
def fieldsFlat : List Field → Nat → Bool
  | [], _ => true
  | f :: fs, i => (f.offset == i && f.name != "_") && fieldsFlat fs (i + 1)
section
variable {P : Program}
theorem kindV_spec {ft : TypeId} {u : Value} (h : kindV P ft u = true) : (∃ k n k', u = .int k n ∧ P.underlying ft = some (.int k')) ∨ (∃ b, u = .bool b ∧ P.underlying ft = some .bool) ∨ ∃ b, u = .string b ∧ P.underlying ft = some .string := by
  cases u <;> simp only [kindV] at h <;> try (cases h; done)
  · split at h <;> try (cases h; done)
    rename_i k hk
    exact .inr (.inl ⟨_, rfl, hk⟩)
  · split at h <;> try (cases h; done)
    rename_i k hk
    exact .inl ⟨_, _, _, rfl, hk⟩
  · split at h <;> try (cases h; done)
    rename_i hk
    exact .inr (.inr ⟨_, rfl, hk⟩)
theorem run_fields (d : Nat) (w : World) : ∀ (fs : List Field) (i : Nat) (p1 p2 us vs : List Value) (r : Bool), fieldsFlat fs i = true → kindsV P fs us = true → eqVals us vs = some r → p1.length = i → p2.length = i →
    (Op.eqFields (d + 1) (p1 ++ us).toArray (p2 ++ vs).toArray fs).run P w = .ok r w := by
  intro fs
  induction fs with
  | nil =>
    intro i p1 p2 us vs r _ hk he _ _
    cases us with
    | cons u us => simp [kindsV] at hk
    | nil =>
      cases vs with
      | cons v vs => simp [eqVals] at he
      | nil => simp [eqVals] at he; subst he; simp [Op.eqFields]
  | cons f fs ih =>
    intro i p1 p2 us vs r hf hk he h1 h2
    cases us with
    | nil => simp [kindsV] at hk
    | cons u us =>
    cases vs with
    | nil => cases u <;> simp [eqVals] at he
    | cons v vs =>
    simp only [fieldsFlat, Bool.and_eq_true, beq_iff_eq, bne_iff_ne, ne_eq] at hf
    obtain ⟨⟨hoff, hname⟩, hrest⟩ := hf
    simp only [kindsV, Bool.and_eq_true] at hk
    have part1 : ∀ (p l : List Value) (x : Value), p.length = i → P.underlying f.type = P.underlying f.type → ((isAgg f.type).run P w = .ok false w) → (part f.type (p ++ x :: l).toArray f.offset).run P w = .ok x w := by
      intro p l x hp _ hag
      have hget : (p ++ x :: l).toArray[f.offset]? = some x := by
        rw [hoff, ← hp]; simp
      simp [part, Sem.run_bind, hag, hget]
    have go : ∀ (q : Bool) (r' : Bool), eqVals us vs = some r' → r = (q && r') → ((isAgg f.type).run P w = .ok false w) → ((Op.equalIn (d + 1) f.type u v).run P w = .ok q w) → (Op.eqFields (d + 1) (p1 ++ u :: us).toArray (p2 ++ v :: vs).toArray (f :: fs)).run P w = .ok r w := by
      intro q r' hr' hr hag heq
      have e1 := part1 p1 us u h1 rfl hag
      have e2 := part1 p2 vs v h2 rfl hag
      have e3 := ih (i + 1) (p1 ++ [u]) (p2 ++ [v]) us vs r' hrest hk.2 hr' (by simp [h1]) (by simp [h2])
      simp only [List.append_assoc, List.singleton_append] at e3
      simp only [Op.eqFields, hname, ne_eq, not_false_eq_true, if_true, Sem.run_bind, e1, e2, heq, Result.andThen_ok]
      cases q with
      | false => simp [hr]
      | true => simp [e3, hr]
    rcases kindV_spec hk.1 with ⟨k, a, k', rfl, hu⟩ | ⟨a, rfl, hu⟩ | ⟨a, rfl, hu⟩
    · cases v <;> simp only [eqVals] at he <;> try (cases he; done)
      split at he <;> try (cases he; done)
      rename_i hkk
      subst hkk
      cases hr : eqVals us vs with
      | none => simp [hr] at he
      | some r' =>
        simp only [hr, Option.map_some, Option.some.injEq] at he
        exact go _ r' hr he.symm (by simp [isAgg, run_underlying hu]) (run_equalIn_int w d f.type _ _ _ _ hu)
    · cases v <;> simp only [eqVals] at he <;> try (cases he; done)
      cases hr : eqVals us vs with
      | none => simp [hr] at he
      | some r' =>
        simp only [hr, Option.map_some, Option.some.injEq] at he
        exact go _ r' hr he.symm (by simp [isAgg, run_underlying hu]) (run_equalIn_bool' w d f.type _ _ hu)
    · cases v <;> simp only [eqVals] at he <;> try (cases he; done)
      cases hr : eqVals us vs with
      | none => simp [hr] at he
      | some r' =>
        simp only [hr, Option.map_some, Option.some.injEq] at he
        exact go _ r' hr he.symm (by simp [isAgg, run_underlying hu]) (run_equalIn_string w d f.type _ _ hu)
theorem eqT_of {t : TypeId} (ht : P.underlying t = some (.struct (P.fieldsOf t))) (hp : P.stoodInHeld t = false) (hm : P.eqGuardType P.depth t = false) (hf : fieldsFlat (P.fieldsOf t).toList 0 = true) : EqT P t := by
  have key : ∀ (us vs : List Value) (r : Bool) (W : World), kindsV P (P.fieldsOf t).toList us = true → eqVals us vs = some r → (Op.equalIn 10000 t (.agg us.toArray) (.agg vs.toArray)).run P W = .ok r W := by
    intro us vs r W hk he
    rw [run_equalIn_struct W 9999 t _ _ ht hp]
    exact run_fields 9998 W _ 0 [] [] us vs r hf hk he rfl rfl
  constructor
  · intro us vs r x y W _ hk he
    simp only [Sem.run_bind, run_eqGuard_agg W _ _ _ _ _ _ hm, Result.andThen_ok, run_eql_struct, key us vs r W hk he]
  · intro us vs r x y W _ hk he
    simp only [Sem.run_bind, run_eqGuard_agg W _ _ _ _ _ _ hm, Result.andThen_ok, run_neq_struct, key us vs r W hk he]
end
end Go.Den
namespace Go.Den
open Go Go.RowKit
inductive PD where
  | one (l : Leaf)
  | agg (ls : List Leaf)
def PD.Ty (T : TypeId → Type) : PD → Type
  | .one l => l.Ty T
  | .agg ls => HT (Leaf.Ty T) ls
def RelP (Θ : Tab) (W : World) (F : Nat → Prop) : (Σ p : PD, p.Ty Θ.T) → Value → Prop
  | ⟨.one l, x⟩, u => Rep Θ W F u (l.mk x)
  | ⟨.agg ls, x⟩, u => ∃ us : List Value, u = .agg us.toArray ∧ All2 (fun p u => Rep Θ W F u p) (HT.list Leaf.mk ls x) us
def pdAV {T : TypeId → Type} : (p : PD) → p.Ty T → AV T
  | .one l, x => .c (.v (l.mk x))
  | .agg ls, x => .agg ((HT.list Leaf.mk ls x).map .v)
theorem pdAV_ok {Θ : Tab} {W : World} {bx : Nat → Nat → Nat} {rw_ : Nat → Nat → Value} {F : Nat → Prop} {p : PD} {x : p.Ty Θ.T} {u : Value} (h : RelP Θ W F ⟨p, x⟩ u) : RAV Θ W F bx rw_ (pdAV p x) u := by
  cases p with
  | one l => exact h
  | agg ls => obtain ⟨us, e, ha⟩ := h; exact ⟨us, e, All2.map_left ha⟩
inductive WfP (Θ : Tab) : PV Θ.T → Prop where
  | int (k : IntKind) (n : Int) (h : (Lit.int k n).wf = true) : WfP Θ (.int k n)
  | bool (b : Bool) : WfP Θ (.bool b)
  | str (s : ByteArray) (h : s.size ≤ maxLen) : WfP Θ (.str s)
  | sl (e : TypeId) (l : List (Θ.T e)) (h : l.length ≤ maxLen) (hl : ∀ y ∈ l, ∀ p ∈ Θ.enc e y, WfP Θ p) : WfP Θ (.sl e l)
def leafEq : Leaf → Leaf → Bool
  | .int k, .int k' => decide (k = k')
  | .bool, .bool => true
  | .str, .str => true
  | .sl e, .sl e' => Nat.beq e e'
  | _, _ => false
def leavesEq : List Leaf → List Leaf → Bool
  | [], [] => true
  | a :: r, b :: s => leafEq a b && leavesEq r s
  | _, _ => false
theorem leafEq_eq {a b : Leaf} (h : leafEq a b = true) : a = b := by
  cases a <;> cases b <;> simp only [leafEq] at h <;> try (cases h; done)
  · rw [of_decide_eq_true h]
  · rfl
  · rfl
  · rw [Nat.eq_of_beq_eq_true h]
theorem leavesEq_eq : ∀ {a b : List Leaf}, leavesEq a b = true → a = b := by
  intro a
  induction a with
  | nil => intro b h; cases b with | nil => rfl | cons _ _ => cases h
  | cons x a ih =>
    intro b h
    cases b with
    | nil => cases h
    | cons y b =>
      simp only [leavesEq, Bool.and_eq_true] at h
      rw [leafEq_eq h.1, ih h.2]
section
variable (P : Program) (Θ : Tab)
def fieldsL (f : TypeId → Option (List Leaf)) : Nat → List Field → Option (Nat × List Leaf)
  | off, [] => some (off, [])
  | off, fd :: r => match f fd.type with
    | some ls => if (Nat.beq fd.offset off && Nat.beq ls.length (P.cellsOf fd.type)) then (match fieldsL f (off + ls.length) r with
      | some (z, ls') => some (z, ls ++ ls')
      | none => none) else none
    | none => none
def timesL (ls : List Leaf) : Nat → List Leaf
  | 0 => []
  | n + 1 => ls ++ timesL ls n
def tyLeaves : Nat → TypeId → Option (List Leaf)
  | 0, _ => none
  | g + 1, t => match P.underlying t with
    | some (.int k) => some [.int k]
    | some .bool => some [.bool]
    | some .string => some [.str]
    | some (.slice e) => match tyLeaves g e with
      | some ls => if (leavesEq ls (Θ.E e).leaves && Nat.beq ls.length (P.cellsOf e)) && Nat.blt 0 ls.length then some [.sl e] else none
      | none => none
    | some (.struct fs) => match fieldsL P (tyLeaves g) 0 fs.toList with
      | some (z, ls) => if Nat.beq z (P.cellsOf t) then some ls else none
      | none => none
    | some (.array n e) => match tyLeaves g e with
      | some ls => if Nat.beq ls.length (P.cellsOf e) && Nat.beq (n * ls.length) (P.cellsOf t) then some (timesL ls n) else none
      | none => none
    | _ => none
end
section
variable {P : Program} {Θ : Tab} {w : World} {H : Type} {enc : TypeId × Value → H}
abbrev Typed (Θ : Tab) (ls : List Leaf) (ps : List (PV Θ.T)) : Prop := All2 (fun l p => ∃ y : l.Ty Θ.T, p = l.mk y) ls ps
theorem typed_ht : ∀ (ls : List Leaf) (ps : List (PV Θ.T)), Typed Θ ls ps → ∃ x : HT (Leaf.Ty Θ.T) ls, HT.list Leaf.mk ls x = ps := by
  intro ls
  induction ls with
  | nil => intro ps h; cases h; exact ⟨(), rfl⟩
  | cons l ls ih =>
    intro ps h
    cases h with | cons h t =>
    obtain ⟨y, rfl⟩ := h
    cases ls with
    | nil => cases t; exact ⟨y, rfl⟩
    | cons l2 ls =>
      obtain ⟨x, hx⟩ := ih _ t
      exact ⟨(y, x), by simp only [HT.list]; rw [hx]⟩
abbrev Seen (Θ : Tab) (w : World) (p : PV Θ.T) (u : Value) : Prop := Rep Θ w (fun b => b < w.heap.size) u p ∧ WfP Θ p
theorem exists_list {A : Type} {Q : Nat → A → Prop} : ∀ n : Nat, (∀ i, i < n → ∃ y, Q i y) → ∃ l : List A, l.length = n ∧ ∀ i y, l[i]? = some y → Q i y := by
  intro n
  induction n with
  | zero => intro _; exact ⟨[], rfl, fun i y h => by simp at h⟩
  | succ n ih =>
    intro h
    obtain ⟨l, h1, h2⟩ := ih fun i hi => h i (by omega)
    obtain ⟨y, hy⟩ := h n (by omega)
    refine ⟨l ++ [y], by simp [h1], fun i z hz => ?_⟩
    by_cases hi : i < l.length
    · rw [List.getElem?_append_left hi] at hz; exact h2 i z hz
    · rw [List.getElem?_append_right (by omega)] at hz
      have : i - l.length = 0 := by
        have := (List.getElem?_eq_some_iff.1 hz).1
        simp at this; omega
      rw [this] at hz
      simp at hz
      subst hz
      have : i = n := by omega
      rw [this]; exact hy
theorem cell_spot {a : Addr} {v : Value} (h : w.cell? a = some v) : a.spot = none ∧ a.block < w.heap.size := by
  unfold World.cell? at h
  split at h <;> try (cases h; done)
  rename_i c _ _ hb
  split at h <;> try (cases h; done)
  rename_i hs
  exact ⟨by simpa using hs, (Array.getElem?_eq_some_iff.1 hb).1⟩
theorem cells_get {base : Nat} {a : Addr} {n : Nat} {cs : List Value} (h : w.cells? base a n = some cs) : cs.length = n ∧ ∀ j, j < n → w.cell? (a.add j) = cs[j]? := by
  unfold World.cells? at h
  split at h <;> try (cases h; done)
  have h1 := mapM_some_length h
  have h2 := mapM_some_get h
  simp at h1
  exact ⟨h1, fun j hj => h2 j j (by simp [hj])⟩
theorem seen_times : ∀ (n z : Nat) (ls : List Leaf) (cs : List Value), ls.length = z → cs.length = n * z → (∀ i, i < n → ∃ pvs, Typed Θ ls pvs ∧ All2 (Seen Θ w) pvs ((cs.drop (i * z)).take z)) →
    ∃ pvs, Typed Θ (timesL ls n) pvs ∧ All2 (Seen Θ w) pvs cs := by
  intro n
  induction n with
  | zero =>
    intro z ls cs _ hc _
    have : cs = [] := List.eq_nil_of_length_eq_zero (by simpa using hc)
    subst this
    exact ⟨[], .nil, .nil⟩
  | succ n ih =>
    intro z ls cs hl hc h
    have hc' : (cs.drop z).length = n * z := by rw [List.length_drop, hc, Nat.succ_mul]; omega
    obtain ⟨p1, t1, a1⟩ := h 0 (by omega)
    obtain ⟨p2, t2, a2⟩ := ih z ls (cs.drop z) hl hc' fun i hi => by
      have := h (i + 1) (by omega)
      rw [Nat.succ_mul, Nat.add_comm, ← List.drop_drop] at this
      exact this
    refine ⟨p1 ++ p2, t1.append t2, ?_⟩
    have := a1.append a2
    simpa using this
theorem open_cells (hbase : w.heap.size ≤ Θ.base) : ∀ (fuel g : Nat) (t : TypeId) (cs : List Value) (ls : List Leaf) (x : DataW H × List MemPlace), DataW.trod enc P w 0 (fun _ => true) true fuel t cs = some x → tyLeaves P Θ g t = some ls → cs.length = ls.length →
    ∃ pvs, Typed Θ ls pvs ∧ All2 (Seen Θ w) pvs cs := by
  intro fuel
  induction fuel with
  | zero => intro g t cs ls x h; simp [DataW.trod] at h
  | succ fuel ih =>
    intro g t cs ls x h hg hlen
    cases g with
    | zero => cases hg
    | succ g =>
      have one : ∀ {l : Leaf} (y : l.Ty Θ.T) {u : Value}, Seen Θ w (l.mk y) u → ∃ pvs, Typed Θ [l] pvs ∧ All2 (Seen Θ w) pvs [u] := fun y _ hs => ⟨[_], .cons ⟨y, rfl⟩ .nil, .cons hs .nil⟩
      simp only [tyLeaves] at hg
      split at hg <;> try (cases hg; done)
      · rename_i k hu
        cases hg
        obtain ⟨n, rfl, _, hw⟩ := DataW.trod_int hu h
        exact one (l := .int k) n ⟨.int k n, .int k n hw⟩
      · rename_i hu
        cases hg
        obtain ⟨b, rfl, _⟩ := DataW.trod_bool hu h
        exact one (l := .bool) b ⟨.bool b, .bool b⟩
      · rename_i hu
        cases hg
        obtain ⟨b, rfl, _, hw⟩ := DataW.trod_string hu h
        exact one (l := .str) b ⟨.str b, .str b hw⟩
      · rename_i e hu
        split at hg <;> try (cases hg; done)
        rename_i els hels
        split at hg <;> try (cases hg; done)
        rename_i hck
        cases hg
        simp only [Bool.and_eq_true] at hck
        obtain ⟨⟨hck1, hck2⟩, hck3⟩ := hck
        have hle := leavesEq_eq hck1
        have hz : els.length = P.cellsOf e := Nat.eq_of_beq_eq_true hck2
        have hpos : 0 < els.length := by rw [Nat.blt_eq] at hck3; exact hck3
        have hsz : Θ.sz e = els.length := by unfold Tab.sz; rw [← hle]
        rcases DataW.trod_slice hu h with ⟨rfl, _⟩ | ⟨a, len, cap, elems, rest, n, hf, rfl, _, _, hl, hm, hlen', hel, _⟩
        · exact one (l := .sl e) [] ⟨Rep.nil _ _ _ _, .sl e [] (Nat.zero_le _) (fun y hy => by cases hy)⟩
        · have hf' : fuel = n := by omega
          subst hf'
          have each : ∀ i, i < len → ∃ y : Θ.T e, ∃ cs', w.cells? 0 (a.add (i * P.cellsOf e)) (P.cellsOf e) = some cs' ∧ All2 (Seen Θ w) (Θ.enc e y) cs' := by
            intro i hi
            have h1 := hel i hi
            have hlt : i < elems.length := by omega
            rw [List.getElem?_eq_getElem hlt, Option.bind_eq_some_iff] at h1
            obtain ⟨cs', hcs, hy⟩ := h1
            obtain ⟨pvs, ht, ha⟩ := ih g e cs' els _ hy hels (by rw [(cells_get hcs).1, hz])
            obtain ⟨x, hx⟩ := typed_ht els pvs ht
            refine ⟨(Θ.E e).of (hle ▸ x), cs', hcs, ?_⟩
            have : Θ.enc e ((Θ.E e).of (hle ▸ x)) = pvs := by
              unfold Tab.enc
              rw [(Θ.E e).inv, ← hx]
              clear ha hx ht
              subst hle
              rfl
            rw [this]; exact ha
          obtain ⟨l, hll, hlg⟩ := exists_list len each
          refine one (l := .sl e) l ⟨?_, ?_⟩
          · refine .sl e l (some a) len cap (fun i j => (w.cell? (a.add (i * Θ.sz e + j))).getD undef) hll hl (fun h => by cases h) (fun hne => ?_) (fun i j y x hy hx => ?_)
            · have hlen0 : 0 < len := by rw [← hll]; exact List.length_pos_iff.2 hne
              have cellAt : ∀ i j, i < len → j < Θ.sz e → ∃ v, w.cell? (a.add (i * Θ.sz e + j)) = some v := by
                intro i j hi hj
                obtain ⟨cs', hcs, _⟩ := (hlg i _ (List.getElem?_eq_getElem (by omega)))
                obtain ⟨g1, g2⟩ := cells_get hcs
                have := g2 j (by omega)
                rw [Go.Addr.add_add, ← hz, ← hsz] at this
                rw [this, List.getElem?_eq_getElem (by omega)]
                exact ⟨_, rfl⟩
              obtain ⟨v0, hv0⟩ := cellAt 0 0 hlen0 (by omega)
              have hs := cell_spot hv0
              have ea : a.add (0 * Θ.sz e + 0) = a := by simp [Addr.add]
              rw [ea] at hs
              refine ⟨a, rfl, hs.1, fun _ => ⟨hs.2, fun hb => absurd (Nat.le_trans hbase hb) (Nat.not_le_of_lt hs.2)⟩, fun i j hi hj => ?_⟩
              obtain ⟨v, hv⟩ := cellAt i j (by omega) hj
              rw [hv]; rfl
            · obtain ⟨cs', hcs, ha⟩ := hlg i y hy
              obtain ⟨g1, g2⟩ := cells_get hcs
              obtain ⟨u, hu', hs⟩ := ha.get j hx
              have hj : j < P.cellsOf e := by rw [← g1]; exact (List.getElem?_eq_some_iff.1 hu').1
              have := g2 j hj
              rw [Go.Addr.add_add, ← hz, ← hsz, hu'] at this
              rw [this]
              exact hs.1
          · refine .sl e l (by omega) (fun y hy p hp => ?_)
            obtain ⟨i, hi⟩ := List.mem_iff_getElem?.1 hy
            obtain ⟨cs', _, ha⟩ := hlg i y hi
            obtain ⟨j, hj⟩ := List.mem_iff_getElem?.1 hp
            obtain ⟨u, _, hs⟩ := ha.get j hj
            exact hs.2
      · rename_i fs hu
        split at hg <;> try (cases hg; done)
        rename_i z ls' hfl
        split at hg <;> try (cases hg; done)
        rename_i hzt
        cases hg
        obtain ⟨xs, m, hm, _, hcl, hxl, hx⟩ := DataW.trod_struct hu h
        have hm' : fuel = m := by omega
        subst hm'
        have fields : ∀ (l : List Field) (off z : Nat) (ls : List Leaf), fieldsL P (tyLeaves P Θ g) off l = some (z, ls) → (∀ f ∈ l, ∃ y, DataW.trod enc P w 0 (fun _ => true) true fuel f.type ((cs.drop f.offset).take (P.cellsOf f.type)) = some y) → z ≤ cs.length →
            z = off + ls.length ∧ ∃ pvs, Typed Θ ls pvs ∧ All2 (Seen Θ w) pvs ((cs.drop off).take ls.length) := by
          intro l
          induction l with
          | nil => intro off z ls h _ _; cases h; exact ⟨by simp, [], .nil, by simp; exact .nil⟩
          | cons f l ihl =>
            intro off z ls h hy hz
            simp only [fieldsL] at h
            split at h <;> try (cases h; done)
            rename_i l1 hl1
            split at h <;> try (cases h; done)
            rename_i hck
            split at h <;> try (cases h; done)
            rename_i z' l2 hl2
            cases h
            simp only [Bool.and_eq_true] at hck
            have ho : f.offset = off := Nat.eq_of_beq_eq_true hck.1
            have hn : l1.length = P.cellsOf f.type := Nat.eq_of_beq_eq_true hck.2
            obtain ⟨e1, p2, t2, a2⟩ := ihl _ _ _ hl2 (fun f hf => hy f (by simp [hf])) hz
            obtain ⟨y, hy'⟩ := hy f (by simp)
            rw [ho, ← hn] at hy'
            obtain ⟨p1, t1, a1⟩ := ih g f.type _ l1 y hy' hl1 (by rw [List.length_take, List.length_drop]; omega)
            refine ⟨by rw [e1, List.length_append]; omega, p1 ++ p2, t1.append t2, ?_⟩
            have := a1.append a2
            rw [← List.drop_drop, ← List.take_add] at this
            rw [List.length_append]
            exact this
        have hz' : z = P.cellsOf t := Nat.eq_of_beq_eq_true hzt
        obtain ⟨e1, pvs, ht, ha⟩ := fields fs.toList 0 z ls hfl (fun f hf => by
          obtain ⟨i, hi⟩ := List.mem_iff_getElem?.1 hf
          have hi' : fs[i]? = some f := by simpa using hi
          have := hx i f hi'
          have hlt : i < xs.length := by
            rw [hxl]; exact (Array.getElem?_eq_some_iff.1 hi').1
          rw [List.getElem?_eq_getElem hlt] at this
          exact ⟨_, this⟩) (by omega)
        refine ⟨pvs, ht, ?_⟩
        rw [List.drop_zero, ← hlen, List.take_length] at ha
        exact ha
      · rename_i n e hu
        split at hg <;> try (cases hg; done)
        rename_i els hels
        split at hg <;> try (cases hg; done)
        rename_i hck
        cases hg
        simp only [Bool.and_eq_true] at hck
        have hz : els.length = P.cellsOf e := Nat.eq_of_beq_eq_true hck.1
        have hz2 : n * els.length = P.cellsOf t := Nat.eq_of_beq_eq_true hck.2
        obtain ⟨xs, m, hm, _, hcl, hxl, hx⟩ := DataW.trod_array hu h
        have hm' : fuel = m := by omega
        subst hm'
        refine seen_times n els.length els cs rfl (by omega) fun i hi => ?_
        have h1 := hx i hi
        have hlt : i < xs.length := by omega
        rw [List.getElem?_eq_getElem hlt, ← hz] at h1
        refine ih g e _ els _ h1 hels ?_
        have : (i + 1) * els.length ≤ n * els.length := Nat.mul_le_mul_right _ hi
        rw [Nat.succ_mul] at this
        rw [List.length_take, List.length_drop]
        omega
def pdLeaves : PD → List Leaf
  | .one l => [l]
  | .agg ls => ls
def pdOk (P : Program) (Θ : Tab) (t : TypeId) (p : PD) : Bool := match tyLeaves P Θ 100 t with
  | some ls => leavesEq ls (pdLeaves p) && match P.underlying t, p with
    | some (.struct _), .agg _ => Nat.beq ls.length (P.cellsOf t)
    | some (.array _ _), .agg _ => Nat.beq ls.length (P.cellsOf t)
    | some (.struct _), .one _ => false
    | some (.array _ _), .one _ => false
    | _, .one _ => true
    | _, .agg _ => false
  | none => false
def WfA (Θ : Tab) : (p : PD) → p.Ty Θ.T → Prop
  | .one l, x => WfP Θ (l.mk x)
  | .agg ls, x => ∀ q ∈ HT.list Leaf.mk ls x, WfP Θ q
theorem open_arg (hbase : w.heap.size ≤ Θ.base) {r : Reach} {b0 : Nat} {t : TypeId} {p : PD} {v : Value} {d : DataW H} {ps : List MemPlace} (hp : pdOk P Θ t p = true) (hval : Value.okWide P w r b0 t v) (hd : DataW.Trod enc P w 0 (fun _ => true) true t v d ps) :
    ∃ x : p.Ty Θ.T, RelP Θ w (fun b => b < w.heap.size) ⟨p, x⟩ v ∧ WfA Θ p x := by
  obtain ⟨fuel, hf⟩ := hd
  unfold pdOk at hp
  split at hp <;> try (cases hp; done)
  rename_i ls hls
  simp only [Bool.and_eq_true] at hp
  obtain ⟨h1, h2⟩ := hp
  have hle := leavesEq_eq h1
  cases p with
  | one l =>
    simp only [pdLeaves] at hle
    have hv1 : v.cells = #[v] := by
      unfold Value.okWide at hval
      cases hu : P.underlying t with
      | none =>
        rw [hu] at hval
        cases v <;> first | rfl | (simp [Cell.okWide, hu, Cell.ok] at hval)
      | some d =>
        rw [hu] at hval h2
        cases d <;> first | (cases h2; done) | (cases v <;> first | rfl | (simp [Cell.okWide, hu, Cell.ok] at hval))
    rw [hv1] at hf
    obtain ⟨pvs, ht, ha⟩ := open_cells hbase fuel 100 t [v] ls (d, ps) hf hls (by rw [hle]; rfl)
    rw [hle] at ht
    cases ht with | cons h t' =>
    cases t'
    obtain ⟨y, rfl⟩ := h
    cases ha with | cons h t' =>
    exact ⟨y, h.1, h.2⟩
  | agg ls' =>
    simp only [pdLeaves] at hle
    have hagg : ∃ cs, v = .agg cs ∧ cs.size = ls.length := by
      unfold Value.okWide at hval
      cases hu : P.underlying t with
      | none => rw [hu] at h2; cases h2
      | some d =>
        rw [hu] at hval h2
        cases d <;> first
          | (cases h2; done)
          | (obtain ⟨cs, e, hs, _⟩ := hval; exact ⟨cs, e, by rw [hs]; exact (Nat.eq_of_beq_eq_true h2).symm⟩)
    obtain ⟨cs, rfl, hs⟩ := hagg
    have hc : (Value.agg cs).cells = cs := rfl
    rw [hc] at hf
    obtain ⟨pvs, ht, ha⟩ := open_cells hbase fuel 100 t cs.toList ls (d, ps) hf hls (by simpa using hs)
    rw [hle] at ht
    obtain ⟨x, hx⟩ := typed_ht ls' pvs ht
    refine ⟨x, ⟨cs.toList, by simp, ?_⟩, ?_⟩
    · rw [hx]; exact ha.mono fun p u h => h.1
    · intro q hq
      rw [hx] at hq
      obtain ⟨i, hi⟩ := List.mem_iff_getElem?.1 hq
      obtain ⟨u, _, h⟩ := ha.get i hi
      exact h.2
end
def AllC (P : Program) (Θ : Tab) : List (Nat × Spec Θ.T) → Prop
  | [] => True
  | (g, sp) :: r => PCalls P Θ g sp ∧ AllC P Θ r
theorem mem_all {P : Program} {Θ : Tab} : ∀ {l : List (Nat × Spec Θ.T)}, AllC P Θ l → ∀ p ∈ l, PCalls P Θ p.1 p.2 := by
  intro l
  induction l with
  | nil => intro _ p h; cases h
  | cons a l ih =>
    intro ha p h
    obtain ⟨g', sp'⟩ := a
    rcases List.mem_cons.1 h with e | e
    · rw [e]; exact ha.1
    · exact ih ha.2 p e
def AllY (P : Program) (Θ : Tab) : List (Nat × Spec Θ.T) → Prop
  | [] => True
  | (g, sp) :: r => PYields P Θ g sp ∧ AllY P Θ r
theorem mem_allY {P : Program} {Θ : Tab} {l : List (Nat × Spec Θ.T)} (h : AllY P Θ l) : ∀ p ∈ l, PYields P Θ p.1 p.2 := by
  revert h
  induction l with
  | nil => intro _ p h; cases h
  | cons a l ih =>
    intro ha p h
    obtain ⟨g', sp'⟩ := a
    rcases List.mem_cons.1 h with e | e
    · rw [e]; exact ha.1
    · exact ih ha.2 p e
def AllN (P : Program) (Θ : Tab) : List (Nat × NSpec Θ.T) → Prop
  | [] => True
  | (g, sp) :: r => PAmb P Θ g sp ∧ AllN P Θ r
theorem mem_allN {P : Program} {Θ : Tab} {l : List (Nat × NSpec Θ.T)} (h : AllN P Θ l) : ∀ p ∈ l, PAmb P Θ p.1 p.2 := by
  revert h
  induction l with
  | nil => intro _ p h; cases h
  | cons a l ih =>
    intro ha p h
    obtain ⟨g', sp'⟩ := a
    rcases List.mem_cons.1 h with e | e
    · rw [e]; exact ha.1
    · exact ih ha.2 p e
theorem ok_of {C : Cx} (h1 : C.P.follows .mixedOrders = true) (h2 : ∀ t ∈ C.eqs, EqT C.P t) (h3 : AllC C.P C.Θ C.Γ) (h4 : AllY C.P C.Θ C.Δ) (h5 : AllN C.P C.Θ C.N) : C.Ok := ⟨h1, h2, mem_all h3, mem_allY h4, mem_allN h5⟩
def boolOut : Shape := ⟨[.c (.hole .bool)], [], []⟩
theorem law_ok {P : Program} {Θ : Tab} {g : FuncId} {hin : Shape} {F : hin.X Θ.T → Option Bool} (hc : PCalls P Θ g ⟨hin, [(.ret, boolOut)], F⟩) (hb : hin.boxes = []) (hr : hin.rows = []) {x : hin.X Θ.T} {b : Bool} (hF : F x = some b) {W : World} {vs : List Value} (hg : ∀ p ∈ Θ.G, p.1 < W.heap.size ∧ ∀ j u, p.2[j]? = some u → W.cell? ⟨p.1, j, none⟩ = some u)
    (hall : All2 (RAV Θ W (fun b => b < W.heap.size) (fun _ _ => 0) (fun _ _ => .slice none 0 0)) (hin.st x).slots vs) : Calls P g vs.toArray W fun e w' => e = .returned (.bool b) ∧ Below W.heap.size W w' := by
  have e1 : (hin.st x).boxes = [] := by unfold Shape.st Shape.mk'; simp only [hb]; rfl
  have e2 : (hin.st x).rows = [] := by unfold Shape.st Shape.mk'; simp only [hr]; rfl
  let E : Env := ⟨W, fun _ => False, fun b => b < W.heap.size, fun _ _ => False, fun _ _ => False, []⟩
  have hM : ∀ bx rw_ b, ¬ Mut (hin.st x) bx rw_ b := by
    rintro bx rw_ b (⟨k, B, h, _⟩ | ⟨r, R, h, _⟩)
    · rw [e1] at h; cases h
    · rw [e2] at h; cases h
  have hS : Sim Θ E (hin.st x) vs.toArray E.w0 (fun _ _ => 0) (fun _ _ => .slice none 0 0) := by
    refine ⟨⟨rfl, rfl, rfl, Nat.le_refl _, fun _ _ _ => rfl⟩, fun p hp => ⟨(hg p hp).1, fun h => h.elim, (hg p hp).2⟩, fun k b h => h.elim, fun r v h => h.elim, fun _ _ => .inl ⟨_, _, _, rfl⟩, fun k B h => (by rw [e1] at h; cases h), fun r R h => (by rw [e2] at h; cases h), fun k B k' B' h => (by rw [e1] at h; cases h),
      fun r R r' R' b h => (by rw [e2] at h; cases h), fun k B r R h => (by rw [e1] at h; cases h), by simp [hall.length], fun i => ?_⟩
    have := hall.mono (R' := RAV Θ W (FF E (hin.st x) (fun _ _ => 0) (fun _ _ => .slice none 0 0) W) (fun _ _ => 0) (fun _ _ => .slice none 0 0)) (fun a u h => RAV.trans (fun b hb => ⟨.inl hb, hb, hM _ _ _⟩) (fun _ _ => rfl) (fun _ _ => rfl) (fun _ _ => rfl) h)
    simp only [St.at_, List.getD_eq_getElem?_getD, Array.getD_eq_getD_getElem?, List.getElem?_toArray]
    cases hi : (hin.st x).slots[i]? with
    | none => exact trivial
    | some v =>
      obtain ⟨u, hu, hr⟩ := this.get i hi
      simp only [hu, Option.getD_some]
      exact hr
  refine Calls.mono (hc.calls x b hF E vs _ _ rfl hS) ?_
  intro e w' hp
  obtain ⟨_, us, bx, rw_, rfl, hT⟩ := hp
  have hl : us.length = 1 := by have := hT.len; simpa [boolOut, Shape.st, Shape.mk', fillAs] using this.symm
  obtain ⟨u, rfl⟩ : ∃ u, us = [u] := List.length_eq_one_iff.1 hl
  have h0 : u = .bool b := by
    have := hT.slots 0
    have h1 : RAV Θ w' (FF E (boolOut.st b) bx rw_ w') bx rw_ (.c (.v (.bool b))) u := this
    exact rav_bool h1
  subst h0
  refine ⟨by simp [tupleOf], hT.below.os, hT.below.tape, hT.below.output, hT.below.size, fun k hk => hT.below.block k hk (fun h => h)⟩
end Go.Den
namespace Go.Den
open Go Go.RowKit
def kindP {T : TypeId → Type} : PV T → Leaf
  | .int k _ => .int k
  | .bool _ => .bool
  | .str _ => .str
  | .sl e _ => .sl e
theorem kindP_mk {T : TypeId → Type} (l : Leaf) (x : l.Ty T) : kindP (l.mk x) = l := by cases l <;> rfl
theorem kindP_ex {T : TypeId → Type} (x : PV T) : ∃ y : (kindP x).Ty T, x = (kindP x).mk y := by cases x <;> exact ⟨_, rfl⟩
section
variable {Θ : Tab}
theorem kind_list : ∀ (ls : List Leaf) (h : HT (Leaf.Ty Θ.T) ls), (HT.list Leaf.mk ls h).map kindP = ls
  | [], _ => rfl
  | [l], x => congrArg (fun q => [q]) (kindP_mk l x)
  | a :: b :: r, x => congr (congrArg List.cons (kindP_mk a x.1)) (kind_list (b :: r) x.2)
theorem typed_kind : ∀ (ls : List Leaf) (xs : List (PV Θ.T)), xs.map kindP = ls → Typed Θ ls xs := by
  intro ls xs
  induction xs generalizing ls with
  | nil => intro h; subst h; exact .nil
  | cons x xs ih =>
    intro h
    subst h
    exact .cons (kindP_ex x) (ih _ rfl)
theorem elem_of {e : TypeId} (y : Θ.T e) (xs : List (PV Θ.T)) (h : xs.map kindP = (Θ.enc e y).map kindP) : ∃ y' : Θ.T e, Θ.enc e y' = xs := by
  have h2 : xs.map kindP = (Θ.E e).leaves := by rw [h]; exact kind_list _ _
  obtain ⟨x, hx⟩ := typed_ht _ _ (typed_kind _ _ h2)
  exact ⟨(Θ.E e).of x, by unfold Tab.enc; rw [(Θ.E e).inv]; exact hx⟩
inductive AltP (Θ : Tab) (tS : TypeId) (s0 : ByteArray) : PV Θ.T → PV Θ.T → Prop where
  | int (k : IntKind) (n : Int) : AltP Θ tS s0 (.int k n) (.int k n)
  | bool (b : Bool) : AltP Θ tS s0 (.bool b) (.bool b)
  | str (s : ByteArray) : AltP Θ tS s0 (.str s) (.str s)
  | sl (e : TypeId) (l l' : List (Θ.T e)) (hl : l'.length = l.length)
      (h : ∀ (i j : Nat) (y y' : Θ.T e) (x x' : PV Θ.T), l[i]? = some y → l'[i]? = some y' → (Θ.enc e y)[j]? = some x → (Θ.enc e y')[j]? = some x' → ¬ (e = tS ∧ x' = .str s0) → AltP Θ tS s0 x x') : AltP Θ tS s0 (.sl e l) (.sl e l')
theorem AltP.kind {tS : TypeId} {s0 : ByteArray} {x x' : PV Θ.T} (h : AltP Θ tS s0 x x') : kindP x' = kindP x := by cases h <;> rfl
theorem mk_inj {l : Leaf} {x y : l.Ty Θ.T} (h : (l.mk x : PV Θ.T) = l.mk y) : x = y := by
  cases l <;> (simp only [Leaf.mk] at h; cases h; rfl)
theorem ht_inj : ∀ (ls : List Leaf) (u v : HT (Leaf.Ty Θ.T) ls), HT.list (C := PV Θ.T) Leaf.mk ls u = HT.list Leaf.mk ls v → u = v
  | [], _, _, _ => rfl
  | [l], x, y, h => by
    simp only [HT.list, List.cons.injEq, and_true] at h
    exact mk_inj h
  | a :: b :: r, x, y, h => by
    simp only [HT.list, List.cons.injEq] at h
    exact Prod.ext (mk_inj h.1) (ht_inj (b :: r) x.2 y.2 h.2)
theorem AltP.flat {tS : TypeId} {s0 : ByteArray} {e : TypeId} {l : List (Θ.T e)} {x : PV Θ.T} (he : e ≠ tS) (hinj : ∀ u v : Θ.T e, (Θ.E e).to u = (Θ.E e).to v → u = v) (hf : (Θ.E e).leaves.all Leaf.flat = true) (h : AltP Θ tS s0 (.sl e l) x) : x = .sl e l := by
  generalize hx : (PV.sl e l : PV Θ.T) = z at h
  cases h with
  | int k n => cases hx
  | bool b => cases hx
  | str s => cases hx
  | sl e1 l1 l' hl h =>
    cases hx
    congr 1
    refine List.ext_getElem? fun i => ?_
    cases hi : l[i]? with
    | none =>
      have := List.getElem?_eq_none_iff.1 hi
      exact List.getElem?_eq_none_iff.2 (by omega)
    | some y =>
      have hlt := (List.getElem?_eq_some_iff.1 hi).1
      have hi' : l'[i]? = some (l'[i]'(by omega)) := List.getElem?_eq_getElem (by omega)
      rw [hi']
      congr 1
      generalize l'[i]'(by omega) = y' at hi'
      have e1 : Θ.enc e y' = Θ.enc e y := by
        refine List.ext_getElem? fun j => ?_
        cases hj : (Θ.enc e y)[j]? with
        | none =>
          have := List.getElem?_eq_none_iff.1 hj
          rw [Θ.length_enc] at this
          exact List.getElem?_eq_none_iff.2 (by rw [Θ.length_enc]; exact this)
        | some q =>
          have hjl := (List.getElem?_eq_some_iff.1 hj).1
          obtain ⟨q', hj'⟩ : ∃ q', (Θ.enc e y')[j]? = some q' := ⟨_, List.getElem?_eq_getElem (by rw [Θ.length_enc] at hjl ⊢; exact hjl)⟩
          rw [hj']
          congr 1
          have ha := h i j y y' q q' hi hi' hj hj' fun hh => he hh.1
          have hk : kindP q ∈ (Θ.E e).leaves := by
            rw [← kind_list (Θ := Θ) (Θ.E e).leaves ((Θ.E e).to y)]
            exact List.mem_map_of_mem (List.mem_of_getElem? hj)
          have hfl := List.all_eq_true.1 hf _ hk
          cases ha with
          | int k n => rfl
          | bool b => rfl
          | str s => rfl
          | sl e2 l2 l3 _ _ => cases hfl
      have e2 : (Θ.E e).to y' = (Θ.E e).to y := ht_inj (Θ.E e).leaves _ _ e1
      exact hinj y' y e2
variable {W : World} {F : Nat → Prop} {ad : Addr} {s0 : ByteArray}
theorem setCell_at (a : Addr) (u : Value) (ha : a.spot = none) (hsp : ad.spot = none) (hc : ∃ v, W.cell? ad = some v) : (W.setCell ad u).cell? a = if a = ad then some u else W.cell? a := by
  obtain ⟨v, hv⟩ := hc
  obtain ⟨b, o, sp⟩ := ad
  obtain ⟨b2, o2, sp2⟩ := a
  simp only at ha hsp
  subst ha hsp
  unfold World.cell? World.setCell at *
  simp only [Array.getElem?_modify, Option.isSome_none, Bool.false_eq_true, if_false, Addr.mk.injEq, and_true] at hv ⊢
  by_cases hb : b = b2
  · subst hb
    simp only [if_true, true_and]
    cases hh : W.heap[b]? with
    | none => rw [hh] at hv; cases hv
    | some ob =>
      rw [hh] at hv
      cases ob <;> first
        | (cases hv; done)
        | (rename_i c e f
           simp only [Option.map_some] at hv ⊢
           rw [Array.getElem?_setIfInBounds]
           by_cases ho : o2 = o
           · subst ho
             rw [if_pos rfl, if_pos rfl, if_pos (Array.getElem?_eq_some_iff.1 hv).1]
           · rw [if_neg (fun h => ho h.symm), if_neg ho])
  · simp only [if_neg hb, if_neg (fun h : b2 = b ∧ o2 = o => hb h.1.symm)]
theorem setCell_el (u : Value) (b : Nat) : elOf (W.setCell ad u) b = elOf W b := by
  unfold elOf World.setCell
  simp only [Array.getElem?_modify]
  by_cases hb : ad.block = b
  · rw [if_pos hb]
    cases hh : W.heap[b]? with
    | none => rfl
    | some ob => cases ob <;> simp only [Option.map_some] <;> (split <;> simp)
  · rw [if_neg hb]
theorem Rep.alter {tS : TypeId} (hS : (Θ.E tS).leaves = [.str]) (hsp : ad.spot = none) (hc : ∃ v, W.cell? ad = some v) (hel : elOf W ad.block = some tS) (hF : ∀ b, F b → Θ.base ≤ b) {v : Value} {x : PV Θ.T} (h : Rep Θ W F v x) :
    ∃ x', Rep Θ (W.setCell ad (.string s0)) F v x' ∧ AltP Θ tS s0 x x' := by
  induction h with
  | int k n => exact ⟨_, .int k n, .int k n⟩
  | bool b => exact ⟨_, .bool b, .bool b⟩
  | str s => exact ⟨_, .str s, .str s⟩
  | sl e l A n cap us hn hcap hz hA hr ih =>
    by_cases hne : l = []
    · exact ⟨.sl e l, .sl e l A n cap us hn hcap hz (fun h => absurd hne h) (fun i j y x hy => by rw [hne] at hy; simp at hy), .sl e l l rfl (fun i j y y' x x' hy => by rw [hne] at hy; simp at hy)⟩
    obtain ⟨ad1, e1, e2, e3, e4⟩ := hA hne
    have each : ∀ i, i < l.length → ∃ y' : Θ.T e, ∀ y, l[i]? = some y → ∀ j x x', (Θ.enc e y)[j]? = some x → (Θ.enc e y')[j]? = some x' →
        Rep Θ (W.setCell ad (.string s0)) F (if ad1.add (i * Θ.sz e + j) = ad then .string s0 else us i j) x' ∧ (¬ (e = tS ∧ x' = .str s0) → AltP Θ tS s0 x x') := by
      intro i hi
      obtain ⟨y, hy⟩ : ∃ y, l[i]? = some y := ⟨_, List.getElem?_eq_getElem hi⟩
      have one : ∀ j, j < (Θ.enc e y).length → ∃ x', ∀ x, (Θ.enc e y)[j]? = some x → kindP x' = kindP x ∧ Rep Θ (W.setCell ad (.string s0)) F (if ad1.add (i * Θ.sz e + j) = ad then .string s0 else us i j) x' ∧ (¬ (e = tS ∧ x' = .str s0) → AltP Θ tS s0 x x') := by
        intro j hj
        obtain ⟨x, hx⟩ : ∃ x, (Θ.enc e y)[j]? = some x := ⟨_, List.getElem?_eq_getElem hj⟩
        have hj' : j < Θ.sz e := by rwa [Θ.length_enc] at hj
        by_cases hq : ad1.add (i * Θ.sz e + j) = ad
        · have hb : ad1.block = ad.block := by rw [← hq, Addr.add_block]
          obtain ⟨hf, hty⟩ := e3 (by omega)
          have he : e = tS := by
            have := hty (hF _ hf)
            rw [hb, hel] at this
            exact (Option.some.inj this).symm
          refine ⟨.str s0, fun x1 hx1 => ?_⟩
          rw [hx] at hx1
          cases hx1
          refine ⟨?_, by rw [if_pos hq]; exact .str s0, fun hn => absurd ⟨he, rfl⟩ hn⟩
          have hk : kindP x ∈ (Θ.E e).leaves := by
            rw [← kind_list (Θ := Θ) (Θ.E e).leaves ((Θ.E e).to y)]
            exact List.mem_map_of_mem (List.mem_of_getElem? hx)
          rw [he, hS, List.mem_singleton] at hk
          rw [hk]; rfl
        · obtain ⟨x', h1, h2⟩ := ih i j y x hy hx
          refine ⟨x', fun x1 hx1 => ?_⟩
          rw [hx] at hx1
          cases hx1
          exact ⟨h2.kind, by rw [if_neg hq]; exact h1, fun _ => h2⟩
      obtain ⟨xs, hxl, hxs⟩ := exists_list (Q := fun j x' => ∀ x, (Θ.enc e y)[j]? = some x → kindP x' = kindP x ∧ Rep Θ (W.setCell ad (.string s0)) F (if ad1.add (i * Θ.sz e + j) = ad then .string s0 else us i j) x' ∧ (¬ (e = tS ∧ x' = .str s0) → AltP Θ tS s0 x x')) _ one
      have hkk : xs.map kindP = (Θ.enc e y).map kindP := by
        refine List.ext_getElem? fun j => ?_
        rw [List.getElem?_map, List.getElem?_map]
        cases hj : (Θ.enc e y)[j]? with
        | none =>
          have := List.getElem?_eq_none_iff.1 hj
          rw [List.getElem?_eq_none_iff.2 (by omega)]
        | some x =>
          have hjl := (List.getElem?_eq_some_iff.1 hj).1
          have hj' : xs[j]? = some (xs[j]'(by omega)) := List.getElem?_eq_getElem _
          rw [hj']
          exact congrArg some (hxs j _ hj' x hj).1
      obtain ⟨y', hy'⟩ := elem_of y xs hkk
      refine ⟨y', fun y1 hy1 j x x' hx hx' => ?_⟩
      rw [hy] at hy1
      cases hy1
      rw [hy'] at hx'
      exact (hxs j x' hx' x hx).2
    obtain ⟨l', hll, hl'⟩ := exists_list (Q := fun i (y' : Θ.T e) => ∀ y, l[i]? = some y → ∀ j x x', (Θ.enc e y)[j]? = some x → (Θ.enc e y')[j]? = some x' →
        Rep Θ (W.setCell ad (.string s0)) F (if ad1.add (i * Θ.sz e + j) = ad then .string s0 else us i j) x' ∧ (¬ (e = tS ∧ x' = .str s0) → AltP Θ tS s0 x x')) _ each
    refine ⟨.sl e l', ?_, .sl e l l' hll fun i j y y' x x' hy hy' hx hx' hn => (hl' i y' hy' y hy j x x' hx hx').2 hn⟩
    refine .sl e l' A n cap (fun i j => if ad1.add (i * Θ.sz e + j) = ad then .string s0 else us i j) (hll.trans hn) hcap hz (fun _ => ⟨ad1, e1, e2, fun h => ⟨(e3 h).1, fun hb => by rw [setCell_el]; exact (e3 h).2 hb⟩, fun i j hi hj => ?_⟩) (fun i j y' x' hy' hx' => ?_)
    · rw [setCell_at _ _ (add_spot e2 _) hsp hc]
      split
      · rfl
      · exact e4 i j (by omega) hj
    · have hi := (List.getElem?_eq_some_iff.1 hy').1
      obtain ⟨y, hy⟩ : ∃ y, l[i]? = some y := ⟨_, List.getElem?_eq_getElem (by omega)⟩
      have hj := (List.getElem?_eq_some_iff.1 hx').1
      rw [Θ.length_enc] at hj
      obtain ⟨x, hx⟩ : ∃ x, (Θ.enc e y)[j]? = some x := ⟨_, List.getElem?_eq_getElem (by rw [Θ.length_enc]; exact hj)⟩
      exact (hl' i y' hy' y hy j x x' hx hx').1
variable {P : Program}
theorem run_fieldAt {t ft : TypeId} {f off n : Nat} (hf : fieldOff P t f = some (off, ft, n)) : (Instr.fieldAt t (.pointer (some ad)) f).run P W = .ok (.pointer (some (ad.add off))) W := by
  obtain ⟨fs, d, i, hu, hd, hi, hz, rfl, rfl, rfl⟩ := fieldOff_ok hf
  simp [Instr.fieldAt, run_underlying hu, hd, Instr.sureAddr, fieldPlace, sizeOf, typeInfo, hi, hz]
theorem run_indexAt {t e : TypeId} {inf : TypeInfo} {k n cap : Nat} (hu : P.underlying t = some (.slice e)) (hi : P.info? e = some inf) (hk : k < n) :
    (Instr.indexAt t (.slice (some ad) n cap) (.int .i64 (k : Int))).run P W = .ok (.pointer (some (ad.add (k * inf.size)))) W := by
  have hc1 : 0 ≤ (k : Int) ∧ (k : Int) < (n : Int) := by omega
  simp [Instr.indexAt, asIntOf, run_underlying hu, hc1, sizeOf, typeInfo, hi]
  intro h; omega
theorem run_loadAt {t : TypeId} {b : Value} (h1 : isAggT P t = some false) (hb : W.cell? ad = some b) : (Instr.loadAt t (.pointer (some ad))).run P W = .ok b W := by
  simp [Instr.loadAt, Instr.sureAddr, loadVar, isAgg_run h1, hb]
end
section
variable {F : Fence} {n : Nat} {P : Program} {ops : Array Oper} {Q : Exit → Act → World → Prop} {a : Act} {W : World}
theorem wp_value (hF : FX F) {i : Nat} {is : List Nat} {o : Oper} (ho : ops[i]? = some o) (hg : o.guard = none) (hnd : ∀ c, o.op ≠ .defer c) {d : Nat} (hd : o.dst = some d) {r : Value} (hrun : (execOp a.eval o).run P W = .ok (.value r) W)
    (h : wpOpsIn F n P ops Q is { a with tmps := a.tmps.setIfInBounds d r } W) : wpOpsIn F n P ops Q (i :: is) a W := by
  unfold wpOpsIn
  simp only [ho]
  have hw : Region.wanted o (yielded ops a.tmps) = true := by simp [Region.wanted, hg]
  simp only [hw, if_true]
  refine ⟨fun f _ => hF.fn f, ?_⟩
  rw [Oper.semAt_plain F _ o hnd, hrun, Oper.uponIn_value]
  unfold Act.put
  rw [hd]
  exact h
theorem wp_skip (hF : FX F) {i : Nat} {is : List Nat} {o : Oper} (ho : ops[i]? = some o) (hg : o.guard = none) (hnd : ∀ c, o.op ≠ .defer c) (hd : o.dst = none) {W' : World} (hrun : (execOp a.eval o).run P W = .ok .skip W')
    (h : wpOpsIn F n P ops Q is a W') : wpOpsIn F n P ops Q (i :: is) a W := by
  unfold wpOpsIn
  simp only [ho]
  have hw : Region.wanted o (yielded ops a.tmps) = true := by simp [Region.wanted, hg]
  simp only [hw, if_true]
  refine ⟨fun f _ => hF.fn f, ?_⟩
  rw [Oper.semAt_plain F _ o hnd, hrun, Oper.uponIn_skip]
  unfold Act.put
  rw [hd]
  exact h
end
end Go.Den
namespace Go.Den
open Go Go.RowKit
def Ev {A : Type} (F : Nat → Option A) (v : A) : Prop := ∃ N, ∀ n, N ≤ n → F n = some v
namespace Ev
variable {A B X Y : Type}
theorem ret (v : A) : Ev (fun _ => some v) v := ⟨0, fun _ _ => rfl⟩
theorem of_eq {F : Nat → Option A} {v w : A} (h : Ev F v) (e : v = w) : Ev F w := e ▸ h
theorem congr {F G : Nat → Option A} {v : A} (h : Ev F v) (e : ∀ n, G n = F n) : Ev G v := by
  obtain ⟨N, h⟩ := h; exact ⟨N, fun n hn => by rw [e, h n hn]⟩
theorem bind {F : Nat → Option A} {G : Nat → A → Option B} {a : A} {b : B} (h : Ev F a) (h' : Ev (fun n => G n a) b) : Ev (fun n => (F n).bind (G n)) b := by
  obtain ⟨N, h⟩ := h
  obtain ⟨M, h'⟩ := h'
  exact ⟨max N M, fun n hn => by simp only [h n (by omega), Option.bind_some]; exact h' n (by omega)⟩
theorem yes {c : Bool} {F G : Nat → Option A} {v : A} (hc : c = true) (h : Ev F v) : Ev (fun n => cond c (F n) (G n)) v := by subst hc; exact h
theorem no {c : Bool} {F G : Nat → Option A} {v : A} (hc : c = false) (h : Ev G v) : Ev (fun n => cond c (F n) (G n)) v := by subst hc; exact h
theorem const {F : Nat → Option A} {v : A} (h : ∀ n, F n = some v) : Ev F v := ⟨0, fun n _ => h n⟩
theorem some_at {F : Nat → Option A} {v : A} (h : Ev F v) : ∃ n, F n = some v := by obtain ⟨N, h⟩ := h; exact ⟨N, h N (Nat.le_refl _)⟩
end Ev
theorem wrap64_id {n : Int} (h1 : -9223372036854775808 ≤ n) (h2 : n ≤ 9223372036854775807) : wrap64 n = n := by
  rw [← IntWalk.i64_left]
  simp only [IntKind.wrap, IntKind.signed, IntKind.bits]
  by_cases h : n % 2 ^ 64 ≥ 2 ^ (64 - 1)
  · simp only [h, decide_true, Bool.and_self, if_true]; omega
  · simp only [h, decide_false, Bool.and_false, Bool.false_eq_true, if_false]; omega
theorem mn_eq (a b : Int) : mn a b = min a b := by unfold mn; split <;> omega
def bstr (l : List Int) : ByteArray := strOfNums (l.map fun y => y)
def mfind {V : Type} (k : ByteArray) (z : ByteArray × V) (l : List (ByteArray × V)) : ByteArray × V := findP (fun x => strEq x.1 k) z l
def mhas {V : Type} (k : ByteArray) (l : List (ByteArray × V)) : Bool := hasP (fun x => strEq x.1 k) l
def mput {V : Type} (k : ByteArray) (y : ByteArray × V) (l : List (ByteArray × V)) : List (ByteArray × V) := putP (fun x => strEq x.1 k) y l
end Go.Den
namespace Go.Den
open Go Go.RowKit
namespace Ev
variable {A B X Y : Type}
theorem loop {L : Nat → X → Option (X ⊕ Y)} (st : Nat → X) (N : Nat) (y : Y) {x0 : X} (h0 : x0 = st 0) (h : ∀ i, i < N → Ev (fun n => L n (st i)) (.inl (st (i + 1)))) (h' : Ev (fun n => L n (st N)) (.inr y)) :
    Ev (fun n => iterL n (L n) x0) y := by
  subst h0
  have key : ∀ j, j ≤ N → ∃ M, ∀ k n, M ≤ k → M ≤ n → iterL k (L n) (st (N - j)) = some y := by
    intro j
    induction j with
    | zero =>
      intro _
      obtain ⟨M, hM⟩ := h'
      refine ⟨M + 1, fun k n hk hn => ?_⟩
      cases k with
      | zero => omega
      | succ k =>
        have := hM n (by omega)
        simp only at this
        simp only [iterL, Nat.sub_zero, this, Option.bind_some]
    | succ j ih =>
      intro hj
      obtain ⟨M, hM⟩ := ih (by omega)
      obtain ⟨M', hM'⟩ := h (N - (j + 1)) (by omega)
      refine ⟨max M M' + 1, fun k n hk hn => ?_⟩
      cases k with
      | zero => omega
      | succ k =>
        have := hM' n (by omega)
        simp only at this
        simp only [iterL, this, Option.bind_some]
        rw [show N - (j + 1) + 1 = N - j by omega]
        exact hM k n (by omega) (by omega)
  obtain ⟨M, hM⟩ := key N (Nat.le_refl _)
  rw [Nat.sub_self] at hM
  exact ⟨M, fun n hn => hM n n hn hn⟩
theorem loopB {L : Nat → X → Option (X ⊕ Y)} {G : Nat → Y → Option B} (st : Nat → X) (N : Nat) (y : Y) {x0 : X} {b : B} (h0 : x0 = st 0) (h : ∀ i, i < N → Ev (fun n => L n (st i)) (.inl (st (i + 1)))) (h' : Ev (fun n => L n (st N)) (.inr y))
    (hG : Ev (fun n => G n y) b) : Ev (fun n => (iterL n (L n) x0).bind (G n)) b := bind (loop st N y h0 h h') hG
theorem bindS {F : Nat → Option A} {G : Nat → A → Option B} {a : A} {b : B} (h : ∀ n, F n = some a) (h' : Ev (fun n => G n a) b) : Ev (fun n => (F n).bind (G n)) b := bind (const h) h'
end Ev
theorem inB_nat (i n : Nat) : inB (i : Int) n = decide (i < n) := by unfold inB; simp
theorem atI_nat {A : Type} (d : A) (l : List A) (i : Nat) : atI d l (i : Int) = l.getD i d := by simp [atI]
theorem getD_lt {A : Type} (l : List A) (i : Nat) (d : A) (h : i < l.length) : l.getD i d = l[i] := by simp [List.getD_eq_getElem?_getD, h]
theorem wrap_succ {i : Nat} (h : i < 9223372036854775807) : wrap64 ((i : Int) + 1) = ((i + 1 : Nat) : Int) := by rw [wrap64_id (by omega) (by omega)]; omega
theorem fitB_ok {n b : Nat} (h : n * b ≤ 140737488355328) : fitB n b = true := by simp [fitB, h]
theorem take_snoc {A : Type} (l : List A) (i : Nat) (d : A) (h : i < l.length) : l.take (i + 1) = l.take i ++ [l.getD i d] := by rw [getD_lt _ _ _ h]; exact List.take_succ_eq_append_getElem h
end Go.Den
