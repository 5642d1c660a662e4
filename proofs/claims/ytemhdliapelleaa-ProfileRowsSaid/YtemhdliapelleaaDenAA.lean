/- The same inside a fence: in a round of a range over a function, too. -/
import Derived.Test.YtemhdliapelleaaDenZ
import Derived.OrdersIn
import Derived.OwnWalkIn
import Derived.RangeFuncCalls
namespace Go.Den
open Go Go.RowKit

/-- The wide fence, in a round or not. -/
def FX (F : Fence) : Prop := F = Fence.wide ∨ ∃ l, F = Fence.wide.inRound l
section
variable {F : Fence} {n : Nat} {P : Program}
theorem FX.fn (h : FX F) (f : FuncId) : F.fn f := by
  rcases h with rfl | ⟨l, rfl⟩ <;> exact trivial
theorem FX.depth (h : FX F) (m : Nat) : F.depth.isSome = true → 1 ≤ m := by
  rcases h with rfl | ⟨l, rfl⟩ <;> (intro h; cases h)
theorem FX.calls (h : FX F) {f : FuncId} {args : Array Value} {w : World} {R : Ending → World → Prop} (hc : Calls P f args w R) : CallsIn F n P f args w R := by
  rcases h with rfl | ⟨l, rfl⟩
  · exact callsIn_wide.2 hc
  · exact CallsIn.inRound l (callsIn_wide.2 hc)
theorem FX.rows (h : FX F) {row : String} {args : Array Value} {w : World} {R : Value → World → Prop} (hc : Rows P row args w R) : RowsIn F n P row args w R := by
  intro c cs _
  obtain ⟨v, w', r, s⟩ := hc c cs
  refine ⟨v, w', r, ?_⟩
  rcases h with rfl | ⟨l, rfl⟩
  · exact stepsIn_wide.2 s
  · exact (fenced_inRound P Fence.wide l ▸ stepsIn_wide.2 s)
theorem upon_in (hF : FX F) {o : Oper} {a : Act} {next : Act → World → Prop} {Q : Exit → Act → World → Prop} {r : Result Next} (h : o.upon P a next Q r) : o.uponIn F n P a next Q r := by
  cases r with
  | ok x w' =>
    cases x with
    | value v => exact h
    | skip => exact h
    | defer d => exact h
    | enter f args => exact ⟨hF.depth n, CallsIn.mono (hF.calls h) fun e w he => by cases e <;> exact he⟩
    | row row args => exact ⟨hF.depth n, hF.rows h⟩
    | _ => exact h.elim
  | halt x w' => cases x <;> first | exact h | exact h.elim
theorem FX.round (h : FX F) {l : Nat} {f : FuncId} {tmps : Array Value} {assign body : Code} {w : World} {R : Ending → World → Prop} (hc : RoundIn Fence.wide n P l f tmps assign body w R) : RoundIn F n P l f tmps assign body w R := by
  rcases h with rfl | ⟨l', rfl⟩
  · exact hc
  · exact hc
end
section
variable {C : Cx} {E : Env} {s s' : St C.Θ.T} {a : Act} {W : World} {bx : Nat → Nat → Nat} {rw_ : Nat → Nat → Value} {F : Fence} {n : Nat}
theorem kvs_args {F : Nat → Prop} {l : List (KV C.Θ.T)} {us : List Value} (h : All2 (RKV C.Θ W F bx rw_) l us) : All2 (RAV C.Θ W F bx rw_) (l.map KV.av) us := by
  induction h with
  | nil => exact .nil
  | cons h t ih =>
    rename_i x _ _ _
    refine .cons ?_ ih
    cases x <;> exact h
theorem fillAs_length : ∀ (ts : List AT) (ps : List (PV C.Θ.T)), (fillAs ts ps).1.length = ts.length := by
  intro ts
  induction ts with
  | nil => intro ps; rfl
  | cons t ts ih => intro ps; simp [fillAs, ih]
theorem step_in (hC : C.Ok) (hF : FX F) (h0 : At C.Θ E s a W) {o : Oper} (h : stepD C s o = some s') (Q : Exit → Act → World → Prop) : o.wpIn F n C.P a W (fun a' w' => At C.Θ E s' a' w') Q := by
  have hnd : ∀ c, o.op ≠ .defer c := by
    intro c e
    obtain ⟨d, op, ty, pos, aft, g⟩ := o
    simp only at e
    subst e
    simp [stepD, stepC, plain1, isMem, opV] at h
  refine ⟨fun f _ => hF.fn f, ?_⟩
  rw [Oper.semAt_plain F _ o hnd]
  by_cases hy : ∃ c f y l, o.op = .call c ∧ c.callee = .value f ∧ s.ev f = .yld y l
  · obtain ⟨c, f, y, l, ho, hf, hev⟩ := hy
    obtain ⟨hd, bx, rw_, hS⟩ := h0
    have hk : ∃ r, ready (flatE C.Θ) (St.cellsAt C.Θ) C.Δ s y (c.args.toList.map s.ev ++ l.map KV.av) = some r ∧ callK (flatE C.Θ) r o.dst some = some s' := by
      unfold stepD stepC at h
      rw [ho] at h
      simp only [hf, hev] at h
      split at h <;> try (cases h; done)
      rename_i r hr
      exact ⟨r, hr, h⟩
    obtain ⟨r, hr, hk⟩ := hk
    have hfv := hS.ev a rfl f
    rw [hev] at hfv
    obtain ⟨lb, R, rec, hu, hFl, hrec, hvals⟩ := hfv
    have hy := hC.Δ _ (ready_ok hr).1
    have hav := (evs_ok hS c.args.toList).append (kvs_args hvals)
    obtain ⟨E', z, bx1, rw1, hFz, hw, hD, hZ, hent, hpost⟩ := call_post hS hd hav hr hy.lent hk
    have hlen : (c.args.map a.eval).size = rec.params.size := by
      have h1 := hent.len
      have h2 : R.ps.size + R.live.length = r.sp.hin.slots.length := hy.arity R hrec.tab
      have h3 : (r.sp.hin.st r.y.x).slots.length = r.sp.hin.slots.length := by
        unfold Shape.st Shape.mk'
        exact fillAs_length _ _
      rw [h3] at h1
      simp only [List.size_toArray, List.length_append, List.length_map, Array.length_toList] at h1
      rw [hrec.ps]
      simp
      omega
    have hrun : (execOp a.eval o).run C.P W = .ok (.round lb rec.fn ((rec.params.zip (c.args.map a.eval)).foldl (fun tmps (t, a) => tmps.setIfInBounds t a) rec.tmps) rec.assign rec.body) W := by
      have := run_yield (P := C.P) hrec.at_ hlen
      simp [execOp, ho, resolve, hf, Deferred.ofValue, hu, invoke, this]
    rw [hrun, Oper.uponIn_round]
    refine ⟨hF.depth n, hF.round ?_⟩
    rw [hrec.ps, hrec.assign, hrec.body]
    have hr2 := hy.rounds _ z hFz E' lb (n - 1) R rec (c.args.toList.map a.eval) bx1 rw1 hD (by rw [hw]; exact hrec) (fun hz => hFl.2.2 (hZ lb hz)) (by rw [hw]; exact hent)
    rw [hw] at hr2
    have he : (c.args.toList.map a.eval).toArray = c.args.map a.eval := by apply Array.ext'; simp
    rw [he] at hr2
    refine hr2.mono ?_
    intro e w' hp
    obtain ⟨v, rfl, hat⟩ := hpost e w' hp
    exact hat
  · exact upon_in hF (step_ok hC h0 (fun c f y l h1 h2 h3 => hy ⟨c, f, y, l, h1, h2, h3⟩) h Q)
/-- One operation of a region, its guard and all. -/
theorem guard_okIn (hC : C.Ok) (hF : FX F) {ops : Array Oper} {Q : Exit → Act → World → Prop} (h0 : At C.Θ E s a W) {i : Nat} {o : Oper} (hi : ops[i]? = some o) (h : guardD C ops s o = some s') :
    wpOpIn F n C.P ops Q i (fun a' w' => At C.Θ E s' a' w') a W := by
  unfold wpOpIn
  simp only [hi]
  have h00 := h0
  obtain ⟨hd, bx, rw_, hS⟩ := h0
  unfold guardD at h
  split at h
  · rename_i hg
    have hw : Region.wanted o (yielded ops a.tmps) = true := by simp [Region.wanted, hg]
    simp only [hw, if_true]
    exact step_in hC hF h00 h Q
  · rename_i j want hg
    split at h <;> try (cases h; done)
    rename_i d hj
    have hsl := hS.slots d
    split at h <;> try (cases h; done)
    · rename_i b hb
      rw [hb] at hsl
      generalize hu : a.tmps.getD d undef = u at hsl
      cases hsl
      have hy : yielded ops a.tmps j = some b := by
        unfold yielded
        rw [hj]
        have : a.tmps[d]? = some (.bool b) := by
          rw [Array.getD_eq_getD_getElem?] at hu
          cases hq : a.tmps[d]? with
          | none => rw [hq] at hu; simp [undef] at hu
          | some q => rw [hq] at hu; simp at hu; rw [hu]
        simp [this]
      split at h
      · rename_i hbw
        have hw : Region.wanted o (yielded ops a.tmps) = true := by simp [Region.wanted, hg, hy, hbw]
        simp only [hw, if_true]
        exact step_in hC hF h00 h Q
      · rename_i hbw
        have hw : Region.wanted o (yielded ops a.tmps) = false := by simp [Region.wanted, hg, hy, hbw]
        simp only [hw, Bool.false_eq_true, if_false]
        cases h
        exact ⟨fun f _ => hF.fn f, put_skip h00 o.dst⟩
    · rename_i hb
      rw [hb] at hsl
      have hu : a.tmps.getD d undef = undef := hsl
      have hy : yielded ops a.tmps j = none := by
        unfold yielded
        rw [hj]
        rw [Array.getD_eq_getD_getElem?] at hu
        cases hq : a.tmps[d]? with
        | none => simp [hq]
        | some q => rw [hq] at hu; simp at hu; simp [hq, hu, undef]
      have hw : Region.wanted o (yielded ops a.tmps) = false := by simp [Region.wanted, hg, hy]
      simp only [hw, Bool.false_eq_true, if_false]
      cases h
      exact ⟨fun f _ => hF.fn f, put_skip h00 o.dst⟩
/-- A region, in the text's order. -/
theorem ops_okIn (hC : C.Ok) (hF : FX F) {ops : Array Oper} {Q : Exit → Act → World → Prop} : ∀ (is : List Nat) (l : List Oper) (s s' : St C.Θ.T) (a : Act) (W : World), is.map (fun i => ops[i]?) = l.map some → At C.Θ E s a W → opsD C ops l s = some s' →
    (∀ a' w', At C.Θ E s' a' w' → Q .normal a' w') → wpOpsIn F n C.P ops Q is a W := by
  intro is
  induction is with
  | nil =>
    intro l s s' a W hm h0 h hQ
    cases l with
    | nil => cases h; exact hQ a W h0
    | cons o l => simp at hm
  | cons i is ih =>
    intro l s s' a W hm h0 h hQ
    cases l with
    | nil => simp at hm
    | cons o l =>
      simp only [List.map_cons, List.cons.injEq] at hm
      simp only [opsD] at h
      split at h <;> try (cases h; done)
      rename_i s1 h1
      rw [wpOpsIn_cons]
      exact wpOpIn_mono (fun a' w' h' => ih l s1 s' a' w' hm.2 h' h hQ) (guard_okIn hC hF h0 hm.1 h1)
theorem any_okIn (hC : C.Ok) (hF : FX F) {E : Env} {ops : Array Oper} {Q : Exit → Act → World → Prop} (hdraw : drawOk C ops = true) {s' : St C.Θ.T} (hQ : ∀ a' w', At C.Θ E s' a' w' → Q .normal a' w') :
    ∀ (fuel : Nat) (listed : Array Bool) (s : St C.Θ.T) (a : Act) (W : World), listed.size = ops.size → Shut ops listed → (left_ ops.size listed).length = fuel → At C.Θ E s a W →
      opsD C ops ((left_ ops.size listed).filterMap fun i => ops[i]?) s = some s' → wpAnyIn F n C.P .any ops Q fuel listed a W := by
  have hrow : ∀ (i : Nat) (o : Oper), ops[i]? = some o → (∀ e ∈ o.after.toList, Region.binds .any e = true → e.on < i) ∧ ∀ k, k < i → pairOk C ops ((ancTab ops.toList []).getD i 0) k o = true := by
    intro i o ho
    have := List.all_eq_true.1 hdraw i (List.mem_range.2 (Array.getElem?_eq_some_iff.1 ho).1)
    simp only [rowOk, ho, Bool.and_eq_true, List.all_eq_true] at this
    refine ⟨fun e he hb => ?_, fun k hk => this.2 k (List.mem_range.2 hk)⟩
    have := this.1 e he
    simp only [hb, Bool.not_true, Bool.false_or] at this
    rw [Nat.blt_eq] at this; exact this
  intro fuel
  induction fuel with
  | zero =>
    intro listed s a W hsz hsh hlen h0 h
    have hnil : left_ ops.size listed = [] := List.eq_nil_of_length_eq_zero hlen
    rw [hnil] at h
    cases h
    refine ⟨?_, hQ a W h0⟩
    have : ∀ j, j ∉ Region.ready .any ops listed := by
      intro j hj
      obtain ⟨hu, o, ho, _⟩ := mem_ready.1 hj
      have : j ∈ left_ ops.size listed := List.mem_filter.2 ⟨List.mem_range.2 (Array.getElem?_eq_some_iff.1 ho).1, by simp only [hu]; rfl⟩
      rw [hnil] at this
      cases this
    exact List.eq_nil_iff_forall_not_mem.2 this
  | succ fuel ih =>
    intro listed s a W hsz hsh hlen h0 h
    have hne : Region.ready .any ops listed ≠ [] := by
      intro hnil
      cases hl : left_ ops.size listed with
      | nil => rw [hl] at hlen; simp at hlen
      | cons i r =>
        -- the first that is left is ready
        have hi : i ∈ left_ ops.size listed := by rw [hl]; simp
        obtain ⟨hi1, hi2⟩ := List.mem_filter.1 hi
        have hlt := List.mem_range.1 hi1
        have ho : ops[i]? = some ops[i] := Array.getElem?_eq_getElem hlt
        have : i ∈ Region.ready .any ops listed := by
          refine mem_ready.2 ⟨by simpa using hi2, ops[i], ho, fun e he hb => ?_⟩
          have hei := (hrow i _ ho).1 e (by simpa using he) hb
          by_cases hx : listed.getD e.on false = true
          · exact hx
          · exfalso
            have hm : e.on ∈ left_ ops.size listed := by
              refine List.mem_filter.2 ⟨List.mem_range.2 (by omega), ?_⟩
              have hlt' : e.on < listed.size := by omega
              simp only [Array.getD_eq_getD_getElem?, Array.getElem?_eq_getElem hlt', Option.getD_some] at hx ⊢
              simpa using hx
            -- but i is the least
            have hsorted : (left_ ops.size listed).Pairwise (· < ·) := List.Pairwise.filter _ List.pairwise_lt_range
            rw [hl] at hsorted hm
            rw [List.pairwise_cons] at hsorted
            rcases List.mem_cons.1 hm with h | h
            · omega
            · have := hsorted.1 _ h; omega
        rw [hnil] at this
        cases this
    refine ⟨fun h => absurd h hne, fun i hi => ?_⟩
    obtain ⟨hu, o, ho, hall⟩ := mem_ready.1 hi
    have hlt := (Array.getElem?_eq_some_iff.1 ho).1
    have hall' : ∀ e ∈ o.after.toList, Region.binds .any e = true → listed.getD e.on false = true := fun e he hb => hall e (by simpa using he) hb
    have hmem : i ∈ left_ ops.size listed := List.mem_filter.2 ⟨List.mem_range.2 hlt, by simp only [hu]; rfl⟩
    obtain ⟨l1, l2, hsplit⟩ := List.append_of_mem hmem
    have hsorted : (left_ ops.size listed).Pairwise (· < ·) := List.Pairwise.filter _ List.pairwise_lt_range
    rw [hsplit] at hsorted
    have hs1 : ∀ k ∈ l1, k < i := fun k hk => (List.pairwise_append.1 hsorted).2.2 k hk i (by simp)
    have hs2 : ∀ k ∈ l2, i < k := fun k hk => (List.pairwise_cons.1 (List.pairwise_append.1 hsorted).2.1).1 k hk
    have hfm : (left_ ops.size listed).filterMap (fun i => ops[i]?) = l1.filterMap (fun i => ops[i]?) ++ o :: l2.filterMap (fun i => ops[i]?) := by
      rw [hsplit, List.filterMap_append, List.filterMap_cons, ho]
    rw [hfm] at h
    obtain ⟨s1, g1, g2⟩ := front _ _ _ _ (fun ok hk => by
      obtain ⟨k, hk1, hk2⟩ := List.mem_filterMap.1 hk
      have hkl : k ∈ left_ ops.size listed := by rw [hsplit]; simp [hk1]
      have hku : listed.getD k true = false := by
        have := (List.mem_filter.1 hkl).2
        simpa using this
      have := (hrow i o ho).2 k (hs1 k hk1)
      unfold pairOk at this
      rw [hk2] at this
      simp only [Bool.or_eq_true, Bool.and_eq_true] at this
      rcases this with hb | ⟨h1, h2, h3⟩
      · exfalso
        have := anc_listed hsh (fun i o ho => (hrow i o ho).1) i o ho hall' k hb
        have hkz : k < listed.size := by rw [hsz]; exact (Array.getElem?_eq_some_iff.1 hk2).1
        simp only [Array.getD_eq_getD_getElem?, Array.getElem?_eq_getElem hkz, Option.getD_some] at this hku
        rw [this] at hku; cases hku
      · exact ⟨h1, h2, h3⟩) h
    have hstep := guard_okIn (n := n) (Q := Q) hC hF h0 ho g1
    have hl' : left_ ops.size (listed.setIfInBounds i true) = l1 ++ l2 := by
      have : left_ ops.size (listed.setIfInBounds i true) = (left_ ops.size listed).filter fun k => k != i := by
        unfold left_
        rw [List.filter_filter]
        apply List.filter_congr
        intro k hk
        by_cases hki : k = i
        · subst hki
          have hkz : k < listed.size := by omega
          simp [Array.getD_eq_getD_getElem?, hkz]
        · rw [getD_set_ne true (fun e => hki e.symm)]
          simp [hki]
      rw [this, hsplit, List.filter_append, List.filter_cons]
      have f1 : l1.filter (fun k => k != i) = l1 := List.filter_eq_self.2 fun k hk => by have := hs1 k hk; simp; omega
      have f2 : l2.filter (fun k => k != i) = l2 := List.filter_eq_self.2 fun k hk => by have := hs2 k hk; simp; omega
      simp [f1, f2]
    refine wpOpIn_mono (fun a' w' h' => ih (listed.setIfInBounds i true) s1 a' w' (by simpa using hsz) ?_ ?_ h' ?_) hstep
    · intro m om hom hm e he hb
      by_cases hmi : m = i
      · subst hmi
        rw [ho] at hom
        cases hom
        exact getD_set_true (hall' e he hb)
      · rw [getD_set_ne false (fun e => hmi e.symm)] at hm
        exact getD_set_true (hsh m om hom hm e he hb)
    · rw [hl']
      rw [hsplit] at hlen
      simp at hlen ⊢
      omega
    · rw [hl', List.filterMap_append]
      exact g2
/-- A region whose order is drawn. -/
theorem draw_okIn (hC : C.Ok) (hF : FX F) {E : Env} {id : Nat} {ops : Array Oper} {Q : Exit → Act → World → Prop} (hdraw : drawOk C ops = true) {s s' : St C.Θ.T} {a : Act} {W : World} (h0 : At C.Θ E s a W)
    (h : opsD C ops ops.toList s = some s') (hQ : ∀ a' w', At C.Θ E s' a' w' → Q .normal a' w') : (Code.region id ops true).wpIn F n C.P Q a W := by
  refine wpIn_region_any hC.mixed ?_
  have hl : left_ ops.size (Array.replicate ops.size false) = List.range ops.size := by
    unfold left_
    refine List.filter_eq_self.2 fun i hi => ?_
    have := List.mem_range.1 hi
    simp [Array.getD_eq_getD_getElem?, this]
  refine any_okIn hC hF hdraw hQ ops.size _ s a _ (by simp) ?_ (by rw [hl]; simp) ?_ ?_
  · intro m o _ hm
    exfalso
    by_cases hm' : m < ops.size <;> simp [Array.getD_eq_getD_getElem?, hm'] at hm
  · obtain ⟨hd, bx, rw_, hS⟩ := h0
    exact ⟨hd, bx, rw_, hS.later ⟨rfl, rfl, rfl, Nat.le_refl _, fun _ _ => rfl⟩⟩
  · rw [hl]
    have : (List.range ops.size).filterMap (fun i => ops[i]?) = ops.toList := by
      have h1 := range_map ops
      have h2 : ((List.range ops.size).map fun i => ops[i]?).filterMap _root_.id = (ops.toList.map some).filterMap _root_.id := by rw [h1]
      rw [List.filterMap_map, List.filterMap_map] at h2
      simpa [Function.comp_def] using h2
    rw [this]
    exact h
theorem any_ok2In (hC : C.Ok) (hF : FX F) {E : Env} {ops : Array Oper} {Q : Exit → Act → World → Prop} (hdraw : drawOk2 C ops = true) {s' : St C.Θ.T} (hQ : ∀ a' w', At C.Θ E s' a' w' → Q .normal a' w') :
    ∀ (fuel : Nat) (listed : Array Bool) (s : St C.Θ.T) (a : Act) (W : World), listed.size = ops.size → Shut ops listed → (left_ ops.size listed).length = fuel → At C.Θ E s a W →
      ((left_ ops.size listed).filterMap fun i => ops[i]?).Pairwise (KApart C) → ((∃ q ∈ (left_ ops.size listed).filterMap fun i => ops[i]?, (kindOf C q).grow = true) → Tame ((left_ ops.size listed).filterMap fun i => ops[i]?) s) →
      opsD C ops ((left_ ops.size listed).filterMap fun i => ops[i]?) s = some s' → wpAnyIn F n C.P .any ops Q fuel listed a W := by
  have hrow : ∀ (i : Nat) (o : Oper), ops[i]? = some o → (∀ e ∈ o.after.toList, Region.binds .any e = true → e.on < i) ∧ (∀ k, k < i → pairOk2 C ops ((ancTab ops.toList []).getD i 0) k o = true) ∧ (kindOf C o = .no → ∀ j oj, i < j → ops[j]? = some oj → (kindOf C oj).grow = false) := by
    intro i o ho
    have := List.all_eq_true.1 hdraw i (List.mem_range.2 (Array.getElem?_eq_some_iff.1 ho).1)
    simp only [rowOk2, ho, Bool.and_eq_true, List.all_eq_true] at this
    refine ⟨fun e he hb => ?_, fun k hk => this.1.2 k (List.mem_range.2 hk), fun hno j oj hj hoj => ?_⟩
    · have := this.1.1 e he
      simp only [hb, Bool.not_true, Bool.false_or] at this
      rw [Nat.blt_eq] at this; exact this
    · have h2 := this.2
      rw [hno] at h2
      simp only [List.all_eq_true] at h2
      have h3 := h2 j (List.mem_range.2 (Array.getElem?_eq_some_iff.1 hoj).1)
      rw [hoj] at h3
      simp only [Bool.or_eq_true, Nat.ble_eq, Bool.not_eq_true'] at h3
      rcases h3 with h3 | h3
      · omega
      · exact h3
  intro fuel
  induction fuel with
  | zero =>
    intro listed s a W hsz hsh hlen h0 hPW hTm h
    have hnil : left_ ops.size listed = [] := List.eq_nil_of_length_eq_zero hlen
    rw [hnil] at h
    cases h
    refine ⟨?_, hQ a W h0⟩
    have : ∀ j, j ∉ Region.ready .any ops listed := by
      intro j hj
      obtain ⟨hu, o, ho, _⟩ := mem_ready.1 hj
      have : j ∈ left_ ops.size listed := List.mem_filter.2 ⟨List.mem_range.2 (Array.getElem?_eq_some_iff.1 ho).1, by simp only [hu]; rfl⟩
      rw [hnil] at this
      cases this
    exact List.eq_nil_iff_forall_not_mem.2 this
  | succ fuel ih =>
    intro listed s a W hsz hsh hlen h0 hPW hTm h
    have hne : Region.ready .any ops listed ≠ [] := by
      intro hnil
      cases hl : left_ ops.size listed with
      | nil => rw [hl] at hlen; simp at hlen
      | cons i r =>
        -- the first that is left is ready
        have hi : i ∈ left_ ops.size listed := by rw [hl]; simp
        obtain ⟨hi1, hi2⟩ := List.mem_filter.1 hi
        have hlt := List.mem_range.1 hi1
        have ho : ops[i]? = some ops[i] := Array.getElem?_eq_getElem hlt
        have : i ∈ Region.ready .any ops listed := by
          refine mem_ready.2 ⟨by simpa using hi2, ops[i], ho, fun e he hb => ?_⟩
          have hei := (hrow i _ ho).1 e (by simpa using he) hb
          by_cases hx : listed.getD e.on false = true
          · exact hx
          · exfalso
            have hm : e.on ∈ left_ ops.size listed := by
              refine List.mem_filter.2 ⟨List.mem_range.2 (by omega), ?_⟩
              have hlt' : e.on < listed.size := by omega
              simp only [Array.getD_eq_getD_getElem?, Array.getElem?_eq_getElem hlt', Option.getD_some] at hx ⊢
              simpa using hx
            -- but i is the least
            have hsorted : (left_ ops.size listed).Pairwise (· < ·) := List.Pairwise.filter _ List.pairwise_lt_range
            rw [hl] at hsorted hm
            rw [List.pairwise_cons] at hsorted
            rcases List.mem_cons.1 hm with h | h
            · omega
            · have := hsorted.1 _ h; omega
        rw [hnil] at this
        cases this
    refine ⟨fun h => absurd h hne, fun i hi => ?_⟩
    obtain ⟨hu, o, ho, hall⟩ := mem_ready.1 hi
    have hlt := (Array.getElem?_eq_some_iff.1 ho).1
    have hall' : ∀ e ∈ o.after.toList, Region.binds .any e = true → listed.getD e.on false = true := fun e he hb => hall e (by simpa using he) hb
    have hmem : i ∈ left_ ops.size listed := List.mem_filter.2 ⟨List.mem_range.2 hlt, by simp only [hu]; rfl⟩
    obtain ⟨l1, l2, hsplit⟩ := List.append_of_mem hmem
    have hsorted : (left_ ops.size listed).Pairwise (· < ·) := List.Pairwise.filter _ List.pairwise_lt_range
    rw [hsplit] at hsorted
    have hs1 : ∀ k ∈ l1, k < i := fun k hk => (List.pairwise_append.1 hsorted).2.2 k hk i (by simp)
    have hs2 : ∀ k ∈ l2, i < k := fun k hk => (List.pairwise_cons.1 (List.pairwise_append.1 hsorted).2.1).1 k hk
    have hfm : (left_ ops.size listed).filterMap (fun i => ops[i]?) = l1.filterMap (fun i => ops[i]?) ++ o :: l2.filterMap (fun i => ops[i]?) := by
      rw [hsplit, List.filterMap_append, List.filterMap_cons, ho]
    rw [hfm] at h hPW hTm
    have hfr : ∀ ok ∈ l1.filterMap (fun i => ops[i]?), (kindOf C ok).comm (kindOf C o) = true ∧ Oper.apart ops ok o = true := (fun ok hk => by
      obtain ⟨k, hk1, hk2⟩ := List.mem_filterMap.1 hk
      have hkl : k ∈ left_ ops.size listed := by rw [hsplit]; simp [hk1]
      have hku : listed.getD k true = false := by
        have := (List.mem_filter.1 hkl).2
        simpa using this
      have := (hrow i o ho).2.1 k (hs1 k hk1)
      unfold pairOk2 at this
      rw [hk2] at this
      simp only [Bool.or_eq_true, Bool.and_eq_true] at this
      rcases this with hb | ⟨h1, h2⟩
      · exfalso
        have := anc_listed hsh (fun i o ho => (hrow i o ho).1) i o ho hall' k hb
        have hkz : k < listed.size := by rw [hsz]; exact (Array.getElem?_eq_some_iff.1 hk2).1
        simp only [Array.getD_eq_getD_getElem?, Array.getElem?_eq_getElem hkz, Option.getD_some] at this hku
        rw [this] at hku; cases hku
      · exact ⟨h1, h2⟩)
    obtain ⟨s1, g1, g2⟩ := front2 _ _ _ _ hfr hPW hTm h
    have hstep := guard_okIn (n := n) (Q := Q) hC hF h0 ho g1
    have hl' : left_ ops.size (listed.setIfInBounds i true) = l1 ++ l2 := by
      have : left_ ops.size (listed.setIfInBounds i true) = (left_ ops.size listed).filter fun k => k != i := by
        unfold left_
        rw [List.filter_filter]
        apply List.filter_congr
        intro k hk
        by_cases hki : k = i
        · subst hki
          have hkz : k < listed.size := by omega
          simp [Array.getD_eq_getD_getElem?, hkz]
        · rw [getD_set_ne true (fun e => hki e.symm)]
          simp [hki]
      rw [this, hsplit, List.filter_append, List.filter_cons]
      have f1 : l1.filter (fun k => k != i) = l1 := List.filter_eq_self.2 fun k hk => by have := hs1 k hk; simp; omega
      have f2 : l2.filter (fun k => k != i) = l2 := List.filter_eq_self.2 fun k hk => by have := hs2 k hk; simp; omega
      simp [f1, f2]
    refine wpOpIn_mono (fun a' w' h' => ih (listed.setIfInBounds i true) s1 a' w' (by simpa using hsz) ?_ ?_ h' ?_ ?_ ?_) hstep
    · intro m om hom hm e he hb
      by_cases hmi : m = i
      · subst hmi
        rw [ho] at hom
        cases hom
        exact getD_set_true (hall' e he hb)
      · rw [getD_set_ne false (fun e => hmi e.symm)] at hm
        exact getD_set_true (hsh m om hom hm e he hb)
    · rw [hl']
      rw [hsplit] at hlen
      simp at hlen ⊢
      omega
    · rw [hl', List.filterMap_append]
      exact hPW.sublist (List.Sublist.append (List.Sublist.refl _) (List.sublist_cons_self _ _))
    · rw [hl', List.filterMap_append]
      rintro ⟨q, hq, hgr⟩
      have hno : kindOf C o ≠ .no := by
        intro e
        rcases List.mem_append.1 hq with hq | hq
        · have := (hfr q hq).1
          rw [e] at this
          cases hk : kindOf C q <;> simp [hk, Kd.comm] at this
        · obtain ⟨k, hk1, hk2⟩ := List.mem_filterMap.1 hq
          have := (hrow i o ho).2.2 e k q (hs2 k hk1) hk2
          rw [this] at hgr; cases hgr
      refine step_tame hno (hTm ⟨q, ?_, hgr⟩) (fun _ => by simp) g1 (fun z hz => ?_) (fun z hz => ?_)
      · rcases List.mem_append.1 hq with hq | hq
        · exact List.mem_append_left _ hq
        · exact List.mem_append_right _ (List.mem_cons_of_mem _ hq)
      · rcases List.mem_append.1 hz with hz | hz
        · exact List.mem_append_left _ hz
        · exact List.mem_append_right _ (List.mem_cons_of_mem _ hz)
      · obtain ⟨_, p2, p3⟩ := List.pairwise_append.1 hPW
        rcases List.mem_append.1 hz with hz | hz
        · exact (p3 z hz o (by simp)).symm
        · exact (List.pairwise_cons.1 p2).1 z hz
    · rw [hl', List.filterMap_append]
      exact g2
/-- A region whose order is drawn. -/
theorem draw_ok2In (hC : C.Ok) (hF : FX F) {E : Env} {id : Nat} {ops : Array Oper} {Q : Exit → Act → World → Prop} (hdraw : drawOk2 C ops = true) {s s' : St C.Θ.T} (htm : tameOk C s ops.toList = true) {a : Act} {W : World} (h0 : At C.Θ E s a W)
    (h : opsD C ops ops.toList s = some s') (hQ : ∀ a' w', At C.Θ E s' a' w' → Q .normal a' w') : (Code.region id ops true).wpIn F n C.P Q a W := by
  refine wpIn_region_any hC.mixed ?_
  have hl : left_ ops.size (Array.replicate ops.size false) = List.range ops.size := by
    unfold left_
    refine List.filter_eq_self.2 fun i hi => ?_
    have := List.mem_range.1 hi
    simp [Array.getD_eq_getD_getElem?, this]
  have hlist : (List.range ops.size).filterMap (fun i => ops[i]?) = ops.toList := by
    have h1 := range_map ops
    have h2 : ((List.range ops.size).map fun i => ops[i]?).filterMap _root_.id = (ops.toList.map some).filterMap _root_.id := by rw [h1]
    rw [List.filterMap_map, List.filterMap_map] at h2
    simpa [Function.comp_def] using h2
  obtain ⟨hp, ht⟩ := tame_of htm
  refine any_ok2In hC hF hdraw hQ ops.size _ s a _ (by simp) ?_ (by rw [hl]; simp) ?_ ?_ ?_ ?_
  · intro m o _ hm
    exfalso
    by_cases hm' : m < ops.size <;> simp [Array.getD_eq_getD_getElem?, hm'] at hm
  · obtain ⟨hd, bx, rw_, hS⟩ := h0
    exact ⟨hd, bx, rw_, hS.later ⟨rfl, rfl, rfl, Nat.le_refl _, fun _ _ => rfl⟩⟩
  · rw [hl, hlist]; exact hp
  · rw [hl, hlist]; exact fun _ => ht
  · rw [hl, hlist]
    exact h
end
end Go.Den
