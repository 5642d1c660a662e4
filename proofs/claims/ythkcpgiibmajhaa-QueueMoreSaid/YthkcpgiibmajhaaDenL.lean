/- One region, in the text's order: the machine does what 'den' says. -/
import Derived.Test.YthkcpgiibmajhaaDenJ
namespace Go.Den
open Go Go.RowKit

/-- The state s stands for the machine's. -/
def At (Θ : Tab) (w0 : World) (F0 : Nat → Prop) (s : St Θ.T) (a : Act) (W : World) : Prop := a.defers = [] ∧ ∃ bx rw_, Sim Θ w0 F0 s a.tmps W bx rw_
section
variable {C : Cx} {w0 : World} {F0 : Nat → Prop} {s s' : St C.Θ.T} {a : Act} {W : World} {bx : Nat → Nat → Nat} {rw_ : Nat → Nat → Value}
theorem Sim.boxlt (hS : Sim C.Θ w0 F0 s a.tmps W bx rw_) {k : Nat} {B : BoxS C.Θ.T} (hB : look s.boxes k = some B) : bx k B.gen < W.heap.size := by
  obtain ⟨_, cv, hh, _⟩ := hS.boxes k B hB
  exact (Array.getElem?_eq_some_iff.1 hh).1
theorem Sim.rowlt (hS : Sim C.Θ w0 F0 s a.tmps W bx rw_) {r : Nat} {R : RowS C.Θ.T} {b : Nat} (hR : look s.rows r = some R) (hb : (rw_ r R.gen).ownBlock = some b) : w0.heap.size ≤ b ∧ b < W.heap.size := by
  obtain ⟨us, hown, _⟩ := hS.rows r R hR
  rcases hown.2 with ⟨hv, _⟩ | ⟨b', cap, cur, hv, h0, hh, _⟩
  · rw [hv] at hb; simp [Value.ownBlock] at hb
  · rw [hv] at hb
    have : b' = b := by simpa [Value.ownBlock] using hb
    subst this
    exact ⟨h0, (Array.getElem?_eq_some_iff.1 hh).1⟩
theorem put_at {s1 : St C.Θ.T} {d : Option Nat} {v : AV C.Θ.T} {u : Value} {a : Act} {W : World} (hd : a.defers = []) (hS : Sim C.Θ w0 F0 s1 a.tmps W bx rw_) (hv : RAV C.Θ W (FF w0 F0 s1 bx rw_ W) bx rw_ v u) : At C.Θ w0 F0 (s1.put d v) (a.put d u) W := by
  cases d with
  | none => exact ⟨hd, bx, rw_, hS⟩
  | some d => exact ⟨hd, bx, rw_, Sim.put hS d hv⟩
theorem put_skip (h : At C.Θ w0 F0 s a W) (d : Option Nat) : At C.Θ w0 F0 (s.put d .skip) (a.put d undef) W := by
  obtain ⟨hd, bx, rw_, hS⟩ := h
  exact put_at hd hS rfl
theorem sums_args {F : Nat → Prop} {l : List (CV C.Θ.T ⊕ List (CV C.Θ.T))} {us : List Value} (h : All2 (RSum C.Θ W F bx rw_) l us) : All2 (RAV C.Θ W F bx rw_) (l.map sumAV) us := by
  induction h with
  | nil => exact .nil
  | cons h t ih =>
    rename_i x _ _ _
    refine .cons ?_ ih
    cases x <;> exact h
/-- A call that is told by its contract. -/
theorem call_ok (hS : Sim C.Θ w0 F0 s a.tmps W bx rw_) (hd : a.defers = []) {g : Nat} {sp : Spec C.Θ.T} (hg : PCalls C.P C.Θ g sp) {avs : List (AV C.Θ.T)} {vs : List Value} (hav : All2 (RAV C.Θ W (FF w0 F0 s bx rw_ W) bx rw_) avs vs)
    {x : HT (PD.Ty C.Θ.T) sp.pds} {y : HT (PD.Ty C.Θ.T) sp.rds} (hx : HT.get s.pget sp.pds avs = some x) (hy : sp.F x = some y) (dst : Option Nat) :
    Calls C.P g vs.toArray W fun e w' => ∃ v, e = .returned v ∧ At C.Θ w0 F0 (afterCall C s dst sp avs y) (a.put dst v) w' := by
  by_cases hfl : sp.rds.all PD.flat = true
  · -- nothing is kept of the arguments
    have hargs : All2 (RelP C.Θ W (fun b => b < W.heap.size)) (sig C.Θ sp.pds x) vs :=
      pgets_ok hS (fun b hb => hb.2.1) _ _ _ _ hx hav (fun q _ R b hR hb => (hS.rowlt hR hb).2)
    refine Calls.mono (hg.calls x y hy W _ vs (fun b hb => hb) hargs) ?_
    rintro e w' ⟨v, rfl, hr, hbel⟩
    refine ⟨v, rfl, ?_⟩
    have hS' := hS.later hbel
    unfold afterCall
    have : s.lend (sp.rds.all PD.flat) avs = s := by unfold St.lend; rw [if_pos hfl]
    rw [this]
    refine put_at hd hS' (resAV_ok ?_)
    have hall : ∀ q ∈ sig C.Θ sp.rds y, q.1.flat = true := by
      intro q hq
      have hm : ∀ (ps : List PD) (z : HT (PD.Ty C.Θ.T) ps), ps.all PD.flat = true → ∀ q ∈ sig C.Θ ps z, q.1.flat = true := by
        intro ps
        induction ps with
        | nil => intro z _ q hq; cases hq
        | cons p ps ih =>
          intro z hp q hq
          simp only [List.all_cons, Bool.and_eq_true] at hp
          cases ps with
          | nil =>
            have : q = ⟨p, z⟩ := by simpa [sig, HT.list] using hq
            rw [this]; exact hp.1
          | cons p2 ps =>
            have : q = ⟨p, z.1⟩ ∨ q ∈ sig C.Θ (p2 :: ps) z.2 := by simpa [sig, HT.list] using hq
            rcases this with h | h
            · rw [h]; exact hp.1
            · exact ih z.2 hp.2 q h
      exact hm _ y hfl q hq
    revert hr hall
    generalize sig C.Θ sp.rds y = l
    intro hr hall
    have hone : ∀ (q : Σ p : PD, p.Ty C.Θ.T) (u : Value), q.1.flat = true → RelP C.Θ w' (fun b => (b < W.heap.size ∨ W.heap.size ≤ b) ∧ b < w'.heap.size) q u → RelP C.Θ w' (FF w0 F0 s bx rw_ w') q u := fun q u hq h => by
      obtain ⟨p, z⟩ := q; exact relP_flat hq h
    have hmany : ∀ (l : List (Σ p : PD, p.Ty C.Θ.T)) (us : List Value), (∀ q ∈ l, q.1.flat = true) → All2 (RelP C.Θ w' (fun b => (b < W.heap.size ∨ W.heap.size ≤ b) ∧ b < w'.heap.size)) l us → All2 (RelP C.Θ w' (FF w0 F0 s bx rw_ w')) l us := by
      intro l us hl h
      induction h with
      | nil => exact .nil
      | cons h t ih => exact .cons (hone _ _ (hl _ (by simp)) h) (ih fun q hq => hl q (by simp [hq]))
    match l, hr, hall with
    | [q], hr, hall => exact hone q v (hall q (by simp)) hr
    | [], hr, hall => obtain ⟨us, e, ha⟩ := hr; exact ⟨us, e, hmany _ _ hall ha⟩
    | q :: q2 :: t, hr, hall => obtain ⟨us, e, ha⟩ := hr; exact ⟨us, e, hmany _ _ hall ha⟩
  · -- the rows that are handed over are the call's own no more
    have hle : s.lend (sp.rds.all PD.flat) avs = { s with rows := dropRows s.rows ((avs.flatMap AV.mR).map (·.1)) } := by unfold St.lend; rw [if_neg hfl]
    have hS1 := hS.lend (sp.rds.all PD.flat) avs
    have hFF : ∀ b, FF w0 F0 s bx rw_ W b → FF w0 F0 (s.lend (sp.rds.all PD.flat) avs) bx rw_ W b := by
      rintro b ⟨h1, h2, h3⟩
      refine ⟨h1, h2, fun hm => h3 ?_⟩
      rw [hle] at hm
      rcases hm with h | ⟨r, R, hR, hb⟩
      · exact .inl h
      · exact .inr ⟨r, R, (look_dropRows hR).1, hb⟩
    have hargs : All2 (RelP C.Θ W (FF w0 F0 (s.lend (sp.rds.all PD.flat) avs) bx rw_ W)) (sig C.Θ sp.pds x) vs := by
      refine pgets_ok hS hFF _ _ _ _ hx hav (fun q hq R b hR hb => ?_)
      have hlt := hS.rowlt hR hb
      refine ⟨.inr hlt.1, hlt.2, ?_⟩
      rw [hle]
      rintro (⟨k, B, hB, e⟩ | ⟨r, R', hR', hb'⟩)
      · exact hS.br k B q.1 R hB hR (by rw [hb, e])
      · obtain ⟨h1, h2⟩ := look_dropRows hR'
        have := hS.rr q.1 R r R' b hR h1 hb hb'
        exact h2 (List.mem_map.2 ⟨q, hq, this⟩)
    refine Calls.mono (hg.calls x y hy W _ vs (fun b hb => hb.2.1) hargs) ?_
    rintro e w' ⟨v, rfl, hr, hbel⟩
    refine ⟨v, rfl, ?_⟩
    have hS' := hS1.later hbel
    refine put_at hd hS' (resAV_ok ?_)
    have hgo : ∀ b, ((FF w0 F0 (s.lend (sp.rds.all PD.flat) avs) bx rw_ W b ∨ W.heap.size ≤ b) ∧ b < w'.heap.size) → FF w0 F0 (s.lend (sp.rds.all PD.flat) avs) bx rw_ w' b := by
      rintro b ⟨h | h, hlt⟩
      · exact ⟨h.1, hlt, h.2.2⟩
      · refine ⟨.inr (Nat.le_trans hS.below.size h), hlt, ?_⟩
        rintro (⟨k, B, hB, e⟩ | ⟨r, R', hR', hb'⟩)
        · have := Sim.boxlt hS1 hB; omega
        · have := (Sim.rowlt hS1 hR' hb').2; omega
    have hone : ∀ (q : Σ p : PD, p.Ty C.Θ.T) (u : Value), RelP C.Θ w' (fun b => (FF w0 F0 (s.lend (sp.rds.all PD.flat) avs) bx rw_ W b ∨ W.heap.size ≤ b) ∧ b < w'.heap.size) q u → RelP C.Θ w' (FF w0 F0 (s.lend (sp.rds.all PD.flat) avs) bx rw_ w') q u := fun q u h => relP_mono hgo (fun _ _ => rfl) h
    revert hr
    generalize sig C.Θ sp.rds y = l
    intro hr
    match l, hr with
    | [q], hr => exact hone q v hr
    | [], hr => obtain ⟨us, e, ha⟩ := hr; exact ⟨us, e, ha.mono fun q u h => hone q u h⟩
    | q :: q2 :: t, hr => obtain ⟨us, e, ha⟩ := hr; exact ⟨us, e, ha.mono fun q u h => hone q u h⟩
theorem evs_ok (hS : Sim C.Θ w0 F0 s a.tmps W bx rw_) : ∀ l : List Operand, All2 (RAV C.Θ W (FF w0 F0 s bx rw_ W) bx rw_) (l.map s.ev) (l.map a.eval)
  | [] => .nil
  | x :: l => .cons (hS.ev a rfl x) (evs_ok hS l)
/-- One operation. -/
theorem step_ok (hC : C.Ok) (h0 : At C.Θ w0 F0 s a W) {o : Oper} (h : stepD C s o = some s') (Q : Exit → Act → World → Prop) :
    o.upon C.P a (fun a' w' => At C.Θ w0 F0 s' a' w') Q ((execOp a.eval o).run C.P W) := by
  obtain ⟨hd, bx, rw_, hS⟩ := h0
  have hp : ∀ {r : Option (Bool × St C.Θ.T)}, r = plain1 C s o → (match r with | some (c, s') => cond c (some s') none | none => none : Option (St C.Θ.T)) = some s' →
      o.upon C.P a (fun a' w' => At C.Θ w0 F0 s' a' w') Q ((execOp a.eval o).run C.P W) := by
    intro r hr h
    cases r with
    | none => cases h
    | some q =>
      obtain ⟨c, s1⟩ := q
      cases c with
      | false => cases h
      | true =>
        cases h
        have hr := hr.symm
        unfold plain1 at hr
        split at hr
        · obtain ⟨tm', W', bx', rw', hS', hn⟩ := opA_ok hS hr
          exact hn _ Q ⟨hd, bx', rw', hS'⟩
        · split at hr <;> try (cases hr; done)
          rename_i c v hv
          cases hr
          obtain ⟨u, h1, h2⟩ := opV_ok hS a rfl hC.eqs hv
          rw [h1, Oper.upon_value]
          exact put_at hd hS h2
  unfold stepD stepC at h
  split at h
  · rename_i c x y ho
    have main : ∀ (v : AV C.Θ.T) (u : Value), RAV C.Θ W (FF w0 F0 s bx rw_ W) bx rw_ v u → a.eval c = u → (match v with
      | .c (.v (.bool b)) => cond b (some (s.put o.dst (s.ev x))) (some (s.put o.dst (s.ev y)))
      | _ => none : Option (St C.Θ.T)) = some s' → o.upon C.P a (fun a' w' => At C.Θ w0 F0 s' a' w') Q ((execOp a.eval o).run C.P W) := by
      intro v u hv hu h
      split at h <;> try (cases h; done)
      rename_i b
      cases hv
      have hr : (execOp a.eval o).run C.P W = .ok (.value (if b then a.eval x else a.eval y)) W := by simp [execOp, ho, hu, asBool]
      rw [hr, Oper.upon_value]
      cases b with
      | true => cases h; exact put_at hd hS (hS.ev a rfl x)
      | false => cases h; exact put_at hd hS (hS.ev a rfl y)
    refine main (s.ev c) (a.eval c) (hS.ev a rfl c) rfl ?_
    cases c <;> exact h
  · rename_i c ho
    split at h
    · rename_i f hf
      split at h <;> try (cases h; done)
      rename_i g sp l hcal
      split at h <;> try (cases h; done)
      rename_i x hx
      cases hF : sp.F x with
      | none => simp [hF] at h
      | some y =>
        simp only [hF, Option.bind_some, Option.some.injEq] at h
        subst h
        have hfv := hS.ev a rfl f
        -- the function's value, and what it carries
        have hcal' : look C.Γ g = some sp ∧ ∃ us : List Value, a.eval f = .func (.func g) us.toArray #[] ∧ All2 (RAV C.Θ W (FF w0 F0 s bx rw_ W) bx rw_) l us := by
          unfold calleeOf at hcal
          revert hfv
          split at hcal
          · rename_i g' caps hev
            split at hcal <;> try (cases hcal; done)
            split at hcal <;> try (cases hcal; done)
            rename_i hl
            cases hcal
            intro hfv
            rw [hev] at hfv
            have e : a.eval f = .func (.func g) #[] (([] : List (Nat × Nat)).map fun kg => Value.pointer (some ⟨bx kg.1 kg.2, 0, none⟩)).toArray := hfv
            exact ⟨hl, [], by rw [e]; rfl, .nil⟩
          · rename_i g' l' hev
            split at hcal <;> try (cases hcal; done)
            rename_i hl
            cases hcal
            intro hfv
            rw [hev] at hfv
            obtain ⟨us, e, ha⟩ := hfv
            exact ⟨hl, us, e, sums_args ha⟩
          · cases hcal
        obtain ⟨hl, us, hfe, hus⟩ := hcal'
        have hg := hC.Γ g sp hl
        have hr : (execOp a.eval o).run C.P W = .ok (.enter g (us.toArray ++ c.args.map a.eval)) W := by
          have := hg.enters (us.toArray ++ c.args.map a.eval) W
          simp [execOp, ho, resolve, hf, Deferred.ofValue, hfe, invoke, this]
        rw [hr, Oper.upon_enter]
        have hvs : us.toArray ++ c.args.map a.eval = (us ++ c.args.toList.map a.eval).toArray := by
          apply Array.ext'; simp
        rw [hvs]
        refine Calls.mono (call_ok hS hd hg (hus.append (evs_ok hS c.args.toList)) hx hF o.dst) ?_
        rintro e w' ⟨v, rfl, h⟩
        exact h
    · exact hp rfl h
  · exact hp rfl h
/-- One operation of a region, its guard and all. -/
theorem guard_ok (hC : C.Ok) {ops : Array Oper} {Q : Exit → Act → World → Prop} (h0 : At C.Θ w0 F0 s a W) {i : Nat} {o : Oper} (hi : ops[i]? = some o) (h : guardD C ops s o = some s') :
    wpOp C.P ops Q i (fun a' w' => At C.Θ w0 F0 s' a' w') a W := by
  unfold wpOp
  simp only [hi]
  have h00 := h0
  obtain ⟨hd, bx, rw_, hS⟩ := h0
  unfold guardD at h
  split at h
  · rename_i hg
    have hw : Region.wanted o (yielded ops a.tmps) = true := by simp [Region.wanted, hg]
    simp only [hw, if_true]
    exact .inl (step_ok hC h00 h Q)
  · rename_i j want hg
    split at h <;> try (cases h; done)
    rename_i d hj
    have hsl := hS.slots d
    split at h <;> try (cases h; done)
    · rename_i b hb
      rw [hb] at hsl
      generalize hu : a.tmps.getD d undef = u at hsl
      cases hsl
      have hy : yielded ops a.tmps j = some b := by
        unfold yielded
        rw [hj]
        have : a.tmps[d]? = some (.bool b) := by
          rw [Array.getD_eq_getD_getElem?] at hu
          cases hq : a.tmps[d]? with
          | none => rw [hq] at hu; simp [undef] at hu
          | some q => rw [hq] at hu; simp at hu; rw [hu]
        simp [this]
      split at h
      · rename_i hbw
        have hw : Region.wanted o (yielded ops a.tmps) = true := by simp [Region.wanted, hg, hy, hbw]
        simp only [hw, if_true]
        exact .inl (step_ok hC h00 h Q)
      · rename_i hbw
        have hw : Region.wanted o (yielded ops a.tmps) = false := by simp [Region.wanted, hg, hy, hbw]
        simp only [hw, Bool.false_eq_true, if_false]
        cases h
        exact put_skip h00 o.dst
    · rename_i hb
      rw [hb] at hsl
      have hu : a.tmps.getD d undef = undef := hsl
      have hy : yielded ops a.tmps j = none := by
        unfold yielded
        rw [hj]
        rw [Array.getD_eq_getD_getElem?] at hu
        cases hq : a.tmps[d]? with
        | none => simp [hq]
        | some q => rw [hq] at hu; simp at hu; simp [hq, hu, undef]
      have hw : Region.wanted o (yielded ops a.tmps) = false := by simp [Region.wanted, hg, hy]
      simp only [hw, Bool.false_eq_true, if_false]
      cases h
      exact put_skip h00 o.dst
/-- A region, in the text's order. -/
theorem ops_ok (hC : C.Ok) {ops : Array Oper} {Q : Exit → Act → World → Prop} : ∀ (is : List Nat) (l : List Oper) (s s' : St C.Θ.T) (a : Act) (W : World), is.map (fun i => ops[i]?) = l.map some → At C.Θ w0 F0 s a W → opsD C ops l s = some s' →
    (∀ a' w', At C.Θ w0 F0 s' a' w' → Q .normal a' w') → wpOps C.P ops Q is a W := by
  intro is
  induction is with
  | nil =>
    intro l s s' a W hm h0 h hQ
    cases l with
    | nil => cases h; exact hQ a W h0
    | cons o l => simp at hm
  | cons i is ih =>
    intro l s s' a W hm h0 h hQ
    cases l with
    | nil => simp at hm
    | cons o l =>
      simp only [List.map_cons, List.cons.injEq] at hm
      simp only [opsD] at h
      split at h <;> try (cases h; done)
      rename_i s1 h1
      rw [wpOps_cons]
      exact wpOp_mono (fun a' w' h' => ih l s1 s' a' w' hm.2 h' h hQ) (guard_ok hC h0 hm.1 h1)
theorem range_map (ops : Array Oper) : (List.range ops.size).map (fun i => ops[i]?) = ops.toList.map some := by
  apply List.ext_getElem?
  intro i
  simp only [List.getElem?_map]
  by_cases h : i < ops.size
  · simp [List.getElem?_range h, h]
  · have : ops.size ≤ i := by omega
    simp [List.getElem?_eq_none (l := List.range ops.size) (i := i) (by simpa using this), this]
end
end Go.Den
