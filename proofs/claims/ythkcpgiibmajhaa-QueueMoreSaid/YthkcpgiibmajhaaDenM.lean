/- Regions whose order is drawn. -/
import Derived.Test.YthkcpgiibmajhaaDenL
import Derived.Test.YthkcpgiibmajhaaDenK
namespace Go.Den
open Go Go.RowKit

section
variable {C : Cx}
theorem at_put (s : St C.Θ.T) (d : Option Nat) (v : AV C.Θ.T) (i : Nat) (h : d ≠ some i) : (s.put d v).at_ i = s.at_ i := put_slots d v i h
theorem ev_put (s : St C.Θ.T) (d : Option Nat) (v : AV C.Θ.T) (x : Operand) (h : ∀ t, d = some t → x ≠ .tmp t) : (s.put d v).ev x = s.ev x := by
  cases x with
  | tmp t => exact at_put s d v t (fun e => h t e rfl)
  | _ => rfl
theorem put_boxes (s : St C.Θ.T) (d : Option Nat) (v : AV C.Θ.T) : (s.put d v).boxes = s.boxes := by cases d <;> rfl
theorem put_rows (s : St C.Θ.T) (d : Option Nat) (v : AV C.Θ.T) : (s.put d v).rows = s.rows := by cases d <;> rfl
theorem put_comm (s : St C.Θ.T) (d e : Option Nat) (v u : AV C.Θ.T) (h : ∀ t, d = some t → e ≠ some t) : (s.put d v).put e u = (s.put e u).put d v := by
  cases d with
  | none => rfl
  | some d =>
    cases e with
    | none => rfl
    | some e =>
      have hne : d ≠ e := fun x => h d rfl (by rw [x])
      simp only [St.put]
      rw [List.set_comm _ _ hne]
/-- Two states that agree in what an operation looks at. -/
structure Alike (s t : St C.Θ.T) (l : List Operand) : Prop where
  ev : ∀ x ∈ l, t.ev x = s.ev x
  boxes : t.boxes = s.boxes
  rows : t.rows = s.rows
theorem get_rows {s t : St C.Θ.T} (h : t.rows = s.rows) (l : Leaf) (c : CV C.Θ.T) : t.get l c = s.get l c := by unfold St.get; rw [h]
theorem get_rows' {s t : St C.Θ.T} (h : t.rows = s.rows) : t.get = s.get := by funext l c; exact get_rows h l c
theorem pget_rows {s t : St C.Θ.T} (h : t.rows = s.rows) : t.pget = s.pget := by
  funext p v; unfold St.pget; rw [get_rows' h]
theorem cellsAt_alike {s t : St C.Θ.T} (hb : t.boxes = s.boxes) (hr : t.rows = s.rows) (v : AV C.Θ.T) : t.cellsAt C.Θ v = s.cellsAt C.Θ v := by
  unfold St.cellsAt; rw [hb, hr]
theorem bound_alike {s t : St C.Θ.T} (x : Option Operand) (h : ∀ y ∈ x.toArray, t.ev y = s.ev y) : vBound t x = vBound s x := by
  cases x with
  | none => rfl
  | some x => simp only [vBound]; rw [h x (by simp)]
theorem caps_alike {s t : St C.Θ.T} : ∀ (l : List Operand), (∀ y ∈ l, t.ev y = s.ev y) → capsOf t l = capsOf s l := by
  intro l
  induction l with
  | nil => intro _; rfl
  | cons x l ih => intro h; simp only [capsOf]; rw [h x (by simp), ih fun y hy => h y (by simp [hy])]
theorem sums_alike {s t : St C.Θ.T} : ∀ (l : List Operand), (∀ y ∈ l, t.ev y = s.ev y) → sumsOf t l = sumsOf s l := by
  intro l
  induction l with
  | nil => intro _; rfl
  | cons x l ih => intro h; simp only [sumsOf]; rw [h x (by simp), ih fun y hy => h y (by simp [hy])]
theorem parts_alike {s t : St C.Θ.T} (ty : TypeId) : ∀ (l : List (Nat × Operand)) (cs : List (CV C.Θ.T)), (∀ p ∈ l, t.ev p.2 = s.ev p.2) → fillParts C.P t ty l cs = fillParts C.P s ty l cs := by
  intro l
  induction l with
  | nil => intro _ _; rfl
  | cons x l ih =>
    intro cs h
    obtain ⟨f, x⟩ := x
    simp only [fillParts]
    rw [h (f, x) (by simp)]
    have := fun cs => ih cs fun p hp => h p (by simp [hp])
    simp only [this]
theorem map_alike {s t : St C.Θ.T} (l : List Operand) (h : ∀ y ∈ l, t.ev y = s.ev y) : l.map t.ev = l.map s.ev := List.map_congr_left h
theorem opV_alike {s t : St C.Θ.T} {op : Op} (h : Alike s t op.operands.toList) : opV C.P C.Θ C.eqs t op = opV C.P C.Θ C.eqs s op := by
  obtain ⟨hev, hb, hr⟩ := h
  cases op with
  | call c =>
    obtain ⟨callee, args, ats⟩ := c
    simp only [Op.operands, Call.operands] at hev
    have ha : ∀ y ∈ args.toList, t.ev y = s.ev y := fun y hy => hev y (by simp at hy ⊢; exact .inr hy)
    cases callee with
    | builtin b =>
      simp only [opV]
      rw [map_alike _ ha]
      cases b <;> try rfl
      case len =>
        simp only
        split
        · rename_i x ty tys hl ht
          have : t.ev x = s.ev x := ha x (by rw [hl]; simp)
          rw [this]
          unfold vLen; rw [hr]
        · rfl
    | _ => rfl
  | build ty ps =>
    simp only [opV, vBuild]
    simp only [Op.operands] at hev
    have : ∀ p ∈ ps.toList, t.ev p.2 = s.ev p.2 := fun p hp => hev p.2 (by simp; exact ⟨p.1, by simpa using hp⟩)
    split
    · split
      · rw [parts_alike ty _ _ this]
      · rfl
    · rfl
  | makeFunc fn first caps =>
    simp only [opV, vFunc]
    simp only [Op.operands] at hev
    rw [caps_alike caps.toList fun y hy => hev y (by simp at hy ⊢; exact .inr hy), sums_alike first.toList fun y hy => hev y (by simp at hy ⊢; exact .inl hy)]
  | slice ty x lo hi mx =>
    simp only [opV, vSlice]
    simp only [Op.operands] at hev
    rw [bound_alike lo fun y hy => hev y (by simp at hy ⊢; exact .inr (.inl hy)), bound_alike hi fun y hy => hev y (by simp at hy ⊢; exact .inr (.inr (.inl hy))), hev x (by simp)]
  | load ty x =>
    simp only [opV, vLoad]
    simp only [Op.operands] at hev
    rw [hev x (by simp), cellsAt_alike hb hr]
  | indexAddr ty x i =>
    simp only [opV, vIndexAddr]
    simp only [Op.operands] at hev
    rw [hev x (by simp), hev i (by simp), hr]
  | _ => first
    | rfl
    | (simp only [opV]; simp only [Op.operands] at hev; simp [hev])
theorem quiet_step {s s1 : St C.Θ.T} {o : Oper} (hq : quiet C o = true) (h : stepD C s o = some s1) :
    ∃ v, s1 = s.put o.dst v ∧ ∀ t, Alike s t o.op.operands.toList → stepD C t o = some (t.put o.dst v) := by
  obtain ⟨dst, op, ty, pos, after, guard⟩ := o
  simp only [quiet, Bool.and_eq_true, Bool.not_eq_true'] at hq
  obtain ⟨hm, hq⟩ := hq
  -- what only computes, or reads
  have plainQ : ∀ (op : Op), isMem op = false → plain1 C s ⟨dst, op, ty, pos, after, guard⟩ = (match opV C.P C.Θ C.eqs s op with | some (c, v) => some (c, s.put dst v) | none => none) := fun op h => by
    unfold plain1; rw [if_neg (by simp [h])]; rfl
  have plainQ' : ∀ (t : St C.Θ.T) (op : Op), isMem op = false → plain1 C t ⟨dst, op, ty, pos, after, guard⟩ = (match opV C.P C.Θ C.eqs t op with | some (c, v) => some (c, t.put dst v) | none => none) := fun t op h => by
    unfold plain1; rw [if_neg (by simp [h])]; rfl
  have main : ∀ op, isMem op = false → (match plain1 C s ⟨dst, op, ty, pos, after, guard⟩ with | some (c, s') => cond c (some s') none | none => none : Option (St C.Θ.T)) = some s1 →
      ∃ v, s1 = s.put dst v ∧ ∀ t, Alike s t op.operands.toList → (match plain1 C t ⟨dst, op, ty, pos, after, guard⟩ with | some (c, s') => cond c (some s') none | none => none : Option (St C.Θ.T)) = some (t.put dst v) := by
    intro op hm h
    rw [plainQ op hm] at h
    cases ho : opV C.P C.Θ C.eqs s op with
    | none => simp [ho] at h
    | some q =>
      obtain ⟨c, v⟩ := q
      simp only [ho] at h
      cases c with
      | false => cases h
      | true =>
        simp only [cond_true, Option.some.injEq] at h
        refine ⟨v, h.symm, fun t ht => ?_⟩
        rw [plainQ' t op hm, opV_alike ht, ho]
        rfl
  cases op with
  | pick c x y =>
    have hst : ∀ t : St C.Θ.T, stepD C t ⟨dst, .pick c x y, ty, pos, after, guard⟩ = match t.ev c with
      | .c (.v (.bool b)) => cond b (some (t.put dst (t.ev x))) (some (t.put dst (t.ev y)))
      | _ => none := by intro t; cases c <;> rfl
    rw [hst] at h
    split at h <;> try (cases h; done)
    rename_i b hb
    refine ⟨cond b (s.ev x) (s.ev y), ?_, fun t ht => ?_⟩
    · cases b <;> (cases h; rfl)
    · rw [hst]
      have h1 := ht.ev c (by simp [Op.operands])
      have h2 := ht.ev x (by simp [Op.operands])
      have h3 := ht.ev y (by simp [Op.operands])
      rw [h1, hb, h2, h3]
      cases b <;> rfl
  | call c =>
    obtain ⟨callee, args, ats⟩ := c
    cases callee with
    | value f =>
      cases f with
      | func g =>
        simp only at hq
        split at hq <;> try (cases hq; done)
        rename_i sp hl
        have hst : ∀ t : St C.Θ.T, stepD C t ⟨dst, .call ⟨.value (.func g), args, ats⟩, ty, pos, after, guard⟩ = match HT.get t.pget sp.pds (args.toList.map t.ev) with
          | some x => (sp.F x).bind fun y => some (t.put dst (resAV sp.rds y))
          | none => none := by
          intro t
          have : calleeOf C t (.func g) = some (g, sp, []) := by
            unfold calleeOf
            simp only [St.ev, hl]
          simp only [stepD, stepC, this, List.nil_append, afterCall, St.lend, if_pos hq]
          rfl
        rw [hst] at h
        split at h <;> try (cases h; done)
        rename_i x hx
        cases hF : sp.F x with
        | none => simp [hF] at h
        | some y =>
          simp only [hF, Option.bind_some, Option.some.injEq] at h
          refine ⟨resAV sp.rds y, h.symm, fun t ht => ?_⟩
          rw [hst]
          have : args.toList.map t.ev = args.toList.map s.ev := map_alike _ fun z hz => ht.ev z (by simp [Op.operands, Call.operands] at hz ⊢; exact .inr hz)
          rw [this, pget_rows ht.rows, hx]
          simp [hF]
      | _ => cases hq
    | _ => exact main _ hm h
  | _ => exact main _ hm h
theorem Alike.of_put {s : St C.Θ.T} {d : Option Nat} {v : AV C.Θ.T} {l : List Operand} (h : ∀ t, d = some t → (Operand.tmp t) ∉ l) : Alike s (s.put d v) l :=
  ⟨fun x hx => ev_put s d v x fun t e he => h t e (he ▸ hx), put_boxes s d v, put_rows s d v⟩
theorem Alike.of_put' {s : St C.Θ.T} {d : Option Nat} {v : AV C.Θ.T} {l : List Operand} (h : ∀ t, d = some t → (Operand.tmp t) ∉ l) : Alike (s.put d v) s l :=
  ⟨fun x hx => (ev_put s d v x fun t e he => h t e (he ▸ hx)).symm, (put_boxes s d v).symm, (put_rows s d v).symm⟩
/-- What an operation looks at: its operands, its guard's slot. -/
structure Alike2 (ops : Array Oper) (s t : St C.Θ.T) (o : Oper) : Prop where
  a : Alike s t o.op.operands.toList
  g : ∀ j w d, o.guard = some (j, w) → (ops[j]?).bind (·.dst) = some d → t.at_ d = s.at_ d
theorem quiet_guard {ops : Array Oper} {s s1 : St C.Θ.T} {o : Oper} (hq : quiet C o = true) (h : guardD C ops s o = some s1) :
    ∃ v, s1 = s.put o.dst v ∧ ∀ t, Alike2 ops s t o → guardD C ops t o = some (t.put o.dst v) := by
  unfold guardD at h
  split at h
  · rename_i hg
    obtain ⟨v, h1, h2⟩ := quiet_step hq h
    exact ⟨v, h1, fun t ht => by unfold guardD; rw [hg]; exact h2 t ht.a⟩
  · rename_i j w hg
    split at h <;> try (cases h; done)
    rename_i d hj
    split at h <;> try (cases h; done)
    · rename_i b hb
      split at h
      · rename_i hbw
        obtain ⟨v, h1, h2⟩ := quiet_step hq h
        refine ⟨v, h1, fun t ht => ?_⟩
        unfold guardD
        simp only [hg, hj, ht.g j w d hg hj, hb, if_pos hbw]
        exact h2 t ht.a
      · rename_i hbw
        cases h
        refine ⟨.skip, rfl, fun t ht => ?_⟩
        unfold guardD
        simp only [hg, hj, ht.g j w d hg hj, hb, if_neg hbw]
    · rename_i hb
      cases h
      refine ⟨.skip, rfl, fun t ht => ?_⟩
      unfold guardD
      simp only [hg, hj, ht.g j w d hg hj, hb]
theorem mem_looks {ops : Array Oper} {o : Oper} {t : Nat} (h : t ∉ o.looksAt ops) : (Operand.tmp t) ∉ o.op.operands.toList ∧ ∀ j w, o.guard = some (j, w) → (ops[j]?).bind (·.dst) ≠ some t := by
  constructor
  · intro hm
    exact h (List.mem_append_left _ (List.mem_filterMap.2 ⟨.tmp t, hm, rfl⟩))
  · intro j w hg he
    apply h
    unfold Oper.looksAt
    rw [hg]
    simp [he]
theorem alike2_put {ops : Array Oper} {s : St C.Θ.T} {o : Oper} {d : Option Nat} {v : AV C.Θ.T} (h : ∀ t, d = some t → t ∉ o.looksAt ops) : Alike2 ops s (s.put d v) o :=
  ⟨Alike.of_put fun t e => (mem_looks (h t e)).1, fun j w d' hg hj => at_put s d v d' fun e => (mem_looks (h d' e)).2 j w hg hj⟩
theorem alike2_put' {ops : Array Oper} {s : St C.Θ.T} {o : Oper} {d : Option Nat} {v : AV C.Θ.T} (h : ∀ t, d = some t → t ∉ o.looksAt ops) : Alike2 ops (s.put d v) s o :=
  ⟨Alike.of_put' fun t e => (mem_looks (h t e)).1, fun j w d' hg hj => (at_put s d v d' fun e => (mem_looks (h d' e)).2 j w hg hj).symm⟩
/-- Two quiet operations that are apart: the later one may go first. -/
theorem swap {ops : Array Oper} {s s1 s2 : St C.Θ.T} {x y : Oper} (hx : quiet C x = true) (hy : quiet C y = true) (hap : Oper.apart ops x y = true) (h1 : guardD C ops s x = some s1) (h2 : guardD C ops s1 y = some s2) :
    ∃ s1', guardD C ops s y = some s1' ∧ guardD C ops s1' x = some s2 := by
  obtain ⟨a1, a2, a3⟩ := Oper.apart_spec hap
  obtain ⟨v, e1, g1⟩ := quiet_guard hx h1
  obtain ⟨u, e2, g2⟩ := quiet_guard hy h2
  subst e1
  have k1 := g2 s (alike2_put' a1)
  refine ⟨_, k1, ?_⟩
  rw [g1 _ (alike2_put a3), e2, put_comm s x.dst y.dst v u a2]
/-- An operation goes ahead of those that it is apart from. -/
theorem front {ops : Array Oper} {o : Oper} : ∀ (l1 l2 : List Oper) (s s' : St C.Θ.T), (∀ k ∈ l1, quiet C k = true ∧ quiet C o = true ∧ Oper.apart ops k o = true) → opsD C ops (l1 ++ o :: l2) s = some s' →
    ∃ s1, guardD C ops s o = some s1 ∧ opsD C ops (l1 ++ l2) s1 = some s' := by
  intro l1
  induction l1 with
  | nil =>
    intro l2 s s' _ h
    simp only [List.nil_append, opsD] at h
    split at h <;> try (cases h; done)
    rename_i s1 h1
    exact ⟨s1, h1, h⟩
  | cons k l1 ih =>
    intro l2 s s' hk h
    simp only [List.cons_append, opsD] at h
    split at h <;> try (cases h; done)
    rename_i s1 h1
    obtain ⟨s2, h2, h3⟩ := ih l2 s1 s' (fun k hk' => hk k (by simp [hk'])) h
    obtain ⟨q1, q2, q3⟩ := hk k (by simp)
    obtain ⟨s1', g1, g2⟩ := swap q1 q2 q3 h1 h2
    refine ⟨s1', g1, ?_⟩
    simp only [List.cons_append, opsD, g2]
    exact h3
/-! ### Who waits for whom -/
theorem anc_spec : ∀ (l : List Oper) (tab : List Nat), (∀ i, i < tab.length → (ancTab l tab).getD i 0 = tab.getD i 0) ∧
    ∀ j o, l[j]? = some o → ∃ t' : List Nat, (ancTab l tab).getD (tab.length + j) 0 = edgeMask t' o.after.toList ∧ ∀ i, i < tab.length + j → t'.getD i 0 = (ancTab l tab).getD i 0 := by
  intro l
  induction l with
  | nil => intro tab; exact ⟨fun i _ => rfl, fun j o h => by simp at h⟩
  | cons x l ih =>
    intro tab
    obtain ⟨h1, h2⟩ := ih (tab ++ [edgeMask tab x.after.toList])
    have hlen : (tab ++ [edgeMask tab x.after.toList]).length = tab.length + 1 := by simp
    have hold : ∀ i, i < tab.length → (tab ++ [edgeMask tab x.after.toList]).getD i 0 = tab.getD i 0 := fun i hi => by
      simp [List.getD_eq_getElem?_getD, List.getElem?_append_left hi]
    refine ⟨fun i hi => ?_, fun j o hj => ?_⟩
    · simp only [ancTab]
      rw [h1 i (by omega), hold i hi]
    · cases j with
      | zero =>
        simp at hj
        subst hj
        refine ⟨tab, ?_, fun i hi => ?_⟩
        · simp only [ancTab, Nat.add_zero]
          rw [h1 tab.length (by omega)]
          simp [List.getD_eq_getElem?_getD]
        · simp only [ancTab]
          rw [h1 i (by omega), hold i (by omega)]
      | succ j =>
        simp at hj
        obtain ⟨t', e1, e2⟩ := h2 j o hj
        rw [hlen] at e1 e2
        refine ⟨t', ?_, fun i hi => ?_⟩
        · simp only [ancTab]
          rw [← e1]; congr 1; omega
        · simp only [ancTab]
          exact e2 i (by omega)
theorem mask_spec (tab : List Nat) : ∀ (l : List Edge) (k : Nat), (edgeMask tab l).testBit k = true → ∃ e ∈ l, Region.binds .any e = true ∧ (e.on = k ∨ (tab.getD e.on 0).testBit k = true) := by
  intro l
  induction l with
  | nil => intro k h; simp [edgeMask] at h
  | cons e l ih =>
    intro k h
    simp only [edgeMask] at h
    split at h
    · rename_i hb
      rw [Nat.testBit_or, Nat.testBit_or, Bool.or_eq_true, Bool.or_eq_true] at h
      rcases h with (h | h) | h
      · refine ⟨e, by simp, hb, .inl ?_⟩
        rw [Nat.one_shiftLeft, Nat.testBit_two_pow] at h
        simpa using h
      · exact ⟨e, by simp, hb, .inr h⟩
      · obtain ⟨e', h1, h2⟩ := ih k h; exact ⟨e', by simp [h1], h2⟩
    · obtain ⟨e', h1, h2⟩ := ih k h; exact ⟨e', by simp [h1], h2⟩
/-- All that an operation waits for is listed with it. -/
def Shut (ops : Array Oper) (listed : Array Bool) : Prop := ∀ m o, ops[m]? = some o → listed.getD m false = true → ∀ e ∈ o.after.toList, Region.binds .any e = true → listed.getD e.on false = true
theorem anc_listed {ops : Array Oper} {listed : Array Bool} (hs : Shut ops listed) (hd : ∀ (i : Nat) (o : Oper), ops[i]? = some o → ∀ e ∈ o.after.toList, Region.binds .any e = true → e.on < i) :
    ∀ (i : Nat) (o : Oper), ops[i]? = some o → (∀ e ∈ o.after.toList, Region.binds .any e = true → listed.getD e.on false = true) → ∀ k, ((ancTab ops.toList []).getD i 0).testBit k = true → listed.getD k false = true := by
  intro i
  induction i using Nat.strongRecOn with
  | _ i ih =>
    intro o ho hl k hk
    obtain ⟨t', e1, e2⟩ := (anc_spec ops.toList []).2 i o (by simpa using ho)
    simp only [List.length_nil, Nat.zero_add] at e1 e2
    rw [e1] at hk
    obtain ⟨e, he, hb, h⟩ := mask_spec _ _ _ hk
    have hlt := hd i o ho e he hb
    rcases h with h | h
    · rw [← h]; exact hl e he hb
    · rw [e2 e.on hlt] at h
      have hsz : e.on < ops.size := Nat.lt_trans hlt (Array.getElem?_eq_some_iff.1 ho).1
      have hoe : ops[e.on]? = some ops[e.on] := Array.getElem?_eq_getElem hsz
      exact ih e.on hlt _ hoe (hs e.on _ hoe (hl e he hb)) k h
def left_ (n : Nat) (listed : Array Bool) : List Nat := (List.range n).filter fun i => !listed.getD i true
theorem any_ok (hC : C.Ok) {w0 : World} {F0 : Nat → Prop} {ops : Array Oper} {Q : Exit → Act → World → Prop} (hdraw : drawOk C ops = true) {s' : St C.Θ.T} (hQ : ∀ a' w', At C.Θ w0 F0 s' a' w' → Q .normal a' w') :
    ∀ (fuel : Nat) (listed : Array Bool) (s : St C.Θ.T) (a : Act) (W : World), listed.size = ops.size → Shut ops listed → (left_ ops.size listed).length = fuel → At C.Θ w0 F0 s a W →
      opsD C ops ((left_ ops.size listed).filterMap fun i => ops[i]?) s = some s' → wpAny C.P .any ops Q fuel listed a W := by
  have hrow : ∀ (i : Nat) (o : Oper), ops[i]? = some o → (∀ e ∈ o.after.toList, Region.binds .any e = true → e.on < i) ∧ ∀ k, k < i → pairOk C ops ((ancTab ops.toList []).getD i 0) k o = true := by
    intro i o ho
    have := List.all_eq_true.1 hdraw i (List.mem_range.2 (Array.getElem?_eq_some_iff.1 ho).1)
    simp only [rowOk, ho, Bool.and_eq_true, List.all_eq_true] at this
    refine ⟨fun e he hb => ?_, fun k hk => this.2 k (List.mem_range.2 hk)⟩
    have := this.1 e he
    simp only [hb, Bool.not_true, Bool.false_or] at this
    rw [Nat.blt_eq] at this; exact this
  intro fuel
  induction fuel with
  | zero =>
    intro listed s a W hsz hsh hlen h0 h
    have hnil : left_ ops.size listed = [] := List.eq_nil_of_length_eq_zero hlen
    rw [hnil] at h
    cases h
    refine ⟨?_, hQ a W h0⟩
    have : ∀ j, j ∉ Region.ready .any ops listed := by
      intro j hj
      obtain ⟨hu, o, ho, _⟩ := mem_ready.1 hj
      have : j ∈ left_ ops.size listed := List.mem_filter.2 ⟨List.mem_range.2 (Array.getElem?_eq_some_iff.1 ho).1, by simp only [hu]; rfl⟩
      rw [hnil] at this
      cases this
    exact List.eq_nil_iff_forall_not_mem.2 this
  | succ fuel ih =>
    intro listed s a W hsz hsh hlen h0 h
    have hne : Region.ready .any ops listed ≠ [] := by
      intro hnil
      cases hl : left_ ops.size listed with
      | nil => rw [hl] at hlen; simp at hlen
      | cons i r =>
        -- the first that is left is ready
        have hi : i ∈ left_ ops.size listed := by rw [hl]; simp
        obtain ⟨hi1, hi2⟩ := List.mem_filter.1 hi
        have hlt := List.mem_range.1 hi1
        have ho : ops[i]? = some ops[i] := Array.getElem?_eq_getElem hlt
        have : i ∈ Region.ready .any ops listed := by
          refine mem_ready.2 ⟨by simpa using hi2, ops[i], ho, fun e he hb => ?_⟩
          have hei := (hrow i _ ho).1 e (by simpa using he) hb
          by_cases hx : listed.getD e.on false = true
          · exact hx
          · exfalso
            have hm : e.on ∈ left_ ops.size listed := by
              refine List.mem_filter.2 ⟨List.mem_range.2 (by omega), ?_⟩
              have hlt' : e.on < listed.size := by omega
              simp only [Array.getD_eq_getD_getElem?, Array.getElem?_eq_getElem hlt', Option.getD_some] at hx ⊢
              simpa using hx
            -- but i is the least
            have hsorted : (left_ ops.size listed).Pairwise (· < ·) := List.Pairwise.filter _ List.pairwise_lt_range
            rw [hl] at hsorted hm
            rw [List.pairwise_cons] at hsorted
            rcases List.mem_cons.1 hm with h | h
            · omega
            · have := hsorted.1 _ h; omega
        rw [hnil] at this
        cases this
    refine ⟨fun h => absurd h hne, fun i hi => ?_⟩
    obtain ⟨hu, o, ho, hall⟩ := mem_ready.1 hi
    have hlt := (Array.getElem?_eq_some_iff.1 ho).1
    have hall' : ∀ e ∈ o.after.toList, Region.binds .any e = true → listed.getD e.on false = true := fun e he hb => hall e (by simpa using he) hb
    have hmem : i ∈ left_ ops.size listed := List.mem_filter.2 ⟨List.mem_range.2 hlt, by simp only [hu]; rfl⟩
    obtain ⟨l1, l2, hsplit⟩ := List.append_of_mem hmem
    have hsorted : (left_ ops.size listed).Pairwise (· < ·) := List.Pairwise.filter _ List.pairwise_lt_range
    rw [hsplit] at hsorted
    have hs1 : ∀ k ∈ l1, k < i := fun k hk => (List.pairwise_append.1 hsorted).2.2 k hk i (by simp)
    have hs2 : ∀ k ∈ l2, i < k := fun k hk => (List.pairwise_cons.1 (List.pairwise_append.1 hsorted).2.1).1 k hk
    have hfm : (left_ ops.size listed).filterMap (fun i => ops[i]?) = l1.filterMap (fun i => ops[i]?) ++ o :: l2.filterMap (fun i => ops[i]?) := by
      rw [hsplit, List.filterMap_append, List.filterMap_cons, ho]
    rw [hfm] at h
    obtain ⟨s1, g1, g2⟩ := front _ _ _ _ (fun ok hk => by
      obtain ⟨k, hk1, hk2⟩ := List.mem_filterMap.1 hk
      have hkl : k ∈ left_ ops.size listed := by rw [hsplit]; simp [hk1]
      have hku : listed.getD k true = false := by
        have := (List.mem_filter.1 hkl).2
        simpa using this
      have := (hrow i o ho).2 k (hs1 k hk1)
      unfold pairOk at this
      rw [hk2] at this
      simp only [Bool.or_eq_true, Bool.and_eq_true] at this
      rcases this with hb | ⟨h1, h2, h3⟩
      · exfalso
        have := anc_listed hsh (fun i o ho => (hrow i o ho).1) i o ho hall' k hb
        have hkz : k < listed.size := by rw [hsz]; exact (Array.getElem?_eq_some_iff.1 hk2).1
        simp only [Array.getD_eq_getD_getElem?, Array.getElem?_eq_getElem hkz, Option.getD_some] at this hku
        rw [this] at hku; cases hku
      · exact ⟨h1, h2, h3⟩) h
    have hstep := guard_ok (Q := Q) hC h0 ho g1
    have hl' : left_ ops.size (listed.setIfInBounds i true) = l1 ++ l2 := by
      have : left_ ops.size (listed.setIfInBounds i true) = (left_ ops.size listed).filter fun k => k != i := by
        unfold left_
        rw [List.filter_filter]
        apply List.filter_congr
        intro k hk
        by_cases hki : k = i
        · subst hki
          have hkz : k < listed.size := by omega
          simp [Array.getD_eq_getD_getElem?, hkz]
        · rw [getD_set_ne true (fun e => hki e.symm)]
          simp [hki]
      rw [this, hsplit, List.filter_append, List.filter_cons]
      have f1 : l1.filter (fun k => k != i) = l1 := List.filter_eq_self.2 fun k hk => by have := hs1 k hk; simp; omega
      have f2 : l2.filter (fun k => k != i) = l2 := List.filter_eq_self.2 fun k hk => by have := hs2 k hk; simp; omega
      simp [f1, f2]
    refine wpOp_mono (fun a' w' h' => ih (listed.setIfInBounds i true) s1 a' w' (by simpa using hsz) ?_ ?_ h' ?_) hstep
    · intro m om hom hm e he hb
      by_cases hmi : m = i
      · subst hmi
        rw [ho] at hom
        cases hom
        exact getD_set_true (hall' e he hb)
      · rw [getD_set_ne false (fun e => hmi e.symm)] at hm
        exact getD_set_true (hsh m om hom hm e he hb)
    · rw [hl']
      rw [hsplit] at hlen
      simp at hlen ⊢
      omega
    · rw [hl', List.filterMap_append]
      exact g2
/-- A region whose order is drawn. -/
theorem draw_ok (hC : C.Ok) {w0 : World} {F0 : Nat → Prop} {id : Nat} {ops : Array Oper} {Q : Exit → Act → World → Prop} (hdraw : drawOk C ops = true) {s s' : St C.Θ.T} {a : Act} {W : World} (h0 : At C.Θ w0 F0 s a W)
    (h : opsD C ops ops.toList s = some s') (hQ : ∀ a' w', At C.Θ w0 F0 s' a' w' → Q .normal a' w') : (Code.region id ops true).wp C.P Q a W := by
  refine wp_region_any hC.mixed ?_
  have hl : left_ ops.size (Array.replicate ops.size false) = List.range ops.size := by
    unfold left_
    refine List.filter_eq_self.2 fun i hi => ?_
    have := List.mem_range.1 hi
    simp [Array.getD_eq_getD_getElem?, this]
  refine any_ok hC hdraw hQ ops.size _ s a _ (by simp) ?_ (by rw [hl]; simp) ?_ ?_
  · intro m o _ hm
    exfalso
    by_cases hm' : m < ops.size <;> simp [Array.getD_eq_getD_getElem?, hm'] at hm
  · obtain ⟨hd, bx, rw_, hS⟩ := h0
    exact ⟨hd, bx, rw_, hS.later ⟨rfl, rfl, rfl, Nat.le_refl _, fun _ _ => rfl⟩⟩
  · rw [hl]
    have : (List.range ops.size).filterMap (fun i => ops[i]?) = ops.toList := by
      have h1 := range_map ops
      have h2 : ((List.range ops.size).map fun i => ops[i]?).filterMap _root_.id = (ops.toList.map some).filterMap _root_.id := by rw [h1]
      rw [List.filterMap_map, List.filterMap_map] at h2
      simpa [Function.comp_def] using h2
    rw [this]
    exact h
end
end Go.Den
