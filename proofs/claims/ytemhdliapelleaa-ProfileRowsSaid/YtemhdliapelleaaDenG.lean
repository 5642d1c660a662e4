/- Operations that make or write memory: the machine does what 'den' says. -/
import Derived.Test.YtemhdliapelleaaDenF
namespace Go.Den
open Go Go.RowKit

/-- What an operation comes to: behind it the state s' stands for the machine's. -/
def Comes1 (Θ : Tab) (P : Program) (E : Env) (o : Oper) (a : Act) (W : World) (s' : St Θ.T) : Prop :=
  ∃ tm' W' bx' rw', Sim Θ E s' tm' W' bx' rw' ∧ ∀ next Q, next { a with tmps := tm' } W' → o.upon P a next Q ((execOp a.eval o).run P W)

section
variable {Θ : Tab} {E : Env} {s : St Θ.T} {a : Act} {W : World} {bx : Nat → Nat → Nat} {rw_ : Nat → Nat → Value} {P : Program}
theorem comes_value {o : Oper} {d : Nat} {u : Value} {W' : World} {s' : St Θ.T} {bx' : Nat → Nat → Nat} {rw' : Nat → Nat → Value} (hd : o.dst = some d) (hr : (execOp a.eval o).run P W = .ok (.value u) W') (hS : Sim Θ E s' (a.tmps.setIfInBounds d u) W' bx' rw') :
    Comes1 Θ P E o a W s' :=
  ⟨_, W', bx', rw', hS, fun next Q h => by rw [hr, Oper.upon_value]; unfold Act.put; rw [hd]; exact h⟩
theorem evCells_noB {d g : Nat} (h : s.noB d g = true) {x : Operand} {cs : List (CV Θ.T)} (hx : cellsOfAV (s.ev x) = some cs) : ∀ c ∈ cs, has c.mB d g = false := by
  intro c hc
  cases x with
  | tmp t =>
    have := noB_slots h t
    simp only [St.ev] at hx
    revert this hx
    generalize s.at_ t = v
    intro hx this
    unfold cellsOfAV at hx
    split at hx <;> try (cases hx; done)
    · cases hx
      simp at hc; subst hc
      cases hh : has c.mB d g with
      | false => rfl
      | true =>
        unfold has at hh
        obtain ⟨p, hp, hq⟩ := List.any_eq_true.1 hh
        exact absurd (by simpa using hq) (this p hp)
    · cases hx
      cases hh : has c.mB d g with
      | false => rfl
      | true =>
        unfold has at hh
        obtain ⟨p, hp, hq⟩ := List.any_eq_true.1 hh
        exact absurd (by simpa using hq) (this p (List.mem_flatMap.2 ⟨c, hc, hp⟩))
  | const v =>
    simp only [St.ev] at hx
    cases hv : cvConst (T := Θ.T) v with
    | none => simp [hv, cellsOfAV] at hx
    | some q =>
      simp [hv, cellsOfAV] at hx
      subst hx
      simp at hc; subst hc
      unfold cvConst at hv
      split at hv <;> first | (cases hv; done) | (cases hv; rfl)
  | func f =>
    simp [St.ev, cellsOfAV] at hx
    subst hx
    simp at hc; subst hc
    rfl
  | global g => simp [St.ev, cellsOfAV] at hx
theorem plain_noB {c : CV Θ.T} (h : plainC c = true) (d g : Nat) : has c.mB d g = false := by
  cases c <;> first | rfl | (simp [plainC] at h; done)
theorem constCells_mB : ∀ (l : List Value) (cs : List (CV Θ.T)), constCells l = some cs → ∀ c ∈ cs, c.mB = [] := by
  intro l
  induction l with
  | nil => intro cs h; simp [constCells] at h; subst h; intro c hc; cases hc
  | cons v l ih =>
    intro cs h
    simp only [constCells] at h
    split at h <;> try (cases h; done)
    rename_i c r hc hr
    cases h
    intro c' hc'
    rcases List.mem_cons.1 hc' with e | e
    · rw [e]
      unfold cvConst at hc
      split at hc <;> first | (cases hc; done) | (cases hc; rfl)
    · exact ih r hr c' e
theorem alloc_ok (hS : Sim Θ E s a.tmps W bx rw_) {o : Oper} {d t : Nat} (hd : o.dst = some d) (ho : o.op = .alloc t) {s' : St Θ.T} (h : aAlloc P s d t = some (true, s')) : Comes1 Θ P E o a W s' := by
  unfold aAlloc at h
  split at h <;> try (cases h; done)
  rename_i cs hcs
  cases hn : s.newBox d t cs with
  | none => simp [hn] at h
  | some s1 =>
    simp [hn] at h
    subst h
    obtain ⟨i, z, hi, hz, hc⟩ := zeroCells_ok (W := W) (F := FF E s bx rw_ W) (bx := bx) (rw_ := rw_) hcs
    have hp : ∀ c ∈ cs, c.mB = [] := by
      unfold zeroCells at hcs
      rw [hi] at hcs
      simp only [hz] at hcs
      exact constCells_mB _ _ hcs
    obtain ⟨bx', hS'⟩ := hS.newBox hn hc (fun c hc => by rw [hp c hc]; rfl)
    refine comes_value (W' := W.alloc (.cells z.cells t)) hd ?_ (by simpa using hS')
    simp [execOp, ho, Instr.alloc, zeroValue, typeInfo, hi, hz, newVar, newRow]
theorem box_ok (hS : Sim Θ E s a.tmps W bx rw_) {o : Oper} {d t : Nat} {x : Operand} (hd : o.dst = some d) (ho : o.op = .box t x) {s' : St Θ.T} (h : aBox s d t (s.ev x) = some (true, s')) : Comes1 Θ P E o a W s' := by
  unfold aBox at h
  split at h <;> try (cases h; done)
  rename_i cs hcs
  split at h <;> try (cases h; done)
  rename_i hall
  cases hn : s.newBox d t cs with
  | none => simp [hn] at h
  | some s1 =>
    simp [hn] at h
    subst h
    have hc := cellsOfAV_ok hS.rwsl hcs (hS.ev a rfl x)
    obtain ⟨bx', hS'⟩ := hS.newBox hn hc (fun c hc => by simpa using List.all_eq_true.1 hall c hc)
    refine comes_value (W' := W.alloc (.cells (a.eval x).cells t)) hd ?_ (by simpa using hS')
    simp [execOp, ho, Instr.box, newVar, newRow]
/-- A variable is written. -/
theorem Sim.writeBox (hS : Sim Θ E s a.tmps W bx rw_) {k g off : Nat} {vs : List (CV Θ.T)} {us : List Value} {s' : St Θ.T} (h : s.writeBox k g off vs = some s') (hv : All2 (RCV Θ W (FF E s bx rw_ W) bx rw_) vs us) :
    ∃ W', (storeCells ⟨bx k g, off, none⟩ us).run P W = .ok () W' ∧ Sim Θ E s' a.tmps W' bx rw_ := by
  unfold St.writeBox at h
  split at h <;> try (cases h; done)
  rename_i B hB
  split at h <;> try (cases h; done)
  rename_i hc
  obtain ⟨hg, hle⟩ := hc
  cases h
  subst hg
  obtain ⟨hb0, cs, hh, ha⟩ := hS.boxes k B hB
  have hl : off + 0 + us.length ≤ cs.toArray.size := by rw [← hv.length]; simp; rw [← ha.length]; omega
  have h1 : ∀ u ∈ us, u.oneCell' = true := fun u hu => by
    obtain ⟨i, hi⟩ := List.getElem?_of_mem hu
    obtain ⟨c, _, hr⟩ := hv.get' i hi
    exact (RCV.cells hS.rwsl hr).2
  have hrun := run_storeCells_at P (bx k B.gen) off B.ty us 0 cs.toArray W hh hl h1
  simp only [Nat.add_zero] at hrun
  refine ⟨_, hrun, ?_⟩
  generalize hnew : (cs.toArray.toList.take off ++ us ++ cs.toArray.toList.drop (off + us.length)).toArray = new
  have hnl : new.toList = cs.take off ++ us ++ cs.drop (off + us.length) := by rw [← hnew]
  have hheap := setRow_heap W (bx k B.gen) cs.toArray new B.ty (0, 0) hh
  have hother : ∀ j, j ≠ bx k B.gen → (W.setRow (bx k B.gen) new).heap[j]? = W.heap[j]? := fun j hj => setRow_other W (bx k B.gen) j new hj
  have hlook : ∀ q B', look (keep s.boxes k ⟨B.gen, B.ty, B.cells.take off ++ vs ++ B.cells.drop (off + vs.length)⟩) q = some B' →
      (q = k ∧ B' = ⟨B.gen, B.ty, B.cells.take off ++ vs ++ B.cells.drop (off + vs.length)⟩) ∨ (q ≠ k ∧ look s.boxes q = some B') := by
    intro q B' hB'
    rw [look_keep] at hB'
    split at hB'
    · rename_i e; cases hB'; exact .inl ⟨e.symm, rfl⟩
    · rename_i e; exact .inr ⟨fun e' => e e'.symm, hB'⟩
  have hMut : ∀ b, Mut s bx rw_ b ↔ Mut ⟨s.slots, keep s.boxes k ⟨B.gen, B.ty, B.cells.take off ++ vs ++ B.cells.drop (off + vs.length)⟩, s.rows⟩ bx rw_ b := by
    intro b
    constructor
    · rintro (⟨q, B', hB', hb⟩ | h)
      · by_cases hq : q = k
        · subst hq
          rw [hB] at hB'; cases hB'
          exact .inl ⟨q, ⟨B.gen, B.ty, B.cells.take off ++ vs ++ B.cells.drop (off + vs.length)⟩, by rw [look_keep, if_pos rfl], hb⟩
        · exact .inl ⟨q, B', by rw [look_keep, if_neg (fun e => hq e.symm)]; exact hB', hb⟩
      · exact .inr h
    · rintro (⟨q, B', hB', hb⟩ | h)
      · rcases hlook q B' hB' with ⟨rfl, rfl⟩ | ⟨_, hB1⟩
        · exact .inl ⟨q, B, hB, hb⟩
        · exact .inl ⟨q, B', hB1, hb⟩
      · exact .inr h
  have hsz : (W.setRow (bx k B.gen) new).heap.size = W.heap.size := by simp [World.setRow]
  have hF : ∀ b, FF E s bx rw_ W b → FF E ⟨s.slots, keep s.boxes k ⟨B.gen, B.ty, B.cells.take off ++ vs ++ B.cells.drop (off + vs.length)⟩, s.rows⟩ bx rw_ (W.setRow (bx k B.gen) new) b := by
    rintro b ⟨h1, h2, h3⟩
    exact ⟨h1, by rw [hsz]; exact h2, fun hm => h3 ((hMut b).2 hm)⟩
  have hW : ∀ b, FF E s bx rw_ W b → (W.setRow (bx k B.gen) new).heap[b]? = W.heap[b]? := by
    rintro b ⟨_, _, h3⟩
    exact hother b (fun e => h3 (.inl ⟨k, B, hB, e.symm⟩))
  have hgrow : W.grownBy (W.setRow (bx k B.gen) new) (some (bx k B.gen)) := ⟨rfl, rfl, rfl, by rw [hsz]; exact Nat.le_refl _, fun j _ hj => hother j (fun e => hj (by rw [e]))⟩
  refine ⟨hS.below.grown hgrow (fun j hj => by cases hj; exact hb0), fun q b hq => ?_, hS.pinR, hS.rwsl, fun q B' hB' => ?_, fun r R hR => ?_, ?_, hS.rr, ?_, hS.len, fun i => RAV.trans hF hW (fun _ _ => rfl) (fun _ _ => rfl) (hS.slots i)⟩
  · obtain ⟨h1, h2⟩ := hS.pinB q b hq
    refine ⟨h1, fun B' hB' h0 => ?_⟩
    rcases hlook q B' hB' with ⟨rfl, rfl⟩ | ⟨_, hB1⟩
    · exact h2 B hB h0
    · exact h2 B' hB1 h0
  · rcases hlook q B' hB' with ⟨rfl, rfl⟩ | ⟨hq, hB1⟩
    · refine ⟨hb0, new.toList, by simpa using hheap, ?_⟩
      rw [hnl, ← hv.length]
      exact RCs.trans hF hW (fun _ _ => rfl) (fun _ _ => rfl) (((ha.take off).append hv).append (ha.drop (off + vs.length)))
    · obtain ⟨h1, cv, hh', ha'⟩ := hS.boxes q B' hB1
      exact ⟨h1, cv, by rw [hother _ (fun e => hq (hS.bb q B' k B hB1 hB e))]; exact hh', RCs.trans hF hW (fun _ _ => rfl) (fun _ _ => rfl) ha'⟩
  · obtain ⟨hob, xs, ho, har⟩ := hS.rows r R hR
    refine ⟨hob, xs, ho.kept hgrow ?_, har.mono fun x u hx => Rep.mono hx hF hW⟩
    exact .inr (fun e => hS.br k B r R hB hR e)
  · intro q B1 q' B1' h1 h1' he
    rcases hlook q B1 h1 with ⟨rfl, rfl⟩ | ⟨hq, hB1⟩ <;> rcases hlook q' B1' h1' with ⟨rfl, rfl⟩ | ⟨hq', hB1'⟩
    · rfl
    · exact hS.bb q B q' B1' hB hB1' he
    · exact hS.bb q B1 q' B hB1 hB he
    · exact hS.bb q B1 q' B1' hB1 hB1' he
  · intro q B1 r R h1 hR
    rcases hlook q B1 h1 with ⟨rfl, rfl⟩ | ⟨hq, hB1⟩
    · exact hS.br q B r R hB hR
    · exact hS.br q B1 r R hB1 hR
theorem split_write {A : Type} (l u : List A) (p off sz : Nat) (h1 : off + u.length ≤ sz) (h2 : p + sz ≤ l.length) :
    l.take (p + off) ++ u ++ l.drop (p + off + u.length) = l.take p ++ (((l.drop p).take sz).take off ++ u ++ ((l.drop p).take sz).drop (off + u.length)) ++ l.drop (p + sz) := by
  have e1 : l.take (p + off) = l.take p ++ (l.drop p).take off := List.take_add
  have e2 : ((l.drop p).take sz).take off = (l.drop p).take off := by rw [List.take_take, Nat.min_eq_left (by omega)]
  have e3 : l.drop (p + off + u.length) = ((l.drop p).take sz).drop (off + u.length) ++ l.drop (p + sz) := by
    have hsp : l.drop p = (l.drop p).take sz ++ (l.drop p).drop sz := (List.take_append_drop sz _).symm
    have e4 : l.drop (p + (off + u.length)) = (l.drop p).drop (off + u.length) := by rw [List.drop_drop]
    have e5 : l.drop (p + sz) = (l.drop p).drop sz := by rw [List.drop_drop]
    rw [show p + off + u.length = p + (off + u.length) by omega, e4, e5]
    conv => lhs; rw [hsp]
    rw [List.drop_append_of_le_length (by rw [List.length_take, List.length_drop]; omega)]
  rw [e1, e2, e3]
  simp only [List.append_assoc]
theorem flatMap_set {A B : Type} (f : A → List B) (sz : Nat) (hf : ∀ a, (f a).length = sz) : ∀ (l : List A) (i : Nat) (y : A), i < l.length → (l.set i y).flatMap f = (l.flatMap f).take (i * sz) ++ f y ++ (l.flatMap f).drop (i * sz + sz) := by
  intro l
  induction l with
  | nil => intro i y h; simp at h
  | cons x l ih =>
    intro i y h
    cases i with
    | zero =>
      simp only [List.set_cons_zero, List.flatMap_cons, Nat.zero_mul, List.take_zero, List.nil_append, Nat.zero_add]
      rw [List.drop_append_of_le_length (by rw [hf]; omega), List.drop_of_length_le (by rw [hf]; omega)]
      simp
    | succ i =>
      simp only [List.set_cons_succ, List.flatMap_cons]
      rw [ih i y (by simpa using h)]
      rw [show (i + 1) * sz = sz + i * sz by rw [Nat.succ_mul]; omega]
      rw [List.take_append, List.drop_append, hf]
      rw [List.take_of_length_le (l := f x) (by rw [hf]; omega), List.drop_of_length_le (l := f x) (by rw [hf]; omega)]
      rw [show sz + i * sz - sz = i * sz by omega, show sz + i * sz + sz - sz = i * sz + sz by omega]
      simp
theorem take_write {A : Type} (l u : List A) (o m : Nat) (h : o + u.length ≤ m) (hm : m ≤ l.length) : (l.take o ++ u ++ l.drop (o + u.length)).take m = (l.take m).take o ++ u ++ (l.take m).drop (o + u.length) := by
  have hl : (l.take o ++ u).length = o + u.length := by simp; omega
  rw [List.take_append, List.take_of_length_le (by omega), hl, List.take_take, Nat.min_eq_left (by omega), List.take_drop]
  rw [show o + u.length + (m - (o + u.length)) = m by omega]
/-- An element of a row of the call's own is written. -/
theorem Sim.writeRow (hS : Sim Θ E s a.tmps W bx rw_) {r g : Nat} {i : Int} {sz off : Nat} {vs : List (CV Θ.T)} {us : List Value} {s' : St Θ.T} {u : Value} (h : s.writeRow Θ r g i sz off vs = some s') (hr : RAV Θ W (FF E s bx rw_ W) bx rw_ (.rel r g i sz off) u)
    (hv : All2 (RCV Θ W (FF E s bx rw_ W) bx rw_) vs us) :
    ∃ ad W', u = .pointer (some ad) ∧ (storeCells ad us).run P W = .ok () W' ∧ Sim Θ E s' a.tmps W' bx rw_ := by
  unfold St.writeRow at h
  split at h <;> try (cases h; done)
  rename_i R hR
  split at h <;> try (cases h; done)
  rename_i hc
  obtain ⟨hg, rfl, hle, hpl⟩ := hc
  split at h <;> try (cases h; done)
  rename_i y hy
  cases h
  subst hg
  obtain ⟨b, n, cap, e1, h0, h1, rfl⟩ := hr
  obtain ⟨hob, xs, hown0, har⟩ := hS.rows r R hR
  have hcap0 : cap ≠ 0 := by
    obtain ⟨⟨A, c, hv⟩, h2⟩ := hown0.form
    have hn : n = R.l.length := by rw [e1] at hv; cases hv; rfl
    obtain ⟨b', c', hv', hle'⟩ := h2 (by omega)
    rw [e1] at hv'; cases hv'; omega
  obtain ⟨rfl, _, hblk0, hown⟩ := hown0.block e1 hcap0
  have hb0 : E.Own b := hob b hblk0
  have hxs := hown.1
  have hin : i.toNat < R.l.length := by omega
  have hmul : (i.toNat + 1) * Θ.sz R.e ≤ R.l.length * Θ.sz R.e := Nat.mul_le_mul_right _ hin
  rw [Nat.succ_mul] at hmul
  -- the machine's row
  obtain ⟨cur, hcap, hheap, hcs, htake⟩ : ∃ cur : Array Value, R.l.length ≤ cap ∧ W.heap[b]? = some (.cells cur R.e (0, 0)) ∧ cur.size = cap * Θ.sz R.e ∧ cur.toList.take (R.l.length * Θ.sz R.e) = xs := by
    rcases hown.2 with ⟨hv, _⟩ | ⟨g', cap', cur, hv, _, hh, hc1, _, hc2, hc3⟩
    · rw [e1] at hv; cases hv
    · rw [e1] at hv; cases hv; exact ⟨cur, hc1, hh, hc2, hc3⟩
  have hcm : cap ≤ maxLen := by
    rcases hown.2 with ⟨hv, _⟩ | ⟨g', cap', cur', hv, _, _, _, h, _⟩
    · rw [e1] at hv; cases hv
    · rw [e1] at hv; cases hv; exact h
  have hmulc : R.l.length * Θ.sz R.e ≤ cap * Θ.sz R.e := Nat.mul_le_mul_right _ hcap
  have hul : us.length = vs.length := hv.length.symm
  have h1c : ∀ u ∈ us, u.oneCell' = true := fun u hu => by
    obtain ⟨j, hj⟩ := List.getElem?_of_mem hu
    obtain ⟨c, _, hr⟩ := hv.get' j hj
    exact (RCV.cells hS.rwsl hr).2
  have hrun := run_storeCells_at P b (i.toNat * Θ.sz R.e + off) R.e us 0 cur W hheap (by omega) h1c
  simp only [Nat.add_zero] at hrun
  refine ⟨_, _, rfl, hrun, ?_⟩
  generalize hnew : (cur.toList.take (i.toNat * Θ.sz R.e + off) ++ us ++ cur.toList.drop (i.toNat * Θ.sz R.e + off + us.length)).toArray = new
  have hnl : new.toList = cur.toList.take (i.toNat * Θ.sz R.e + off) ++ us ++ cur.toList.drop (i.toNat * Θ.sz R.e + off + us.length) := by rw [← hnew]
  have hother : ∀ j, j ≠ b → (W.setRow b new).heap[j]? = W.heap[j]? := fun j hj => setRow_other W b j new hj
  have hblk : ob (rw_ r R.gen) = some b := hblk0
  have hlook : ∀ q R', look (keep s.rows r ⟨R.gen, R.e, R.l.set i.toNat y⟩) q = some R' → (q = r ∧ R' = ⟨R.gen, R.e, R.l.set i.toNat y⟩) ∨ (q ≠ r ∧ look s.rows q = some R') := by
    intro q R' hR'
    rw [look_keep] at hR'
    split at hR'
    · rename_i e; cases hR'; exact .inl ⟨e.symm, rfl⟩
    · rename_i e; exact .inr ⟨fun e' => e e'.symm, hR'⟩
  have hMut : ∀ c, Mut ⟨s.slots, s.boxes, keep s.rows r ⟨R.gen, R.e, R.l.set i.toNat y⟩⟩ bx rw_ c → Mut s bx rw_ c := by
    rintro c (h | ⟨q, R', hR', hc⟩)
    · exact .inl h
    · rcases hlook q R' hR' with ⟨rfl, rfl⟩ | ⟨_, hR1⟩
      · exact .inr ⟨q, R, hR, hc⟩
      · exact .inr ⟨q, R', hR1, hc⟩
  have hsz : (W.setRow b new).heap.size = W.heap.size := by simp [World.setRow]
  have hF : ∀ c, FF E s bx rw_ W c → FF E ⟨s.slots, s.boxes, keep s.rows r ⟨R.gen, R.e, R.l.set i.toNat y⟩⟩ bx rw_ (W.setRow b new) c := by
    rintro c ⟨h1, h2, h3⟩
    exact ⟨h1, by rw [hsz]; exact h2, fun hm => h3 (hMut c hm)⟩
  have hW : ∀ c, FF E s bx rw_ W c → (W.setRow b new).heap[c]? = W.heap[c]? := by
    rintro c ⟨_, _, h3⟩
    exact hother c (fun e => h3 (.inr ⟨r, R, hR, by rw [e]; exact hblk⟩))
  have hgrow : W.grownBy (W.setRow b new) (some b) := ⟨rfl, rfl, rfl, by rw [hsz]; exact Nat.le_refl _, fun j _ hj => hother j (fun e => hj (by rw [e]))⟩
  refine ⟨hS.below.grown hgrow (fun j hj => by cases hj; exact hb0), hS.pinB, fun q v hq => ?_, hS.rwsl, fun q B' hB' => ?_, fun q R' hR' => ?_, hS.bb, ?_, ?_, hS.len, fun j => RAV.trans hF hW (fun _ _ => rfl) (fun _ _ => rfl) (hS.slots j)⟩
  · obtain ⟨h1, h2⟩ := hS.pinR q v hq
    refine ⟨h1, fun R' hR' h0 => ?_⟩
    rcases hlook q R' hR' with ⟨rfl, rfl⟩ | ⟨_, hR1⟩
    · exact h2 R hR h0
    · exact h2 R' hR1 h0
  · obtain ⟨h1, cv, hh', ha'⟩ := hS.boxes q B' hB'
    exact ⟨h1, cv, by rw [hother _ (fun e => hS.br q B' r R hB' hR (by rw [e]; exact hblk))]; exact hh', RCs.trans hF hW (fun _ _ => rfl) (fun _ _ => rfl) ha'⟩
  · rcases hlook q R' hR' with ⟨rfl, rfl⟩ | ⟨hq, hR1⟩
    · -- the row that was written
      have hel : All2 (fun p u => Rep Θ W (FF E s bx rw_ W) u p) (Θ.enc R.e y) (((xs.drop (i.toNat * Θ.sz R.e)).take (Θ.sz R.e)).take off ++ us ++ ((xs.drop (i.toNat * Θ.sz R.e)).take (Θ.sz R.e)).drop (off + vs.length)) := by
        have hold : All2 (RCV Θ W (FF E s bx rw_ W) bx rw_) ((Θ.enc R.e (elAt Θ R.e R.l i)).map CV.v) ((xs.drop (i.toNat * Θ.sz R.e)).take (Θ.sz R.e)) := by
          refine All2.map_left (All2.of_get ?_ (fun j x u' hx hu' => ?_))
          · rw [Θ.length_enc, List.length_take, List.length_drop, hxs]; omega
          · have hj : j < Θ.sz R.e := by
              have := (List.getElem?_eq_some_iff.1 hx).1
              rwa [Θ.length_enc] at this
            have hfm := flatMap_get (Θ.enc R.e) (Θ.sz R.e) (Θ.length_enc R.e) R.l i.toNat j _ (elAt_get h0 h1) hj
            rw [hx] at hfm
            obtain ⟨u2, hu2, hrep⟩ := har.get _ hfm
            rw [List.getElem?_take, if_pos hj, List.getElem?_drop] at hu'
            rw [hu2] at hu'
            cases hu'
            exact hrep
        refine elem_plain ?_ hy (((hold.take off).append hv).append (hold.drop (off + vs.length)))
        simp only [List.all_append, Bool.and_eq_true]
        refine ⟨⟨?_, hpl⟩, ?_⟩
        · exact List.all_eq_true.2 (fun c hc => by
            obtain ⟨p, _, rfl⟩ := List.mem_map.1 (List.mem_of_mem_take hc)
            rfl)
        · exact List.all_eq_true.2 (fun c hc => by
            obtain ⟨p, _, rfl⟩ := List.mem_map.1 (List.mem_of_mem_drop hc)
            rfl)
      have hmid := split_write xs us (i.toNat * Θ.sz R.e) off (Θ.sz R.e) (by omega) (by omega)
      rw [hul] at hmid
      refine ⟨hob, xs.take (i.toNat * Θ.sz R.e + off) ++ us ++ xs.drop (i.toNat * Θ.sz R.e + off + vs.length), .inl ⟨?_, .inr ⟨b, cap, new, ?_, Nat.zero_le _, setRow_heap W b cur new R.e (0, 0) hheap, ?_, hcm, ?_, ?_⟩⟩, ?_⟩
      · simp only [List.length_append, List.length_take, List.length_drop, List.length_set, hxs]; omega
      · simp only [List.length_set]; exact e1
      · simp only [List.length_set]; exact hcap
      · rw [← Array.length_toList, hnl]
        simp only [List.length_append, List.length_take, List.length_drop, Array.length_toList]
        omega
      · simp only [List.length_set]
        rw [hnl, take_write _ _ _ _ (by omega) (by rw [Array.length_toList]; omega), htake, hul]
      · rw [hmid]
        have : (R.l.set i.toNat y).flatMap (Θ.enc R.e) = _ := flatMap_set (Θ.enc R.e) (Θ.sz R.e) (Θ.length_enc R.e) R.l i.toNat y hin
        simp only
        rw [this]
        exact (((har.take _).append hel).append (har.drop _)).mono fun x u hx => Rep.mono hx hF hW
    · obtain ⟨hob', zs, ho, har'⟩ := hS.rows q R' hR1
      refine ⟨hob', zs, ho.kept hgrow ?_, har'.mono fun x u hx => Rep.mono hx hF hW⟩
      cases hobq : ob (rw_ q R'.gen) with
      | none => exact .inl rfl
      | some c => exact .inr (fun e => hq (hS.rr q R' r R c hR1 hR hobq (by rw [hblk, ← e])))
  · intro q R1 q' R1' c h1 h1' hc hc'
    rcases hlook q R1 h1 with ⟨rfl, rfl⟩ | ⟨hq, hR1⟩ <;> rcases hlook q' R1' h1' with ⟨rfl, rfl⟩ | ⟨hq', hR1'⟩
    · rfl
    · exact hS.rr q R q' R1' c hR hR1' hc hc'
    · exact hS.rr q R1 q' R c hR1 hR hc hc'
    · exact hS.rr q R1 q' R1' c hR1 hR1' hc hc'
  · intro q B1 q' R1 h1 hR1
    rcases hlook q' R1 hR1 with ⟨rfl, rfl⟩ | ⟨_, hR2⟩
    · exact hS.br q B1 q' R h1 hR
    · exact hS.br q B1 q' R1 h1 hR2
theorem store_ok (hS : Sim Θ E s a.tmps W bx rw_) {o : Oper} {t : TypeId} {x y : Operand} (hd : o.dst = none) (ho : o.op = .store t x y) {s' : St Θ.T} (h : aStore P Θ s t (s.ev x) (s.ev y) = some (true, s')) : Comes1 Θ P E o a W s' := by
  unfold aStore at h
  split at h <;> try (cases h; done)
  rename_i n vs hn hvs
  split at h <;> try (cases h; done)
  rename_i hl
  obtain ⟨inf, hi, hsz⟩ := sizeT_ok hn
  have hv := cellsOfAV_ok hS.rwsl hvs (hS.ev a rfl y)
  have hx := hS.ev a rfl x
  have hcs : (a.eval y).cells.size = inf.size := by rw [hsz, ← hl, hv.length, Array.length_toList]
  have fin : ∀ ad W' bx', a.eval x = .pointer (some ad) → (storeCells ad (a.eval y).cells.toList).run P W = .ok () W' → Sim Θ E s' a.tmps W' bx' rw_ → Comes1 Θ P E o a W s' := by
    intro ad W' bx' he hrun hS'
    refine ⟨_, W', bx', rw_, hS', fun next Q hk => ?_⟩
    have : (execOp a.eval o).run P W = .ok .skip W' := by
      simp [execOp, ho, Instr.storeAt, he, Instr.sureAddr, storeVar, sizeOf, typeInfo, hi, hcs, hrun]
    rw [this, Oper.upon_skip]
    unfold Act.put
    rw [hd]
    exact hk
  split at h <;> try (cases h; done)
  · rename_i k g off hev
    rw [hev] at hx
    cases hw : s.writeBox k g off vs with
    | none => simp [hw] at h
    | some s1 =>
      simp [hw] at h
      subst h
      obtain ⟨W', hrun, hS'⟩ := hS.writeBox (P := P) hw hv
      exact fin _ _ _ hx hrun hS'
  · rename_i r g i sz off hev
    rw [hev] at hx
    cases hw : s.writeRow Θ r g i sz off vs with
    | none => simp [hw] at h
    | some s1 =>
      simp [hw] at h
      subst h
      obtain ⟨ad, W', he, hrun, hS'⟩ := hS.writeRow (P := P) hw hx hv
      exact fin _ _ _ he hrun hS'
end
end Go.Den
