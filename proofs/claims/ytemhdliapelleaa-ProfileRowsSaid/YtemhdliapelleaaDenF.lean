/- Operations that make or write memory, one by one. -/
import Derived.Test.YtemhdliapelleaaDenE
import Derived.Laws.MakeOwn
import Derived.Laws.OwnMore
namespace Go.Den
open Go Go.RowKit

section
variable (P : Program) (Θ : Tab)
def plainC {T : TypeId → Type} : CV T → Bool
  | .v _ => true
  | .nil => true
  | .e0 => true
  | _ => false
def St.writeBox {T : TypeId → Type} (s : St T) (k g off : Nat) (vs : List (CV T)) : Option (St T) := match look s.boxes k with
  | some B => if B.gen = g ∧ off + vs.length ≤ B.cells.length then some { s with boxes := keep s.boxes k ⟨B.gen, B.ty, B.cells.take off ++ vs ++ B.cells.drop (off + vs.length)⟩ } else none
  | none => none
def St.writeRow (s : St Θ.T) (r g : Nat) (i : Int) (sz off : Nat) (vs : List (CV Θ.T)) : Option (St Θ.T) := match look s.rows r with
  | some R => if R.gen = g ∧ sz = Θ.sz R.e ∧ off + vs.length ≤ Θ.sz R.e ∧ vs.all plainC then
      (match s.elemOf Θ R.e ((((Θ.enc R.e (elAt Θ R.e R.l i)).map CV.v).take off) ++ vs ++ (((Θ.enc R.e (elAt Θ R.e R.l i)).map CV.v).drop (off + vs.length))) with
        | some y => some { s with rows := keep s.rows r ⟨R.gen, R.e, R.l.set i.toNat y⟩ }
        | none => none) else none
  | none => none
def aStore (s : St Θ.T) (t : TypeId) (ad x : AV Θ.T) : Option (Bool × St Θ.T) := match sizeT P t, cellsOfAV x with
  | some n, some vs => if vs.length = n then (match ad with
      | .c (.box k g off) => (s.writeBox k g off vs).map fun s' => (true, s')
      | .rel r g i sz off => (s.writeRow Θ r g i sz off vs).map fun s' => (true, s')
      | _ => none) else none
  | _, _ => none
def aAlloc {T : TypeId → Type} (s : St T) (d t : Nat) : Option (Bool × St T) := match zeroCells P t with
  | some cs => (s.newBox d t cs).map fun s' => (true, s')
  | none => none
def aBox {T : TypeId → Type} (s : St T) (d t : Nat) (x : AV T) : Option (Bool × St T) := match cellsOfAV x with
  | some cs => if cs.all (fun c => !(has c.mB d (s.nextB d))) then (s.newBox d t cs).map fun s' => (true, s') else none
  | none => none
/-- A new row, or one that has grown, at a key. -/
def St.newRow (s : St Θ.T) (d r e : Nat) (l : List (Θ.T e)) : Option (St Θ.T) :=
  if (s.noR r (s.nextR r) && (Nat.blt r pin || Nat.blt 0 (s.nextR r))) then some ⟨s.slots.set d (.c (.row r (s.nextR r))), s.boxes, keep s.rows r ⟨s.nextR r, e, l⟩⟩ else none
/-- What is appended. -/
def rowOf (s : St Θ.T) (e : TypeId) : AV Θ.T → Option (List (Θ.T e))
  | .c c => s.get (.sl e) c
  | _ => none
def fitB (n bytes : Nat) : Bool := decide (n * bytes ≤ 140737488355328)
def aAppend (s : St Θ.T) (d t : Nat) (x y : AV Θ.T) : Option (Bool × St Θ.T) := match sliceElem P t with
  | some e => match P.info? e with
    | some i => if i.size = Θ.sz e ∧ 0 < i.size ∧ 0 < i.bytes ∧ (i.zero.map fun z => z.cells.size) = some i.size then (match rowOf Θ s e y with
      | some ys => match x with
        | .c .nil => (s.newRow Θ d d e ys).map fun s' => (fitB ys.length i.bytes, s')
        | .c .e0 => (s.newRow Θ d d e ys).map fun s' => (fitB ys.length i.bytes, s')
        | .c (.row r g) => match look s.rows r with
          | some R => if h : R.gen = g ∧ R.e = e then (s.newRow Θ d r e ((h.2 ▸ R.l) ++ ys)).map fun s' => (fitB (R.l.length + ys.length) i.bytes, s') else none
          | none => none
        | _ => none
      | none => none) else none
    | none => none
  | none => none
def zeroElem (s : St Θ.T) (e : TypeId) : Option (Θ.T e) := match zeroCells P e with
  | some cs => if cs.length = Θ.sz e ∧ cs.all plainC = true then s.elemOf Θ e cs else none
  | none => none
def aMake (s : St Θ.T) (d t : Nat) : AV Θ.T → AV Θ.T → Option (Bool × St Θ.T)
  | .c (.v (.int _ n)), .c (.v (.int _ m)) => match sliceElem P t with
    | some e => match P.info? e with
      | some i => if i.size = Θ.sz e ∧ 0 < i.bytes then (match zeroElem P Θ s e with
        | some y => (s.newRow Θ d d e (List.replicate n.toNat y)).map fun s' => (n == m && decide (0 ≤ n) && decide (n * i.bytes ≤ 281474976710656), s')
        | none => none) else none
      | none => none
    | none => none
  | _, _ => none
/-- The elements of a literal, in order. -/
def litElems (s : St Θ.T) (e : TypeId) : Nat → List (Nat × Operand) → Option (List (Θ.T e))
  | _, [] => some []
  | j, (i, x) :: r => if i = j then (match cellsOfAV (s.ev x) with
    | some cs => if cs.length = Θ.sz e ∧ cs.all plainC then (match s.elemOf Θ e cs, litElems s e (j + 1) r with
      | some y, some l => some (y :: l)
      | _, _ => none) else none
    | none => none) else none
def aLit (s : St Θ.T) (d t len : Nat) (parts : Array (Nat × Operand)) : Option (Bool × St Θ.T) := match sliceElem P t with
  | some e => match P.info? e with
    | some i => if i.size = Θ.sz e ∧ 0 < i.size ∧ (i.zero.map fun z => z.cells.size) = some i.size ∧ parts.toList.length = len ∧ len * i.size ≤ 16777216 then (match litElems Θ s e 0 parts.toList with
      | some l => some (true, s.put (some d) (if parts.isEmpty then .c .e0 else .c (.v (.sl e l))))
      | none => none) else none
    | none => none
  | none => none
/-- An operation that makes or writes memory. -/
def opA (s : St Θ.T) (o : Oper) : Option (Bool × St Θ.T) := match o.dst with
  | some d => (match o.op with
    | .alloc t => aAlloc P s d t
    | .box t x => aBox s d t (s.ev x)
    | .makeSlice t n m => aMake P Θ s d t (s.ev n) (s.ev m)
    | .buildSlice t len parts => aLit P Θ s d t len parts
    | .call c => match c.callee, c.args.toList, c.argTypes.toList with
      | .builtin .append, [x, y], [t, t'] => if t = t' then aAppend P Θ s d t (s.ev x) (s.ev y) else none
      | _, _, _ => none
    | _ => none)
  | none => (match o.op with
    | .store t ad x => aStore P Θ s t (s.ev ad) (s.ev x)
    | _ => none)
end

section
variable {Θ : Tab} {E : Env} {s : St Θ.T} {tm : Array Value} {W : World} {bx : Nat → Nat → Nat} {rw_ : Nat → Nat → Value} {P : Program}
/-- A plain cell as a value of a kind. -/
theorem leaf_plain {F : Nat → Prop} {l : Leaf} {c : CV Θ.T} {u : Value} {x : l.Ty Θ.T} (hc : plainC c = true) (h : s.get l c = some x) (hr : RCV Θ W F bx rw_ c u) : Rep Θ W F u (l.mk x) := by
  cases c with
  | v p => simp only [St.get] at h; rw [← Leaf.get_mk h]; exact hr
  | nil =>
    simp only [St.get] at h
    split at h <;> try (cases h; done)
    cases h
    have e : u = .slice none 0 0 := hr
    rw [e]; exact Rep.nil _ _ _ _
  | e0 =>
    simp only [St.get] at h
    split at h <;> try (cases h; done)
    cases h
    obtain ⟨A, rfl⟩ := hr
    exact Rep.e0 _ _ _ _ _
  | _ => simp [plainC] at hc
theorem leaves_plain {F : Nat → Prop} : ∀ (ls : List Leaf) (cs : List (CV Θ.T)) (us : List Value) (x : HT (Leaf.Ty Θ.T) ls), cs.all plainC = true → HT.get s.get ls cs = some x → All2 (RCV Θ W F bx rw_) cs us →
    All2 (fun p u => Rep Θ W F u p) (HT.list Leaf.mk ls x) us := by
  intro ls
  induction ls with
  | nil =>
    intro cs us x _ h hr
    have := HT.get_len _ _ _ _ h
    cases cs with
    | nil => cases hr; exact .nil
    | cons c cs => simp at this
  | cons l ls ih =>
    intro cs us x hp h hr
    have hlen := HT.get_len _ _ _ _ h
    cases cs with
    | nil => simp at hlen
    | cons c cs =>
      cases hr with | cons h1 t1 =>
      simp only [List.all_cons, Bool.and_eq_true] at hp
      cases ls with
      | nil =>
        cases cs with
        | cons c2 cs => simp at hlen
        | nil =>
          rw [HT.get_one] at h
          cases t1
          exact .cons (leaf_plain hp.1 h h1) .nil
      | cons l2 ls =>
        rw [HT.get_cons] at h
        split at h <;> try (cases h; done)
        rename_i a ha
        split at h <;> try (cases h; done)
        rename_i xs hxs
        cases h
        exact .cons (leaf_plain hp.1 ha h1) (ih cs _ xs hp.2 hxs t1)
theorem elem_plain {F : Nat → Prop} {e : TypeId} {cs : List (CV Θ.T)} {us : List Value} {y : Θ.T e} (hp : cs.all plainC = true) (h : s.elemOf Θ e cs = some y) (hr : All2 (RCV Θ W F bx rw_) cs us) :
    All2 (fun p u => Rep Θ W F u p) (Θ.enc e y) us := by
  unfold St.elemOf at h
  cases hg : HT.get s.get (Θ.E e).leaves cs with
  | none => simp [hg] at h
  | some x =>
    simp [hg] at h
    subst h
    have := leaves_plain _ _ _ _ hp hg hr
    unfold Tab.enc
    rw [(Θ.E e).inv]
    exact this
theorem sliceElem_ok {t e : TypeId} (h : sliceElem P t = some e) : P.underlying t = some (.slice e) := by
  unfold sliceElem at h
  split at h
  · rename_i hu; cases h; exact hu
  · cases h
theorem one_of_rep {F : Nat → Prop} {xs : List (PV Θ.T)} {us : List Value} (h : All2 (fun p u => Rep Θ W F u p) xs us) : ∀ u ∈ us, u.oneCell' = true := by
  induction h with
  | nil => simp
  | cons h _ ih => intro u hu; simp at hu; rcases hu with rfl | hu; exact Rep.one h; exact ih u hu
theorem St.newRow_eq {d r e : Nat} {l : List (Θ.T e)} {s' : St Θ.T} (h : s.newRow Θ d r e l = some s') : (s.noR r (s.nextR r) = true ∧ (r < pin ∨ 0 < s.nextR r)) ∧ s' = ⟨s.slots.set d (.c (.row r (s.nextR r))), s.boxes, keep s.rows r ⟨s.nextR r, e, l⟩⟩ := by
  unfold St.newRow at h
  split at h
  · rename_i hn; cases h; simp only [Bool.and_eq_true, Bool.or_eq_true, Nat.blt_eq] at hn; exact ⟨hn, rfl⟩
  · cases h
/-- A plain slice's elements, one cell behind the other. -/
theorem rep_cells {F : Nat → Prop} {e : TypeId} {l : List (Θ.T e)} {ad : Addr} {n cap : Nat} (h : Rep Θ W F (.slice (some ad) n cap) (.sl e l)) :
    ∃ us : List Value, us.length = n * Θ.sz e ∧ All2 (fun p u => Rep Θ W F u p) (l.flatMap (Θ.enc e)) us ∧ ∀ j u, us[j]? = some u → W.cell? (ad.add j) = some u := by
  cases h with
  | sl _ _ _ _ _ f hn hc hz hA hr =>
    subst hn
    by_cases hne : l = []
    · subst hne; exact ⟨[], by simp, .nil, fun j u h => by simp at h⟩
    · obtain ⟨ad', e1, hs, hf, hcell⟩ := hA hne
      cases e1
      let us := (List.range (l.length * Θ.sz e)).map fun q => f (q / Θ.sz e) (q % Θ.sz e)
      refine ⟨us, by simp [us], ?_, fun j u hj => ?_⟩
      · refine All2.of_get (by simp [us, flatMap_length (Θ.enc e) (Θ.sz e) (Θ.length_enc e)]) (fun q p u hp hu => ?_)
        have hq : q < l.length * Θ.sz e := by
          have := (List.getElem?_eq_some_iff.1 hp).1
          rwa [flatMap_length (Θ.enc e) (Θ.sz e) (Θ.length_enc e)] at this
        have hpos : 0 < Θ.sz e := by
          rcases Nat.eq_zero_or_pos (Θ.sz e) with h | h
          · rw [h] at hq; omega
          · exact h
        have hi : q / Θ.sz e < l.length := (Nat.div_lt_iff_lt_mul hpos).2 hq
        have hj : q % Θ.sz e < Θ.sz e := Nat.mod_lt _ hpos
        have hfm := flatMap_get (Θ.enc e) (Θ.sz e) (Θ.length_enc e) l (q / Θ.sz e) (q % Θ.sz e) _ (List.getElem?_eq_getElem hi) hj
        rw [show q / Θ.sz e * Θ.sz e + q % Θ.sz e = q by rw [Nat.mul_comm]; exact Nat.div_add_mod q _] at hfm
        rw [hp] at hfm
        have hu' : u = f (q / Θ.sz e) (q % Θ.sz e) := by
          simp [us, hq] at hu
          exact hu.symm
        subst hu'
        exact hr _ _ _ p (List.getElem?_eq_getElem hi) hfm.symm
      · have hq : j < l.length * Θ.sz e := by
          have := (List.getElem?_eq_some_iff.1 hj).1
          simpa [us] using this
        have hpos : 0 < Θ.sz e := by
          rcases Nat.eq_zero_or_pos (Θ.sz e) with h | h
          · rw [h] at hq; omega
          · exact h
        simp [us, hq] at hj
        subst hj
        have := hcell (j / Θ.sz e) (j % Θ.sz e) ((Nat.div_lt_iff_lt_mul hpos).2 hq) (Nat.mod_lt _ hpos)
        rwa [show j / Θ.sz e * Θ.sz e + j % Θ.sz e = j by rw [Nat.mul_comm]; exact Nat.div_add_mod j _] at this
/-- What stands for something to be appended: nothing at all, or cells in a row. -/
theorem rowOf_ok (hS : Sim Θ E s tm W bx rw_) {e : TypeId} {x : AV Θ.T} {ys : List (Θ.T e)} {u : Value} (h : rowOf Θ s e x = some ys) (hr : RAV Θ W (FF E s bx rw_ W) bx rw_ x u) :
    (u = .slice none 0 0 ∧ ys = []) ∨ ∃ ad n c us, u = .slice (some ad) n c ∧ n = ys.length ∧ us.length = n * Θ.sz e ∧ All2 (fun p u => Rep Θ W (FF E s bx rw_ W) u p) (ys.flatMap (Θ.enc e)) us ∧ ∀ j u, us[j]? = some u → W.cell? (ad.add j) = some u := by
  cases x with
  | c c => ?_
  | _ => cases h
  replace h : s.get (.sl e) c = some ys := h
  cases c with
  | v p =>
    simp only [St.get] at h
    have := Leaf.get_mk h
    subst this
    have hr' : Rep Θ W (FF E s bx rw_ W) u (.sl e ys) := hr
    cases u with
    | slice A n cap =>
      cases A with
      | none =>
        cases hr' with
        | sl _ _ _ _ _ f hn hc hz hA hr =>
          left
          have h0 := hz rfl
          subst h0
          have : n = 0 := by omega
          subst this
          exact ⟨rfl, List.eq_nil_of_length_eq_zero hn⟩
      | some ad =>
        right
        have hn : ys.length = n := by cases hr'; assumption
        obtain ⟨us, h1, h2, h3⟩ := rep_cells hr'
        exact ⟨ad, n, cap, us, rfl, hn.symm, h1, h2, h3⟩
    | _ => cases hr'
  | nil =>
    simp only [St.get] at h
    cases h
    exact .inl ⟨hr, rfl⟩
  | e0 =>
    simp only [St.get] at h
    cases h
    obtain ⟨A, rfl⟩ := hr
    cases A with
    | none => exact .inl ⟨rfl, rfl⟩
    | some ad => exact .inr ⟨ad, 0, 0, [], rfl, rfl, by simp, .nil, fun j u hj => by simp at hj⟩
  | np => simp [St.get] at h
  | row r g =>
    simp only [St.get] at h
    split at h <;> try (cases h; done)
    rename_i R hR
    split at h <;> try (cases h; done)
    rename_i hg
    subst hg
    have he := Leaf.get_mk h
    obtain ⟨_, us, hown, ha⟩ := hS.rows r R hR
    obtain ⟨g0, e0, l0⟩ := R
    simp only [Leaf.mk, PV.sl.injEq] at he
    obtain ⟨rfl, he⟩ := he
    cases he
    have hu : u = rw_ r g0 := hr
    rw [hu]
    rcases hown with h | ⟨ad, hv, hn0, hx0⟩
    · rcases h.2 with ⟨hv, hn0⟩ | ⟨b, cap, cur, hv, _⟩
      · exact .inl ⟨hv, List.eq_nil_of_length_eq_zero hn0⟩
      · refine .inr ⟨⟨b, 0, none⟩, l0.length, cap, us, hv, rfl, h.1, ha, fun j u hj => ?_⟩
        exact h.cells (g := b) (by simp only at hv; rw [hv]; rfl) j u hj
    · simp only at hn0
      exact .inr ⟨ad, 0, 0, us, hv, hn0.symm, by rw [hx0]; simp, ha, fun j u hj => by rw [hx0] at hj; simp at hj⟩
  | box k g off => simp [St.get] at h
  | fn f caps => simp [St.get] at h
end
end Go.Den
