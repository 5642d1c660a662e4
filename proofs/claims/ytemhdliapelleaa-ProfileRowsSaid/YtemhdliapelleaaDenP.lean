/- A law's arguments, as the row's reading tells them. -/
import Derived.Test.YtemhdliapelleaaDenO
import GoSem.ClaimChange
import Derived.DataReads
import Derived.ChangeArms
import Derived.OpenShut
import Derived.ChangeOld
import Derived.DataElems
namespace Go.Den
open Go Go.RowKit

/-- What a parameter is: a plain value of one cell, or several cells. -/
inductive PD where
  | one (l : Leaf)
  | agg (ls : List Leaf)
def PD.Ty (T : TypeId → Type) : PD → Type
  | .one l => l.Ty T
  | .agg ls => HT (Leaf.Ty T) ls
/-- What stands for a parameter's value. -/
def RelP (Θ : Tab) (W : World) (F : Nat → Prop) : (Σ p : PD, p.Ty Θ.T) → Value → Prop
  | ⟨.one l, x⟩, u => Rep Θ W F u (l.mk x)
  | ⟨.agg ls, x⟩, u => ∃ us : List Value, u = .agg us.toArray ∧ All2 (fun p u => Rep Θ W F u p) (HT.list Leaf.mk ls x) us
def pdAV {T : TypeId → Type} : (p : PD) → p.Ty T → AV T
  | .one l, x => .c (.v (l.mk x))
  | .agg ls, x => .agg ((HT.list Leaf.mk ls x).map .v)
theorem pdAV_ok {Θ : Tab} {W : World} {bx : Nat → Nat → Nat} {rw_ : Nat → Nat → Value} {F : Nat → Prop} {p : PD} {x : p.Ty Θ.T} {u : Value} (h : RelP Θ W F ⟨p, x⟩ u) : RAV Θ W F bx rw_ (pdAV p x) u := by
  cases p with
  | one l => exact h
  | agg ls => obtain ⟨us, e, ha⟩ := h; exact ⟨us, e, All2.map_left ha⟩
/-- Numbers in their kind, texts and slices no longer than they may be. -/
inductive WfP (Θ : Tab) : PV Θ.T → Prop where
  | int (k : IntKind) (n : Int) (h : (Lit.int k n).wf = true) : WfP Θ (.int k n)
  | bool (b : Bool) : WfP Θ (.bool b)
  | str (s : ByteArray) (h : s.size ≤ maxLen) : WfP Θ (.str s)
  | sl (e : TypeId) (l : List (Θ.T e)) (h : l.length ≤ maxLen) (hl : ∀ y ∈ l, ∀ p ∈ Θ.enc e y, WfP Θ p) : WfP Θ (.sl e l)
def leafEq : Leaf → Leaf → Bool
  | .int k, .int k' => decide (k = k')
  | .bool, .bool => true
  | .str, .str => true
  | .sl e, .sl e' => Nat.beq e e'
  | _, _ => false
def leavesEq : List Leaf → List Leaf → Bool
  | [], [] => true
  | a :: r, b :: s => leafEq a b && leavesEq r s
  | _, _ => false
theorem leafEq_eq {a b : Leaf} (h : leafEq a b = true) : a = b := by
  cases a <;> cases b <;> simp only [leafEq] at h <;> try (cases h; done)
  · rw [of_decide_eq_true h]
  · rfl
  · rfl
  · rw [Nat.eq_of_beq_eq_true h]
theorem leavesEq_eq : ∀ {a b : List Leaf}, leavesEq a b = true → a = b := by
  intro a
  induction a with
  | nil => intro b h; cases b with | nil => rfl | cons _ _ => cases h
  | cons x a ih =>
    intro b h
    cases b with
    | nil => cases h
    | cons y b =>
      simp only [leavesEq, Bool.and_eq_true] at h
      rw [leafEq_eq h.1, ih h.2]
section
variable (P : Program) (Θ : Tab)
def fieldsL (f : TypeId → Option (List Leaf)) : Nat → List Field → Option (Nat × List Leaf)
  | off, [] => some (off, [])
  | off, fd :: r => match f fd.type with
    | some ls => if (Nat.beq fd.offset off && Nat.beq ls.length (P.cellsOf fd.type)) then (match fieldsL f (off + ls.length) r with
      | some (z, ls') => some (z, ls ++ ls')
      | none => none) else none
    | none => none
def timesL (ls : List Leaf) : Nat → List Leaf
  | 0 => []
  | n + 1 => ls ++ timesL ls n
/-- The cells of a type, one by one. -/
def tyLeaves : Nat → TypeId → Option (List Leaf)
  | 0, _ => none
  | g + 1, t => match P.underlying t with
    | some (.int k) => some [.int k]
    | some .bool => some [.bool]
    | some .string => some [.str]
    | some (.slice e) => match tyLeaves g e with
      | some ls => if (leavesEq ls (Θ.E e).leaves && Nat.beq ls.length (P.cellsOf e)) && Nat.blt 0 ls.length then some [.sl e] else none
      | none => none
    | some (.struct fs) => match fieldsL P (tyLeaves g) 0 fs.toList with
      | some (z, ls) => if Nat.beq z (P.cellsOf t) then some ls else none
      | none => none
    | some (.array n e) => match tyLeaves g e with
      | some ls => if Nat.beq ls.length (P.cellsOf e) && Nat.beq (n * ls.length) (P.cellsOf t) then some (timesL ls n) else none
      | none => none
    | _ => none
end
section
variable {P : Program} {Θ : Tab} {w : World} {H : Type} {enc : TypeId × Value → H}
abbrev Typed (Θ : Tab) (ls : List Leaf) (ps : List (PV Θ.T)) : Prop := All2 (fun l p => ∃ y : l.Ty Θ.T, p = l.mk y) ls ps
theorem typed_ht : ∀ (ls : List Leaf) (ps : List (PV Θ.T)), Typed Θ ls ps → ∃ x : HT (Leaf.Ty Θ.T) ls, HT.list Leaf.mk ls x = ps := by
  intro ls
  induction ls with
  | nil => intro ps h; cases h; exact ⟨(), rfl⟩
  | cons l ls ih =>
    intro ps h
    cases h with | cons h t =>
    obtain ⟨y, rfl⟩ := h
    cases ls with
    | nil => cases t; exact ⟨y, rfl⟩
    | cons l2 ls =>
      obtain ⟨x, hx⟩ := ih _ t
      exact ⟨(y, x), by simp only [HT.list]; rw [hx]⟩
abbrev Seen (Θ : Tab) (w : World) (p : PV Θ.T) (u : Value) : Prop := Rep Θ w (fun b => b < w.heap.size) u p ∧ WfP Θ p
theorem exists_list {A : Type} {Q : Nat → A → Prop} : ∀ n : Nat, (∀ i, i < n → ∃ y, Q i y) → ∃ l : List A, l.length = n ∧ ∀ i y, l[i]? = some y → Q i y := by
  intro n
  induction n with
  | zero => intro _; exact ⟨[], rfl, fun i y h => by simp at h⟩
  | succ n ih =>
    intro h
    obtain ⟨l, h1, h2⟩ := ih fun i hi => h i (by omega)
    obtain ⟨y, hy⟩ := h n (by omega)
    refine ⟨l ++ [y], by simp [h1], fun i z hz => ?_⟩
    by_cases hi : i < l.length
    · rw [List.getElem?_append_left hi] at hz; exact h2 i z hz
    · rw [List.getElem?_append_right (by omega)] at hz
      have : i - l.length = 0 := by
        have := (List.getElem?_eq_some_iff.1 hz).1
        simp at this; omega
      rw [this] at hz
      simp at hz
      subst hz
      have : i = n := by omega
      rw [this]; exact hy
theorem cell_spot {a : Addr} {v : Value} (h : w.cell? a = some v) : a.spot = none ∧ a.block < w.heap.size := by
  unfold World.cell? at h
  split at h <;> try (cases h; done)
  rename_i c _ _ hb
  split at h <;> try (cases h; done)
  rename_i hs
  exact ⟨by simpa using hs, (Array.getElem?_eq_some_iff.1 hb).1⟩
theorem cells_get {base : Nat} {a : Addr} {n : Nat} {cs : List Value} (h : w.cells? base a n = some cs) : cs.length = n ∧ ∀ j, j < n → w.cell? (a.add j) = cs[j]? := by
  unfold World.cells? at h
  split at h <;> try (cases h; done)
  have h1 := mapM_some_length h
  have h2 := mapM_some_get h
  simp at h1
  exact ⟨h1, fun j hj => h2 j j (by simp [hj])⟩
theorem seen_times : ∀ (n z : Nat) (ls : List Leaf) (cs : List Value), ls.length = z → cs.length = n * z → (∀ i, i < n → ∃ pvs, Typed Θ ls pvs ∧ All2 (Seen Θ w) pvs ((cs.drop (i * z)).take z)) →
    ∃ pvs, Typed Θ (timesL ls n) pvs ∧ All2 (Seen Θ w) pvs cs := by
  intro n
  induction n with
  | zero =>
    intro z ls cs _ hc _
    have : cs = [] := List.eq_nil_of_length_eq_zero (by simpa using hc)
    subst this
    exact ⟨[], .nil, .nil⟩
  | succ n ih =>
    intro z ls cs hl hc h
    have hc' : (cs.drop z).length = n * z := by rw [List.length_drop, hc, Nat.succ_mul]; omega
    obtain ⟨p1, t1, a1⟩ := h 0 (by omega)
    obtain ⟨p2, t2, a2⟩ := ih z ls (cs.drop z) hl hc' fun i hi => by
      have := h (i + 1) (by omega)
      rw [Nat.succ_mul, Nat.add_comm, ← List.drop_drop] at this
      exact this
    refine ⟨p1 ++ p2, t1.append t2, ?_⟩
    have := a1.append a2
    simpa using this
/-- What a reading tells of cells. -/
theorem open_cells : ∀ (fuel g : Nat) (t : TypeId) (cs : List Value) (ls : List Leaf) (x : DataW H × List MemPlace), DataW.trod enc P w 0 (fun _ => true) true fuel t cs = some x → tyLeaves P Θ g t = some ls → cs.length = ls.length →
    ∃ pvs, Typed Θ ls pvs ∧ All2 (Seen Θ w) pvs cs := by
  intro fuel
  induction fuel with
  | zero => intro g t cs ls x h; simp [DataW.trod] at h
  | succ fuel ih =>
    intro g t cs ls x h hg hlen
    cases g with
    | zero => cases hg
    | succ g =>
      have one : ∀ {l : Leaf} (y : l.Ty Θ.T) {u : Value}, Seen Θ w (l.mk y) u → ∃ pvs, Typed Θ [l] pvs ∧ All2 (Seen Θ w) pvs [u] := fun y _ hs => ⟨[_], .cons ⟨y, rfl⟩ .nil, .cons hs .nil⟩
      simp only [tyLeaves] at hg
      split at hg <;> try (cases hg; done)
      · rename_i k hu
        cases hg
        obtain ⟨n, rfl, _, hw⟩ := DataW.trod_int hu h
        exact one (l := .int k) n ⟨.int k n, .int k n hw⟩
      · rename_i hu
        cases hg
        obtain ⟨b, rfl, _⟩ := DataW.trod_bool hu h
        exact one (l := .bool) b ⟨.bool b, .bool b⟩
      · rename_i hu
        cases hg
        obtain ⟨b, rfl, _, hw⟩ := DataW.trod_string hu h
        exact one (l := .str) b ⟨.str b, .str b hw⟩
      · rename_i e hu
        split at hg <;> try (cases hg; done)
        rename_i els hels
        split at hg <;> try (cases hg; done)
        rename_i hck
        cases hg
        simp only [Bool.and_eq_true] at hck
        obtain ⟨⟨hck1, hck2⟩, hck3⟩ := hck
        have hle := leavesEq_eq hck1
        have hz : els.length = P.cellsOf e := Nat.eq_of_beq_eq_true hck2
        have hpos : 0 < els.length := by rw [Nat.blt_eq] at hck3; exact hck3
        have hsz : Θ.sz e = els.length := by unfold Tab.sz; rw [← hle]
        rcases DataW.trod_slice hu h with ⟨rfl, _⟩ | ⟨a, len, cap, elems, rest, n, hf, rfl, _, _, hl, hm, hlen', hel, _⟩
        · exact one (l := .sl e) [] ⟨Rep.nil _ _ _ _, .sl e [] (Nat.zero_le _) (fun y hy => by cases hy)⟩
        · have hf' : fuel = n := by omega
          subst hf'
          -- element by element
          have each : ∀ i, i < len → ∃ y : Θ.T e, ∃ cs', w.cells? 0 (a.add (i * P.cellsOf e)) (P.cellsOf e) = some cs' ∧ All2 (Seen Θ w) (Θ.enc e y) cs' := by
            intro i hi
            have h1 := hel i hi
            have hlt : i < elems.length := by omega
            rw [List.getElem?_eq_getElem hlt, Option.bind_eq_some_iff] at h1
            obtain ⟨cs', hcs, hy⟩ := h1
            obtain ⟨pvs, ht, ha⟩ := ih g e cs' els _ hy hels (by rw [(cells_get hcs).1, hz])
            obtain ⟨x, hx⟩ := typed_ht els pvs ht
            refine ⟨(Θ.E e).of (hle ▸ x), cs', hcs, ?_⟩
            have : Θ.enc e ((Θ.E e).of (hle ▸ x)) = pvs := by
              unfold Tab.enc
              rw [(Θ.E e).inv, ← hx]
              clear ha hx ht
              subst hle
              rfl
            rw [this]; exact ha
          obtain ⟨l, hll, hlg⟩ := exists_list len each
          refine one (l := .sl e) l ⟨?_, ?_⟩
          · refine .sl e l (some a) len cap (fun i j => (w.cell? (a.add (i * Θ.sz e + j))).getD undef) hll hl (fun h => by cases h) (fun hne => ?_) (fun i j y x hy hx => ?_)
            · have hlen0 : 0 < len := by rw [← hll]; exact List.length_pos_iff.2 hne
              have cellAt : ∀ i j, i < len → j < Θ.sz e → ∃ v, w.cell? (a.add (i * Θ.sz e + j)) = some v := by
                intro i j hi hj
                obtain ⟨cs', hcs, _⟩ := (hlg i _ (List.getElem?_eq_getElem (by omega)))
                obtain ⟨g1, g2⟩ := cells_get hcs
                have := g2 j (by omega)
                rw [Go.Addr.add_add, ← hz, ← hsz] at this
                rw [this, List.getElem?_eq_getElem (by omega)]
                exact ⟨_, rfl⟩
              obtain ⟨v0, hv0⟩ := cellAt 0 0 hlen0 (by omega)
              have hs := cell_spot hv0
              have ea : a.add (0 * Θ.sz e + 0) = a := by simp [Addr.add]
              rw [ea] at hs
              refine ⟨a, rfl, hs.1, fun _ => hs.2, fun i j hi hj => ?_⟩
              obtain ⟨v, hv⟩ := cellAt i j (by omega) hj
              rw [hv]; rfl
            · obtain ⟨cs', hcs, ha⟩ := hlg i y hy
              obtain ⟨g1, g2⟩ := cells_get hcs
              obtain ⟨u, hu', hs⟩ := ha.get j hx
              have hj : j < P.cellsOf e := by rw [← g1]; exact (List.getElem?_eq_some_iff.1 hu').1
              have := g2 j hj
              rw [Go.Addr.add_add, ← hz, ← hsz, hu'] at this
              rw [this]
              exact hs.1
          · refine .sl e l (by omega) (fun y hy p hp => ?_)
            obtain ⟨i, hi⟩ := List.mem_iff_getElem?.1 hy
            obtain ⟨cs', _, ha⟩ := hlg i y hi
            obtain ⟨j, hj⟩ := List.mem_iff_getElem?.1 hp
            obtain ⟨u, _, hs⟩ := ha.get j hj
            exact hs.2
      · rename_i fs hu
        split at hg <;> try (cases hg; done)
        rename_i z ls' hfl
        split at hg <;> try (cases hg; done)
        rename_i hzt
        cases hg
        obtain ⟨xs, m, hm, _, hcl, hxl, hx⟩ := DataW.trod_struct hu h
        have hm' : fuel = m := by omega
        subst hm'
        -- field by field
        have fields : ∀ (l : List Field) (off z : Nat) (ls : List Leaf), fieldsL P (tyLeaves P Θ g) off l = some (z, ls) → (∀ f ∈ l, ∃ y, DataW.trod enc P w 0 (fun _ => true) true fuel f.type ((cs.drop f.offset).take (P.cellsOf f.type)) = some y) → z ≤ cs.length →
            z = off + ls.length ∧ ∃ pvs, Typed Θ ls pvs ∧ All2 (Seen Θ w) pvs ((cs.drop off).take ls.length) := by
          intro l
          induction l with
          | nil => intro off z ls h _ _; cases h; exact ⟨by simp, [], .nil, by simp; exact .nil⟩
          | cons f l ihl =>
            intro off z ls h hy hz
            simp only [fieldsL] at h
            split at h <;> try (cases h; done)
            rename_i l1 hl1
            split at h <;> try (cases h; done)
            rename_i hck
            split at h <;> try (cases h; done)
            rename_i z' l2 hl2
            cases h
            simp only [Bool.and_eq_true] at hck
            have ho : f.offset = off := Nat.eq_of_beq_eq_true hck.1
            have hn : l1.length = P.cellsOf f.type := Nat.eq_of_beq_eq_true hck.2
            obtain ⟨e1, p2, t2, a2⟩ := ihl _ _ _ hl2 (fun f hf => hy f (by simp [hf])) hz
            obtain ⟨y, hy'⟩ := hy f (by simp)
            rw [ho, ← hn] at hy'
            obtain ⟨p1, t1, a1⟩ := ih g f.type _ l1 y hy' hl1 (by rw [List.length_take, List.length_drop]; omega)
            refine ⟨by rw [e1, List.length_append]; omega, p1 ++ p2, t1.append t2, ?_⟩
            have := a1.append a2
            rw [← List.drop_drop, ← List.take_add] at this
            rw [List.length_append]
            exact this
        have hz' : z = P.cellsOf t := Nat.eq_of_beq_eq_true hzt
        obtain ⟨e1, pvs, ht, ha⟩ := fields fs.toList 0 z ls hfl (fun f hf => by
          obtain ⟨i, hi⟩ := List.mem_iff_getElem?.1 hf
          have hi' : fs[i]? = some f := by simpa using hi
          have := hx i f hi'
          have hlt : i < xs.length := by
            rw [hxl]; exact (Array.getElem?_eq_some_iff.1 hi').1
          rw [List.getElem?_eq_getElem hlt] at this
          exact ⟨_, this⟩) (by omega)
        refine ⟨pvs, ht, ?_⟩
        rw [List.drop_zero, ← hlen, List.take_length] at ha
        exact ha
      · rename_i n e hu
        split at hg <;> try (cases hg; done)
        rename_i els hels
        split at hg <;> try (cases hg; done)
        rename_i hck
        cases hg
        simp only [Bool.and_eq_true] at hck
        have hz : els.length = P.cellsOf e := Nat.eq_of_beq_eq_true hck.1
        have hz2 : n * els.length = P.cellsOf t := Nat.eq_of_beq_eq_true hck.2
        obtain ⟨xs, m, hm, _, hcl, hxl, hx⟩ := DataW.trod_array hu h
        have hm' : fuel = m := by omega
        subst hm'
        refine seen_times n els.length els cs rfl (by omega) fun i hi => ?_
        have h1 := hx i hi
        have hlt : i < xs.length := by omega
        rw [List.getElem?_eq_getElem hlt, ← hz] at h1
        refine ih g e _ els _ h1 hels ?_
        have : (i + 1) * els.length ≤ n * els.length := Nat.mul_le_mul_right _ hi
        rw [Nat.succ_mul] at this
        rw [List.length_take, List.length_drop]
        omega
/-! ### One argument -/
def pdLeaves : PD → List Leaf
  | .one l => [l]
  | .agg ls => ls
/-- Is a type told by this? -/
def pdOk (P : Program) (Θ : Tab) (t : TypeId) (p : PD) : Bool := match tyLeaves P Θ 100 t with
  | some ls => leavesEq ls (pdLeaves p) && match P.underlying t, p with
    | some (.struct _), .agg _ => Nat.beq ls.length (P.cellsOf t)
    | some (.array _ _), .agg _ => Nat.beq ls.length (P.cellsOf t)
    | some (.struct _), .one _ => false
    | some (.array _ _), .one _ => false
    | _, .one _ => true
    | _, .agg _ => false
  | none => false
/-- Well formed: numbers in their kind, and so on. -/
def WfA (Θ : Tab) : (p : PD) → p.Ty Θ.T → Prop
  | .one l, x => WfP Θ (l.mk x)
  | .agg ls, x => ∀ q ∈ HT.list Leaf.mk ls x, WfP Θ q
theorem open_arg {r : Reach} {b0 : Nat} {t : TypeId} {p : PD} {v : Value} {d : DataW H} {ps : List MemPlace} (hp : pdOk P Θ t p = true) (hval : Value.okWide P w r b0 t v) (hd : DataW.Trod enc P w 0 (fun _ => true) true t v d ps) :
    ∃ x : p.Ty Θ.T, RelP Θ w (fun b => b < w.heap.size) ⟨p, x⟩ v ∧ WfA Θ p x := by
  obtain ⟨fuel, hf⟩ := hd
  unfold pdOk at hp
  split at hp <;> try (cases hp; done)
  rename_i ls hls
  simp only [Bool.and_eq_true] at hp
  obtain ⟨h1, h2⟩ := hp
  have hle := leavesEq_eq h1
  cases p with
  | one l =>
    simp only [pdLeaves] at hle
    have hv1 : v.cells = #[v] := by
      unfold Value.okWide at hval
      cases hu : P.underlying t with
      | none =>
        rw [hu] at hval
        cases v <;> first | rfl | (simp [Cell.okWide, hu, Cell.ok] at hval)
      | some d =>
        rw [hu] at hval h2
        cases d <;> first | (cases h2; done) | (cases v <;> first | rfl | (simp [Cell.okWide, hu, Cell.ok] at hval))
    rw [hv1] at hf
    obtain ⟨pvs, ht, ha⟩ := open_cells fuel 100 t [v] ls (d, ps) hf hls (by rw [hle]; rfl)
    rw [hle] at ht
    cases ht with | cons h t' =>
    cases t'
    obtain ⟨y, rfl⟩ := h
    cases ha with | cons h t' =>
    exact ⟨y, h.1, h.2⟩
  | agg ls' =>
    simp only [pdLeaves] at hle
    have hagg : ∃ cs, v = .agg cs ∧ cs.size = ls.length := by
      unfold Value.okWide at hval
      cases hu : P.underlying t with
      | none => rw [hu] at h2; cases h2
      | some d =>
        rw [hu] at hval h2
        cases d <;> first
          | (cases h2; done)
          | (obtain ⟨cs, e, hs, _⟩ := hval; exact ⟨cs, e, by rw [hs]; exact (Nat.eq_of_beq_eq_true h2).symm⟩)
    obtain ⟨cs, rfl, hs⟩ := hagg
    have hc : (Value.agg cs).cells = cs := rfl
    rw [hc] at hf
    obtain ⟨pvs, ht, ha⟩ := open_cells fuel 100 t cs.toList ls (d, ps) hf hls (by simpa using hs)
    rw [hle] at ht
    obtain ⟨x, hx⟩ := typed_ht ls' pvs ht
    refine ⟨x, ⟨cs.toList, by simp, ?_⟩, ?_⟩
    · rw [hx]; exact ha.mono fun p u h => h.1
    · intro q hq
      rw [hx] at hq
      obtain ⟨i, hi⟩ := List.mem_iff_getElem?.1 hq
      obtain ⟨u, _, h⟩ := ha.get i hi
      exact h.2
end
/-! ### Contracts of all that is called -/
def AllC (P : Program) (Θ : Tab) : List (Nat × Spec Θ.T) → Prop
  | [] => True
  | (g, sp) :: r => PCalls P Θ g sp ∧ AllC P Θ r
theorem mem_all {P : Program} {Θ : Tab} : ∀ {l : List (Nat × Spec Θ.T)}, AllC P Θ l → ∀ p ∈ l, PCalls P Θ p.1 p.2 := by
  intro l
  induction l with
  | nil => intro _ p h; cases h
  | cons a l ih =>
    intro ha p h
    obtain ⟨g', sp'⟩ := a
    rcases List.mem_cons.1 h with e | e
    · rw [e]; exact ha.1
    · exact ih ha.2 p e
def AllY (P : Program) (Θ : Tab) : List (Nat × Spec Θ.T) → Prop
  | [] => True
  | (g, sp) :: r => PYields P Θ g sp ∧ AllY P Θ r
theorem mem_allY {P : Program} {Θ : Tab} {l : List (Nat × Spec Θ.T)} (h : AllY P Θ l) : ∀ p ∈ l, PYields P Θ p.1 p.2 := by
  revert h
  induction l with
  | nil => intro _ p h; cases h
  | cons a l ih =>
    intro ha p h
    obtain ⟨g', sp'⟩ := a
    rcases List.mem_cons.1 h with e | e
    · rw [e]; exact ha.1
    · exact ih ha.2 p e
def AllN (P : Program) (Θ : Tab) : List (Nat × NSpec Θ.T) → Prop
  | [] => True
  | (g, sp) :: r => PAmb P Θ g sp ∧ AllN P Θ r
theorem mem_allN {P : Program} {Θ : Tab} {l : List (Nat × NSpec Θ.T)} (h : AllN P Θ l) : ∀ p ∈ l, PAmb P Θ p.1 p.2 := by
  revert h
  induction l with
  | nil => intro _ p h; cases h
  | cons a l ih =>
    intro ha p h
    obtain ⟨g', sp'⟩ := a
    rcases List.mem_cons.1 h with e | e
    · rw [e]; exact ha.1
    · exact ih ha.2 p e
theorem ok_of {C : Cx} (h1 : C.P.follows .mixedOrders = true) (h2 : ∀ t ∈ C.eqs, EqT C.P t) (h3 : AllC C.P C.Θ C.Γ) (h4 : AllY C.P C.Θ C.Δ) (h5 : AllN C.P C.Θ C.N) : C.Ok := ⟨h1, h2, mem_all h3, mem_allY h4, mem_allN h5⟩
/-! ### A law -/
def boolOut : Shape := ⟨[.c (.hole .bool)], [], []⟩
theorem law_ok {P : Program} {Θ : Tab} {g : FuncId} {hin : Shape} {F : hin.X Θ.T → Option Bool} (hc : PCalls P Θ g ⟨hin, [(.ret, boolOut)], F⟩) (hb : hin.boxes = []) (hr : hin.rows = []) {x : hin.X Θ.T} {b : Bool} (hF : F x = some b) {W : World} {vs : List Value}
    (hall : All2 (RAV Θ W (fun b => b < W.heap.size) (fun _ _ => 0) (fun _ _ => .slice none 0 0)) (hin.st x).slots vs) : Calls P g vs.toArray W fun e w' => e = .returned (.bool b) ∧ Below W.heap.size W w' := by
  have e1 : (hin.st x).boxes = [] := by unfold Shape.st Shape.mk'; simp only [hb]; rfl
  have e2 : (hin.st x).rows = [] := by unfold Shape.st Shape.mk'; simp only [hr]; rfl
  let E : Env := ⟨W, fun _ => False, fun b => b < W.heap.size, fun _ _ => False, fun _ _ => False, []⟩
  have hM : ∀ bx rw_ b, ¬ Mut (hin.st x) bx rw_ b := by
    rintro bx rw_ b (⟨k, B, h, _⟩ | ⟨r, R, h, _⟩)
    · rw [e1] at h; cases h
    · rw [e2] at h; cases h
  have hS : Sim Θ E (hin.st x) vs.toArray E.w0 (fun _ _ => 0) (fun _ _ => .slice none 0 0) := by
    refine ⟨⟨rfl, rfl, rfl, Nat.le_refl _, fun _ _ _ => rfl⟩, fun k b h => h.elim, fun r v h => h.elim, fun _ _ => ⟨_, _, _, rfl⟩, fun k B h => (by rw [e1] at h; cases h), fun r R h => (by rw [e2] at h; cases h), fun k B k' B' h => (by rw [e1] at h; cases h),
      fun r R r' R' b h => (by rw [e2] at h; cases h), fun k B r R h => (by rw [e1] at h; cases h), by simp [hall.length], fun i => ?_⟩
    have := hall.mono (R' := RAV Θ W (FF E (hin.st x) (fun _ _ => 0) (fun _ _ => .slice none 0 0) W) (fun _ _ => 0) (fun _ _ => .slice none 0 0)) (fun a u h => RAV.trans (fun b hb => ⟨.inl hb, hb, hM _ _ _⟩) (fun _ _ => rfl) (fun _ _ => rfl) (fun _ _ => rfl) h)
    simp only [St.at_, List.getD_eq_getElem?_getD, Array.getD_eq_getD_getElem?, List.getElem?_toArray]
    cases hi : (hin.st x).slots[i]? with
    | none => exact trivial
    | some v =>
      obtain ⟨u, hu, hr⟩ := this.get i hi
      simp only [hu, Option.getD_some]
      exact hr
  refine Calls.mono (hc.calls x b hF E vs _ _ rfl hS) ?_
  intro e w' hp
  obtain ⟨_, us, bx, rw_, rfl, hT⟩ := hp
  have hl : us.length = 1 := by have := hT.len; simpa [boolOut, Shape.st, Shape.mk', fillAs] using this.symm
  obtain ⟨u, rfl⟩ : ∃ u, us = [u] := List.length_eq_one_iff.1 hl
  have h0 : u = .bool b := by
    have := hT.slots 0
    have h1 : RAV Θ w' (FF E (boolOut.st b) bx rw_ w') bx rw_ (.c (.v (.bool b))) u := this
    exact rav_bool h1
  subst h0
  refine ⟨by simp [tupleOf], hT.below.os, hT.below.tape, hT.below.output, hT.below.size, fun k hk => hT.below.block k hk (fun h => h)⟩
end Go.Den
