/- Contracts of functions; one step of a region, calls and all. -/
import Derived.Test.YthkcpgiibmajhaaDenH
import Derived.Shelf.Abstract
namespace Go.Den
open Go Go.RowKit

/-- What a parameter, or a result, is: a plain value of one cell, or several cells. -/
inductive PD where
  | one (l : Leaf)
  | agg (ls : List Leaf)
def PD.Ty (T : TypeId → Type) : PD → Type
  | .one l => l.Ty T
  | .agg ls => HT (Leaf.Ty T) ls
def PD.flat : PD → Bool
  | .one l => l.flat
  | .agg ls => ls.all Leaf.flat
structure Spec (T : TypeId → Type) : Type where
  pds : List PD
  rds : List PD
  F : HT (PD.Ty T) pds → Option (HT (PD.Ty T) rds)

section
variable {T : TypeId → Type}
def St.pget (s : St T) : (p : PD) → AV T → Option (p.Ty T)
  | .one l, v => match v with
    | .c x => s.get l x
    | _ => none
  | .agg ls, v => match v with
    | .agg cs => HT.get s.get ls cs
    | _ => none
def pdAV : (p : PD) → p.Ty T → CV T ⊕ List (CV T)
  | .one l, x => .inl (.v (l.mk x))
  | .agg ls, x => .inr ((HT.list Leaf.mk ls x).map .v)
def sumAV : CV T ⊕ List (CV T) → AV T
  | .inl c => .c c
  | .inr cs => .agg cs
def resAV (rds : List PD) (y : HT (PD.Ty T) rds) : AV T := match HT.list pdAV rds y with
  | [q] => sumAV q
  | l => .tup l
def dropRows : List (Nat × RowS T) → List Nat → List (Nat × RowS T)
  | [], _ => []
  | (k, R) :: r, ks => if ks.contains k then dropRows r ks else (k, R) :: dropRows r ks
/-- Behind a call that hands back what may lead to its arguments: their rows are the call's own no more. -/
def St.lend (s : St T) (flat : Bool) (avs : List (AV T)) : St T := if flat then s else { s with rows := dropRows s.rows ((avs.flatMap AV.mR).map (·.1)) }
end

/-- What stands for a parameter's value. -/
def RelP (Θ : Tab) (W : World) (F : Nat → Prop) : (Σ p : PD, p.Ty Θ.T) → Value → Prop
  | ⟨.one l, x⟩, u => Rep Θ W F u (l.mk x)
  | ⟨.agg ls, x⟩, u => ∃ us : List Value, u = .agg us.toArray ∧ All2 (fun p u => Rep Θ W F u p) (HT.list Leaf.mk ls x) us
def sig (Θ : Tab) (ps : List PD) (x : HT (PD.Ty Θ.T) ps) : List (Σ p : PD, p.Ty Θ.T) := HT.list (fun p y => ⟨p, y⟩) ps x
def RelRes (Θ : Tab) (W : World) (F : Nat → Prop) (l : List (Σ p : PD, p.Ty Θ.T)) (v : Value) : Prop := match l with
  | [q] => RelP Θ W F q v
  | l => ∃ us : List Value, v = .tuple us.toArray ∧ All2 (RelP Θ W F) l us
/-- A function's contract: where F tells a result, the call hands it back, and what there was is as it was. -/
structure PCalls (P : Program) (Θ : Tab) (g : FuncId) (sp : Spec Θ.T) : Prop where
  enters : Go.Proofs.Enters P g
  calls : ∀ x y, sp.F x = some y → ∀ (w : World) (F : Nat → Prop) (vs : List Value), (∀ b, F b → b < w.heap.size) → All2 (RelP Θ w F) (sig Θ sp.pds x) vs →
    Calls P g vs.toArray w fun e w' => ∃ v, e = .returned v ∧ RelRes Θ w' (fun b => (F b ∨ w.heap.size ≤ b) ∧ b < w'.heap.size) (sig Θ sp.rds y) v ∧ Below w.heap.size w w'

section
variable {Θ : Tab} {w0 : World} {F0 : Nat → Prop} {s : St Θ.T} {tm : Array Value} {W : World} {bx : Nat → Nat → Nat} {rw_ : Nat → Nat → Value} {P : Program}
/-- Time passes: blocks are made, nothing else. -/
theorem Sim.later (hS : Sim Θ w0 F0 s tm W bx rw_) {W' : World} (h : Below W.heap.size W W') : Sim Θ w0 F0 s tm W' bx rw_ := by
  have hlt : ∀ k B, look s.boxes k = some B → bx k B.gen < W.heap.size := fun k B hB => by
    obtain ⟨_, cv, hh, _⟩ := hS.boxes k B hB
    exact (Array.getElem?_eq_some_iff.1 hh).1
  have hF : ∀ b, FF w0 F0 s bx rw_ W b → FF w0 F0 s bx rw_ W' b := fun b hb => ⟨hb.1, Nat.lt_of_lt_of_le hb.2.1 h.size, hb.2.2⟩
  have hW : ∀ b, FF w0 F0 s bx rw_ W b → W'.heap[b]? = W.heap[b]? := fun b hb => h.block b hb.2.1
  refine ⟨hS.below.trans (h.mono hS.below.size), hS.rwsl, fun k B hB => ?_, fun r R hR => ?_, hS.bb, hS.rr, hS.br, hS.len, fun i => RAV.trans hF hW (fun _ _ => rfl) (fun _ _ => rfl) (hS.slots i)⟩
  · obtain ⟨h1, cv, hh, ha⟩ := hS.boxes k B hB
    exact ⟨h1, cv, by rw [h.block _ (hlt k B hB)]; exact hh, RCs.trans hF hW (fun _ _ => rfl) (fun _ _ => rfl) ha⟩
  · obtain ⟨us, ho, ha⟩ := hS.rows r R hR
    have hg : W.grownBy W' none := ⟨h.os, h.tape, h.output, h.size, fun b hb _ => h.block b hb⟩
    exact ⟨us, ho.kept hg (by cases (rw_ r R.gen).ownBlock <;> simp), ha.mono fun x u hx => Rep.mono hx hF hW⟩
theorem look_dropRows {l : List (Nat × RowS Θ.T)} {ks : List Nat} {r : Nat} {R : RowS Θ.T} (h : look (dropRows l ks) r = some R) : look l r = some R ∧ r ∉ ks := by
  induction l with
  | nil => simp [dropRows, look] at h
  | cons x l ih =>
    obtain ⟨k, R'⟩ := x
    simp only [dropRows] at h
    split at h
    · rename_i hk
      obtain ⟨h1, h2⟩ := ih h
      refine ⟨?_, h2⟩
      simp only [look]
      rw [if_neg]
      · exact h1
      · rintro rfl; exact h2 (by simpa using hk)
    · rename_i hk
      simp only [look] at h ⊢
      split at h
      · rename_i e; subst e; cases h; exact ⟨by simp, by simpa using hk⟩
      · rename_i e; rw [if_neg e]; exact ih h
/-- Rows are given up. -/
theorem Sim.lessRows (hS : Sim Θ w0 F0 s tm W bx rw_) (ks : List Nat) : Sim Θ w0 F0 { s with rows := dropRows s.rows ks } tm W bx rw_ := by
  have hF : ∀ b, FF w0 F0 s bx rw_ W b → FF w0 F0 { s with rows := dropRows s.rows ks } bx rw_ W b := by
    rintro b ⟨h1, h2, h3⟩
    refine ⟨h1, h2, ?_⟩
    rintro (h | ⟨r, R, hR, hb⟩)
    · exact h3 (.inl h)
    · exact h3 (.inr ⟨r, R, (look_dropRows hR).1, hb⟩)
  have hW : ∀ b, FF w0 F0 s bx rw_ W b → W.heap[b]? = W.heap[b]? := fun _ _ => rfl
  refine ⟨hS.below, hS.rwsl, fun k B hB => ?_, fun r R hR => ?_, hS.bb, ?_, ?_, hS.len, fun i => RAV.trans hF hW (fun _ _ => rfl) (fun _ _ => rfl) (hS.slots i)⟩
  · obtain ⟨h1, cv, hh, ha⟩ := hS.boxes k B hB
    exact ⟨h1, cv, hh, RCs.trans hF hW (fun _ _ => rfl) (fun _ _ => rfl) ha⟩
  · obtain ⟨us, ho, ha⟩ := hS.rows r R (look_dropRows hR).1
    exact ⟨us, ho, ha.mono fun x u hx => Rep.mono hx hF hW⟩
  · intro r R r' R' b hR hR' hb hb'
    exact hS.rr r R r' R' b (look_dropRows hR).1 (look_dropRows hR').1 hb hb'
  · intro k B r R hB hR
    exact hS.br k B r R hB (look_dropRows hR).1
theorem Sim.lend (hS : Sim Θ w0 F0 s tm W bx rw_) (flat : Bool) (avs : List (AV Θ.T)) : Sim Θ w0 F0 (s.lend flat avs) tm W bx rw_ := by
  unfold St.lend
  split
  · exact hS
  · exact hS.lessRows _
/-- A row of the call's own reads as a plain slice. -/
theorem row_rep (hS : Sim Θ w0 F0 s tm W bx rw_) {F' : Nat → Prop} (hF : ∀ b, FF w0 F0 s bx rw_ W b → F' b) {r : Nat} {R : RowS Θ.T} (hR : look s.rows r = some R) (hb : ∀ b, (rw_ r R.gen).ownBlock = some b → F' b) :
    Rep Θ W F' (rw_ r R.gen) (.sl R.e R.l) := by
  obtain ⟨us, hown, har⟩ := hS.rows r R hR
  rcases hown.2 with ⟨hv, hn0⟩ | ⟨b, cap, cur, hv, _, hh, hnc, hcm, hcs, htake⟩
  · have : R.l = [] := List.eq_nil_of_length_eq_zero hn0
    rw [hv, this]; exact Rep.nil _ _ _ _
  · rw [hv]
    refine .sl R.e R.l _ _ _ (fun i j => us.getD (i * Θ.sz R.e + j) undef) rfl hnc (fun h => by cases h) (fun hne => ⟨⟨b, 0, none⟩, rfl, rfl, hb b (by rw [hv]; rfl), fun i j hi hj => ?_⟩) (fun i j y x hy hx => ?_)
    · have hlen : i * Θ.sz R.e + j < us.length := by
        rw [hown.1]
        have := Nat.mul_le_mul_right (Θ.sz R.e) hi
        rw [Nat.succ_mul] at this
        omega
      have := hown.cells (g := b) (by rw [hv]; rfl) (i * Θ.sz R.e + j) _ (List.getElem?_eq_getElem hlen)
      rw [this, List.getD_eq_getElem?_getD, List.getElem?_eq_getElem hlen]
      rfl
    · have hj : j < Θ.sz R.e := by
        have := (List.getElem?_eq_some_iff.1 hx).1
        rwa [Θ.length_enc] at this
      have hfm := flatMap_get (Θ.enc R.e) (Θ.sz R.e) (Θ.length_enc R.e) R.l i j y hy hj
      rw [hx] at hfm
      obtain ⟨u, hu, hr⟩ := har.get _ hfm
      rw [List.getD_eq_getElem?_getD, hu]
      exact Rep.mono hr hF (fun _ _ => rfl)
/-- A cell read as a plain value of a kind. -/
theorem leaf_ok (hS : Sim Θ w0 F0 s tm W bx rw_) {F' : Nat → Prop} (hF : ∀ b, FF w0 F0 s bx rw_ W b → F' b) {l : Leaf} {c : CV Θ.T} {u : Value} {x : l.Ty Θ.T} (h : s.get l c = some x) (hr : RCV Θ W (FF w0 F0 s bx rw_ W) bx rw_ c u)
    (hb : ∀ p ∈ c.mR, ∀ R b, look s.rows p.1 = some R → (rw_ p.1 R.gen).ownBlock = some b → F' b) : Rep Θ W F' u (l.mk x) := by
  cases c with
  | v p => simp only [St.get] at h; rw [← Leaf.get_mk h]; exact Rep.mono hr hF (fun _ _ => rfl)
  | nil =>
    simp only [St.get] at h
    split at h <;> try (cases h; done)
    cases h
    have e : u = .slice none 0 0 := hr
    rw [e]; exact Rep.nil _ _ _ _
  | row r g =>
    simp only [St.get] at h
    split at h <;> try (cases h; done)
    rename_i R hR
    split at h <;> try (cases h; done)
    rename_i hg
    subst hg
    rw [← Leaf.get_mk h]
    have e : u = rw_ r R.gen := hr
    rw [e]
    exact row_rep hS hF hR (fun b hbb => hb (r, R.gen) (by simp [CV.mR]) R b hR hbb)
  | box k g off => simp [St.get] at h
  | fn f caps => simp [St.get] at h
theorem leaves_ok (hS : Sim Θ w0 F0 s tm W bx rw_) {F' : Nat → Prop} (hF : ∀ b, FF w0 F0 s bx rw_ W b → F' b) : ∀ (ls : List Leaf) (cs : List (CV Θ.T)) (us : List Value) (x : HT (Leaf.Ty Θ.T) ls), HT.get s.get ls cs = some x → All2 (RCV Θ W (FF w0 F0 s bx rw_ W) bx rw_) cs us →
    (∀ p ∈ cs.flatMap CV.mR, ∀ R b, look s.rows p.1 = some R → (rw_ p.1 R.gen).ownBlock = some b → F' b) → All2 (fun p u => Rep Θ W F' u p) (HT.list Leaf.mk ls x) us := by
  intro ls
  induction ls with
  | nil =>
    intro cs us x h hr _
    have := HT.get_len _ _ _ _ h
    cases cs with
    | nil => cases hr; exact .nil
    | cons c cs => simp at this
  | cons l ls ih =>
    intro cs us x h hr hb
    have hlen := HT.get_len _ _ _ _ h
    cases cs with
    | nil => simp at hlen
    | cons c cs =>
      cases hr with | cons h1 t1 =>
      have hb1 : ∀ p ∈ c.mR, ∀ R b, look s.rows p.1 = some R → (rw_ p.1 R.gen).ownBlock = some b → F' b := fun p hp => hb p (by simp [hp])
      have hb2 : ∀ p ∈ cs.flatMap CV.mR, ∀ R b, look s.rows p.1 = some R → (rw_ p.1 R.gen).ownBlock = some b → F' b := fun p hp => hb p (by simp only [List.flatMap_cons, List.mem_append]; exact .inr hp)
      cases ls with
      | nil =>
        cases cs with
        | cons c2 cs => simp at hlen
        | nil =>
          rw [HT.get_one] at h
          cases t1
          exact .cons (leaf_ok hS hF h h1 hb1) .nil
      | cons l2 ls =>
        rw [HT.get_cons] at h
        split at h <;> try (cases h; done)
        rename_i a ha
        split at h <;> try (cases h; done)
        rename_i xs hxs
        cases h
        exact .cons (leaf_ok hS hF ha h1 hb1) (ih cs _ xs hxs t1 hb2)
theorem pget_ok (hS : Sim Θ w0 F0 s tm W bx rw_) {F' : Nat → Prop} (hF : ∀ b, FF w0 F0 s bx rw_ W b → F' b) {p : PD} {v : AV Θ.T} {u : Value} {x : p.Ty Θ.T} (h : s.pget p v = some x) (hr : RAV Θ W (FF w0 F0 s bx rw_ W) bx rw_ v u)
    (hb : ∀ q ∈ v.mR, ∀ R b, look s.rows q.1 = some R → (rw_ q.1 R.gen).ownBlock = some b → F' b) : RelP Θ W F' ⟨p, x⟩ u := by
  cases p with
  | one l =>
    cases v with
    | c c => exact leaf_ok hS hF h hr hb
    | _ => cases h
  | agg ls =>
    cases v with
    | agg cs => obtain ⟨us, e, ha⟩ := hr; exact ⟨us, e, leaves_ok hS hF ls cs us x h ha hb⟩
    | _ => cases h
theorem pgets_ok (hS : Sim Θ w0 F0 s tm W bx rw_) {F' : Nat → Prop} (hF : ∀ b, FF w0 F0 s bx rw_ W b → F' b) : ∀ (ps : List PD) (vs : List (AV Θ.T)) (us : List Value) (x : HT (PD.Ty Θ.T) ps), HT.get s.pget ps vs = some x → All2 (RAV Θ W (FF w0 F0 s bx rw_ W) bx rw_) vs us →
    (∀ q ∈ vs.flatMap AV.mR, ∀ R b, look s.rows q.1 = some R → (rw_ q.1 R.gen).ownBlock = some b → F' b) → All2 (RelP Θ W F') (sig Θ ps x) us := by
  intro ps
  induction ps with
  | nil =>
    intro vs us x h hr _
    have := HT.get_len _ _ _ _ h
    cases vs with
    | nil => cases hr; exact .nil
    | cons c cs => simp at this
  | cons l ls ih =>
    intro cs us x h hr hb
    have hlen := HT.get_len _ _ _ _ h
    cases cs with
    | nil => simp at hlen
    | cons c cs =>
      cases hr with | cons h1 t1 =>
      have hb1 : ∀ p ∈ c.mR, ∀ R b, look s.rows p.1 = some R → (rw_ p.1 R.gen).ownBlock = some b → F' b := fun p hp => hb p (by simp [hp])
      have hb2 : ∀ p ∈ cs.flatMap AV.mR, ∀ R b, look s.rows p.1 = some R → (rw_ p.1 R.gen).ownBlock = some b → F' b := fun p hp => hb p (by simp only [List.flatMap_cons, List.mem_append]; exact .inr hp)
      cases ls with
      | nil =>
        cases cs with
        | cons c2 cs => simp at hlen
        | nil =>
          rw [HT.get_one] at h
          cases t1
          exact .cons (pget_ok hS hF h h1 hb1) .nil
      | cons l2 ls =>
        rw [HT.get_cons] at h
        split at h <;> try (cases h; done)
        rename_i a ha
        split at h <;> try (cases h; done)
        rename_i xs hxs
        cases h
        exact .cons (pget_ok hS hF ha h1 hb1) (ih cs _ xs hxs t1 hb2)
theorem rep_flatF {F F' : Nat → Prop} {l : Leaf} {x : l.Ty Θ.T} {u : Value} (hl : l.flat = true) (h : Rep Θ W F u (l.mk x)) : Rep Θ W F' u (l.mk x) := by
  cases l with
  | int k => cases h; exact .int _ _
  | bool => cases h; exact .bool _
  | str => cases h; exact .str _
  | sl e => simp [Leaf.flat] at hl
theorem reps_flatF {F F' : Nat → Prop} : ∀ (ls : List Leaf) (x : HT (Leaf.Ty Θ.T) ls) (us : List Value), ls.all Leaf.flat = true → All2 (fun p u => Rep Θ W F u p) (HT.list Leaf.mk ls x) us → All2 (fun p u => Rep Θ W F' u p) (HT.list Leaf.mk ls x) us := by
  intro ls
  induction ls with
  | nil => intro x us _ h; cases h; exact .nil
  | cons l ls ih =>
    intro x us hl h
    simp only [List.all_cons, Bool.and_eq_true] at hl
    cases ls with
    | nil => cases h with | cons h1 t1 => cases t1; exact .cons (rep_flatF hl.1 h1) .nil
    | cons l2 ls => cases h with | cons h1 t1 => exact .cons (rep_flatF hl.1 h1) (ih x.2 _ hl.2 t1)
theorem relP_flat {F F' : Nat → Prop} {p : PD} {x : p.Ty Θ.T} {u : Value} (hp : p.flat = true) (h : RelP Θ W F ⟨p, x⟩ u) : RelP Θ W F' ⟨p, x⟩ u := by
  cases p with
  | one l => exact rep_flatF hp h
  | agg ls => obtain ⟨us, e, ha⟩ := h; exact ⟨us, e, reps_flatF ls x us hp ha⟩
theorem relP_mono {W' : World} {F F' : Nat → Prop} (hF : ∀ b, F b → F' b) (hW : ∀ b, F b → W'.heap[b]? = W.heap[b]?) {q : Σ p : PD, p.Ty Θ.T} {u : Value} (h : RelP Θ W F q u) : RelP Θ W' F' q u := by
  obtain ⟨p, x⟩ := q
  cases p with
  | one l => exact Rep.mono h hF hW
  | agg ls => obtain ⟨us, e, ha⟩ := h; exact ⟨us, e, ha.mono fun x u hx => Rep.mono hx hF hW⟩
theorem pdAV_ok {F : Nat → Prop} {p : PD} {x : p.Ty Θ.T} {u : Value} (h : RelP Θ W F ⟨p, x⟩ u) : RSum Θ W F bx rw_ (pdAV p x) u := by
  cases p with
  | one l => exact h
  | agg ls => obtain ⟨us, e, ha⟩ := h; exact ⟨us, e, All2.map_left ha⟩
theorem list_sig {C : Type} (f : (p : PD) → p.Ty Θ.T → C) : ∀ (ps : List PD) (x : HT (PD.Ty Θ.T) ps), HT.list f ps x = (sig Θ ps x).map fun q => f q.1 q.2 := by
  intro ps
  induction ps with
  | nil => intro x; rfl
  | cons p ps ih =>
    intro x
    cases ps with
    | nil => rfl
    | cons p2 ps => show f p x.1 :: _ = _ :: _; rw [ih x.2]; rfl
theorem resAV_ok {F : Nat → Prop} {rds : List PD} {y : HT (PD.Ty Θ.T) rds} {v : Value} (h : RelRes Θ W F (sig Θ rds y) v) : RAV Θ W F bx rw_ (resAV rds y) v := by
  unfold resAV
  rw [list_sig]
  revert h
  generalize sig Θ rds y = l
  intro h
  match l, h with
  | [q], h =>
    have := pdAV_ok (bx := bx) (rw_ := rw_) (show RelP Θ W F q v from h)
    simp only [List.map_cons, List.map_nil]
    revert this
    cases pdAV q.1 q.2 <;> exact id
  | [], h =>
    obtain ⟨us, rfl, ha⟩ := (show ∃ us : List Value, v = .tuple us.toArray ∧ All2 (RelP Θ W F) [] us from h)
    cases ha
    exact ⟨[], rfl, .nil⟩
  | a :: b :: t, h =>
    obtain ⟨us, rfl, ha⟩ := (show ∃ us : List Value, v = .tuple us.toArray ∧ All2 (RelP Θ W F) (a :: b :: t) us from h)
    have hm : All2 (RSum Θ W F bx rw_) ((a :: b :: t).map fun q => pdAV q.1 q.2) us := All2.map_left (ha.mono fun q u hq => pdAV_ok (bx := bx) (rw_ := rw_) hq)
    exact ⟨us, rfl, hm⟩
end
end Go.Den
