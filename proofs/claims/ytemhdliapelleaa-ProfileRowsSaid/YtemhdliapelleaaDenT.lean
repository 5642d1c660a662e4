/- What fits a shape may be taken for the shape's own state: the theorem. -/
import Derived.Test.YtemhdliapelleaaDenN
namespace Go.Den
open Go Go.RowKit

section
variable {T : TypeId → Type}
-- the fill's rest hangs on lengths alone
theorem lenC (t : CT) (a b : List (PV T)) (hl : a.length = t.hs.length) : (fillC t (a ++ b)).2 = b := by
  cases t with
  | hole l => cases a with | nil => simp [CT.hs] at hl | cons y a => cases a with | nil => rfl | cons z a => simp [CT.hs] at hl
  | _ => (have : a = [] := List.eq_nil_of_length_eq_zero (by simpa [CT.hs] using hl)); subst this; rfl
theorem lenCs : ∀ (ts : List CT) (a b : List (PV T)), a.length = (CT.hss ts).length → (fillCs ts (a ++ b)).2 = b := by
  intro ts
  induction ts with
  | nil => intro a b hl; have : a = [] := List.eq_nil_of_length_eq_zero (by simpa [CT.hss] using hl); subst this; rfl
  | cons t ts ih =>
    intro a b hl
    simp only [CT.hss, List.length_append] at hl
    have ea : a = a.take t.hs.length ++ a.drop t.hs.length := (List.take_append_drop _ _).symm
    rw [ea, List.append_assoc]
    simp only [fillCs]
    rw [lenC t _ _ (by simp; omega), ih _ _ (by simp; omega)]
theorem lenK (t : KT) (a b : List (PV T)) (hl : a.length = t.hs.length) : (fillK t (a ++ b)).2 = b := by
  cases t with
  | c x => exact lenC x a b hl
  | agg l => exact lenCs l a b hl
  | cel ls => simp only [KT.hs] at hl; simp only [fillK]; rw [← hl]; simp
theorem lenKs : ∀ (ts : List KT) (a b : List (PV T)), a.length = (KT.hss ts).length → (fillKs ts (a ++ b)).2 = b := by
  intro ts
  induction ts with
  | nil => intro a b hl; have : a = [] := List.eq_nil_of_length_eq_zero (by simpa [KT.hss] using hl); subst this; rfl
  | cons t ts ih =>
    intro a b hl
    simp only [KT.hss, List.length_append] at hl
    have ea : a = a.take t.hs.length ++ a.drop t.hs.length := (List.take_append_drop _ _).symm
    rw [ea, List.append_assoc]
    simp only [fillKs]
    rw [lenK t _ _ (by simp; omega), ih _ _ (by simp; omega)]
theorem lenA (t : AT) (a b : List (PV T)) (hl : a.length = t.hs.length) : (fillA t (a ++ b)).2 = b := by
  cases t with
  | undef => have : a = [] := List.eq_nil_of_length_eq_zero (by simpa [AT.hs] using hl); subst this; rfl
  | c x => exact lenC x a b hl
  | agg l => exact lenCs l a b hl
  | rel r sz off => cases a with | nil => simp [AT.hs] at hl | cons y a => cases a with | nil => rfl | cons z a => simp [AT.hs] at hl
  | cel ls => simp only [AT.hs] at hl; simp only [fillA]; rw [← hl]; simp
  | yld y ts => exact lenKs ts a b hl
theorem lenAs : ∀ (ts : List AT) (a b : List (PV T)), a.length = (AT.hss ts).length → (fillAs ts (a ++ b)).2 = b := by
  intro ts
  induction ts with
  | nil => intro a b hl; have : a = [] := List.eq_nil_of_length_eq_zero (by simpa [AT.hss] using hl); subst this; rfl
  | cons t ts ih =>
    intro a b hl
    simp only [AT.hss, List.length_append] at hl
    have ea : a = a.take t.hs.length ++ a.drop t.hs.length := (List.take_append_drop _ _).symm
    rw [ea, List.append_assoc]
    simp only [fillAs]
    rw [lenA t _ _ (by simp; omega), ih _ _ (by simp; omega)]
theorem lenBs : ∀ (ts : List (Nat × Nat × List CT)) (a b : List (PV T)), a.length = (boxHs ts).length → (fillBs ts (a ++ b)).2 = b := by
  intro ts
  induction ts with
  | nil => intro a b hl; have : a = [] := List.eq_nil_of_length_eq_zero (by simpa [boxHs] using hl); subst this; rfl
  | cons t ts ih =>
    intro a b hl
    simp only [boxHs, List.length_append] at hl
    have ea : a = a.take (CT.hss t.2.2).length ++ a.drop (CT.hss t.2.2).length := (List.take_append_drop _ _).symm
    rw [ea, List.append_assoc]
    simp only [fillBs]
    rw [lenCs t.2.2 _ _ (by simp; omega), ih _ _ (by simp; omega)]
end

section
variable {Θ : Tab} {E : Env} {s : St Θ.T} {tm : Array Value} {W : World} {bx : Nat → Nat → Nat} {rw_ : Nat → Nat → Value}
/-- What is told of a state that was picked by a shape. -/
structure Told (Θ : Tab) (s : St Θ.T) (h : Shape) (y : Ext Θ.T h) : Prop where
  keyB : ∀ k B', look (h.st y.x).boxes k = some B' → B'.gen = 0 ∧ ∃ kg B, look y.xs k = some kg ∧ look s.boxes kg.1 = some B ∧ B.gen = kg.2 ∧ B'.ty = B.ty
  keyR : ∀ r R', look (h.st y.x).rows r = some R' → ∃ c, look y.bs r = some c ∧ R'.gen = 0 ∧ s.get (.sl R'.e) c = some R'.l
  cur : ∀ p ∈ y.xs, s.curB p.2.1 p.2.2 = true
  apart : ∀ p ∈ y.xs, ∀ q ∈ y.xs, p.1 ≠ q.1 → p.2.1 ≠ q.2.1
  one : ∀ p ∈ y.xs, look y.xs p.1 = some p.2
  bok : ∀ p ∈ y.bs, bindOk s p.2 = true
  bap : ∀ p ∈ y.bs, ∀ q ∈ y.bs, p.1 ≠ q.1 → bindApart p.2 q.2 = true
  bone : ∀ p ∈ y.bs, ∃ c, look y.bs p.1 = some c ∧ (c = p.2 ∨ bindSame c p.2 = true)
  hap : ∀ c ∈ y.hs, holeApart y.bs c = true
theorem curB_look {k g : Nat} (h : s.curB k g = true) : ∃ B, look s.boxes k = some B ∧ B.gen = g := by
  unfold St.curB at h
  split at h
  · rename_i B hB; exact ⟨B, hB, by simpa using h⟩
  · cases h
theorem pickS_split {own : Bool} {h : Shape} {l : List (AV Θ.T)} {p : Pk Θ.T} (hp : pickS own h l = some p) : ∃ p0, pickAs h.slots l = some p0 ∧ p.hs = p0.hs ∧ (∀ c ∈ p0.bs, c ∈ p.bs) ∧ ∀ c ∈ p0.xs, c ∈ p.xs := by
  unfold pickS at hp
  split at hp <;> try (cases hp; done)
  rename_i p0 h0
  split at hp
  · cases hp; exact ⟨p0, h0, rfl, fun c hc => List.mem_append_right _ hc, fun c hc => List.mem_append_right _ hc⟩
  · cases hp; exact ⟨_, h0, rfl, fun c hc => hc, fun c hc => hc⟩
theorem extB_split {own : Bool} {h : Shape} {y : Ext Θ.T h} (hy : h.extG own s = some y) : ∃ p q cs, pickS own h s.slots = some p ∧ pickBs s h.boxes p.xs = some q ∧ xsOk s (p.and q).xs = true ∧ bindsOk s (p.and q).bs = true ∧ (p.and q).hs.all (holeApart (p.and q).bs) = true ∧
    rowCs (p.and q).bs h.rows = some cs ∧ HT.get s.get h.hs (p.hs ++ (q.hs ++ cs)) = some y.x ∧ y.hs = (p.and q).hs ∧ y.bs = (p.and q).bs ∧ y.xs = (p.and q).xs := by
  unfold Shape.extG at hy
  split at hy <;> try (cases hy; done)
  rename_i p hp
  split at hy <;> try (cases hy; done)
  rename_i q hq
  split at hy <;> try (cases hy; done)
  rename_i hok
  split at hy <;> try (cases hy; done)
  rename_i cs hcs
  split at hy <;> try (cases hy; done)
  rename_i x hx
  cases hy
  simp only [Bool.and_eq_true] at hok
  exact ⟨p, q, cs, hp, hq, hok.1, hok.2.1, hok.2.2, hcs, hx, rfl, rfl, rfl⟩
/-- The state that a shape fills, told by the parts of the fill. -/
theorem fill_split {own : Bool} {h : Shape} {y : Ext Θ.T h} (hy : h.extG own s = some y) : ∃ p q cs ps1 ps2 ps3, pickS own h s.slots = some p ∧ pickBs s h.boxes p.xs = some q ∧ rowCs y.bs h.rows = some cs ∧ y.hs = p.hs ++ q.hs ∧ y.bs = p.bs ++ q.bs ∧ y.xs = p.xs ++ q.xs ∧
    All3 (fun l c pv => ∃ z, s.get l c = some z ∧ pv = l.mk z) (AT.hss h.slots) p.hs ps1 ∧ All3 (fun l c pv => ∃ z, s.get l c = some z ∧ pv = l.mk z) (boxHs h.boxes) q.hs ps2 ∧ All3 (fun l c pv => ∃ z, s.get l c = some z ∧ pv = l.mk z) (rowHs h.rows) cs ps3 ∧
    (h.st y.x).slots = (fillAs h.slots (ps1 ++ (ps2 ++ ps3))).1 ∧ (h.st y.x).boxes = (fillBs h.boxes (ps2 ++ ps3)).1 ∧ (h.st y.x).rows = fillRs h.rows ps3 := by
  obtain ⟨p, q, cs, hp, hq, _, _, _, hcs, hx, e1, e2, e3⟩ := extB_split hy
  have h3 := get_all3 _ _ _ hx
  obtain ⟨p0, hp0, hph, _, _⟩ := pickS_split hp
  have hpl : (AT.hss h.slots).length = p.hs.length := by rw [hph]; exact (pickAs_len _ _ _ hp0).1
  have hql := pickBs_len _ _ _ hq
  obtain ⟨ps1, ps23, ea, g1, h3'⟩ := All3.split h3 hpl
  obtain ⟨ps2, ps3, eb, g2, g3⟩ := All3.split h3' hql
  subst eb
  have l1 : ps1.length = (AT.hss h.slots).length := by rw [hpl]; exact (All2.length g1.right).symm
  have l2 : ps2.length = (boxHs h.boxes).length := by rw [hql]; exact (All2.length g2.right).symm
  refine ⟨p, q, cs, ps1, ps2, ps3, hp, hq, by rw [e2]; exact hcs, e1, e2, e3, g1, g2, g3, ?_, ?_, ?_⟩
  · unfold Shape.st Shape.mk'; rw [ea]
  · unfold Shape.st Shape.mk'; rw [ea]; simp only; rw [lenAs _ _ _ l1]
  · unfold Shape.st Shape.mk'; rw [ea]; simp only; rw [lenAs _ _ _ l1, lenBs _ _ _ l2]
theorem told {own : Bool} {h : Shape} {y : Ext Θ.T h} (hy : h.extG own s = some y) : Told Θ s h y := by
  obtain ⟨p, q, cs, ps1, ps2, ps3, hp, hq, hcs, e1, e2, e3, g1, g2, g3, t1, t2, t3⟩ := fill_split hy
  obtain ⟨p', q', cs', hp', hq', hxs, hbs, hha, _, _, e1', e2', e3'⟩ := extB_split hy
  rw [← e3'] at hxs
  rw [← e2'] at hbs
  rw [← e1', ← e2'] at hha
  obtain ⟨x1, x2, x3⟩ := xsOk_spec _ hxs
  obtain ⟨b1, b2, b3⟩ := bindsOk_spec _ hbs
  refine ⟨?_, ?_, x1, x3, x2, b1, b2, b3, by simpa using hha⟩
  · intro k B' hk
    have hk' := hk
    rw [t2] at hk'
    have good : ∀ (ls : List Leaf) (cs : List (CV Θ.T)) (ps : List (PV Θ.T)), All3 (fun l c pv => ∃ z, s.get l c = some z ∧ pv = l.mk z) ls cs ps → All2 (fun (_ : CV Θ.T) (_ : PV Θ.T) => True) cs ps := by
      intro ls cs ps h
      induction h with
      | nil => exact .nil
      | cons _ _ ih => exact .cons trivial ih
    -- the keys alone
    have key : ∀ (ts : List (Nat × Nat × List CT)) (xs : List (Nat × Nat × Nat)) (p : Pk Θ.T) (ps : List (PV Θ.T)), pickBs s ts xs = some p → (∀ k v, look (xs ++ p.xs) k = some v → look y.xs k = some v) → look (fillBs ts ps).1 k = some B' → B'.gen = 0 ∧ ∃ kg B, look y.xs k = some kg ∧ look s.boxes kg.1 = some B ∧ B.gen = kg.2 ∧ B'.ty = B.ty := by
      intro ts
      induction ts with
      | nil => intro xs p ps _ _ h; simp [fillBs, look] at h
      | cons t ts ih =>
        intro xs p ps hpk hys hl
        simp only [pickBs] at hpk
        split at hpk <;> try (cases hpk; done)
        rename_i kg hkg
        split at hpk <;> try (cases hpk; done)
        rename_i B hB
        split at hpk <;> try (cases hpk; done)
        rename_i hty
        split at hpk <;> try (cases hpk; done)
        rename_i p1 h1
        split at hpk <;> try (cases hpk; done)
        rename_i p2 h2
        cases hpk
        simp only [Bool.and_eq_true, beq_iff_eq] at hty
        simp only [fillBs, look] at hl
        split at hl
        · rename_i e
          subst e
          cases hl
          exact ⟨rfl, kg, B, hys _ _ (look_append hkg), hB, hty.1, hty.2.symm⟩
        · exact ih _ p2 _ h2 (fun k v hv => hys k v (by simpa [Pk.and, List.append_assoc] using hv)) hl
    exact key _ _ _ _ hq (fun k v hv => by rw [e3]; exact hv) hk'
  · intro r R' hr
    rw [t3] at hr
    exact fillRs_ok h.rows y.bs cs hcs ps3 g3 r R' hr
/-- **What fits a shape may be taken for the shape's own state**, in an environment that lets it. -/
theorem ext_base (hS : Sim Θ E s tm W bx rw_) {own : Bool} {h : Shape} {y : Ext Θ.T h} (hy : h.extG own s = some y) (E' : Env) (hK : Keeps E' W) (hF : ∀ b, FF E s bx rw_ W b → E'.F b ∨ E'.Own b)
    (hH : ∀ q g R b, CV.row q g ∈ y.hs → look s.rows q = some R → ob (rw_ q R.gen) = some b → E'.F b ∨ E'.Own b)
    (hOB : ∀ k B', look (h.st y.x).boxes k = some B' → E'.Own (bxN bx y.xs k 0))
    (hOR : ∀ r R' b, look (h.st y.x).rows r = some R' → ob (rwN rw_ y.bs r 0) = some b → E'.Own b)
    (hPB : ∀ k b, E'.PB k b → pin ≤ k ∧ ∀ B', look (h.st y.x).boxes k = some B' → bxN bx y.xs k 0 = b)
    (hPR : ∀ r v, E'.PR r v → pinned r = true ∧ ∀ R', look (h.st y.x).rows r = some R' → rwN rw_ y.bs r 0 = v) :
    Sim Θ E' (h.st y.x) tm W (bxN bx y.xs) (rwN rw_ y.bs) := by
  have ht := told hy
  obtain ⟨p, q, cs, ps1, ps2, ps3, hp, hq, hcs, e1, e2, e3, g1, g2, g3, t1, t2, t3⟩ := fill_split hy
  generalize hteq : h.st y.x = t at *
  have keyB : ∀ k B', look t.boxes k = some B' → B'.gen = 0 ∧ ∃ kg B, look y.xs k = some kg ∧ look s.boxes kg.1 = some B ∧ B.gen = kg.2 ∧ bxN bx y.xs k B'.gen = bx kg.1 B.gen := by
    intro k B' hk
    obtain ⟨h1, kg, B, h2, h3, h4, _⟩ := ht.keyB k B' (by rw [hteq]; exact hk)
    exact ⟨h1, kg, B, h2, h3, h4, by simp only [bxN, h2, h4]⟩
  have keyR2 : ∀ r R', look t.rows r = some R' → ∀ b, ob (rwN rw_ y.bs r R'.gen) = some b → ∃ q R, look y.bs r = some (.row q R.gen) ∧ look s.rows q = some R ∧ ob (rw_ q R.gen) = some b := by
    intro r R' hr b hb
    obtain ⟨c, hl, hg, _⟩ := ht.keyR r R' (by rw [hteq]; exact hr)
    simp only [rwN, hl] at hb
    cases c with
    | row q g =>
      have hbo := ht.bok _ (mem_of_look hl)
      simp only [bindOk] at hbo
      split at hbo
      · rename_i R hR
        have : R.gen = g := by simpa using hbo
        subst this
        exact ⟨q, R, hl, hR, hb⟩
      · cases hbo
    | _ => simp [ob] at hb
  have hMut : ∀ b, Mut t (bxN bx y.xs) (rwN rw_ y.bs) b → Mut s bx rw_ b := by
    rintro b (⟨k, B', hk, e⟩ | ⟨r, R', hr, hb⟩)
    · obtain ⟨_, kg, B, _, hB, _, e2⟩ := keyB k B' hk
      exact .inl ⟨kg.1, B, hB, by rw [← e2]; exact e⟩
    · obtain ⟨q, R, _, hR, hb'⟩ := keyR2 r R' hr b hb
      exact .inr ⟨q, R, hR, hb'⟩
  have hFF : ∀ b, FF E s bx rw_ W b → FF E' t (bxN bx y.xs) (rwN rw_ y.bs) W b := fun b hb => ⟨hF b hb, hb.2.1, fun hm => hb.2.2 (hMut b hm)⟩
  have hlt : ∀ r R b, look s.rows r = some R → ob (rw_ r R.gen) = some b → b < W.heap.size := by
    intro r R b hR hb
    obtain ⟨_, us, hown, _⟩ := hS.rows r R hR
    exact hown.lt hb
  have hN : ∀ F : Nat → Prop, Names Θ W F bx (bxN bx y.xs) rw_ (rwN rw_ y.bs) y.bs y.xs := by
    intro F
    refine ⟨fun p hp => ?_, fun r c u hm hu => ?_⟩
    · simp only [bxN, ht.one p hp]
    · have hb := ht.bok _ hm
      obtain ⟨c', hl, hsame⟩ := ht.bone _ hm
      simp only at hl hb hsame
      simp only [rwN, hl]
      rcases hsame with e | hsame
      · subst e
        cases c' with
        | row q g => exact hu
        | nil => exact hu
        | _ => simp [bindOk] at hb
      · cases c' <;> cases c <;> simp [bindSame] at hsame
        · exact hu
        · obtain ⟨e1, e2⟩ := hsame
          subst e1 e2
          exact hu
  -- what is picked as plain is plain
  have hgood : ∀ (l : Leaf) (c : CV Θ.T) (pv : PV Θ.T), (∃ z, s.get l c = some z ∧ pv = l.mk z) → c ∈ y.hs → Good Θ W (FF E s bx rw_ W) (FF E' t (bxN bx y.xs) (rwN rw_ y.bs) W) bx rw_ c pv := by
    rintro l c pv ⟨z, hz, rfl⟩ hmem u hu
    refine leaf_ok hS hFF hz hu ?_
    intro pr hpr R b hR hb
    have hap := ht.hap c hmem
    cases c with
    | row q0 g0 =>
      simp only [CV.mR, List.mem_singleton] at hpr
      subst hpr
      simp only at hR hb
      refine ⟨hH q0 g0 R b hmem hR hb, hlt _ _ _ hR hb, ?_⟩
      rintro (⟨k, B', hk, e⟩ | ⟨r, R', hr, hb'⟩)
      · obtain ⟨_, kg, B, _, hB, _, e2⟩ := keyB k B' hk
        exact hS.br kg.1 B q0 R hB hR (by rw [hb, ← e, e2])
      · obtain ⟨q, R2, hlk, hR2, hb2⟩ := keyR2 r R' hr b hb'
        have := hS.rr q0 R q R2 b hR hR2 hb hb2
        simp only [holeApart, List.all_eq_true] at hap
        have h4 := hap _ (mem_of_look hlk)
        simp at h4
        exact h4 this
    | _ => simp [CV.mR] at hpr
  have hgoods : ∀ (ls : List Leaf) (cs : List (CV Θ.T)) (ps : List (PV Θ.T)), All3 (fun l c p => ∃ z, s.get l c = some z ∧ p = l.mk z) ls cs ps → (∀ c ∈ cs, c ∈ y.hs) → All2 (Good Θ W (FF E s bx rw_ W) (FF E' t (bxN bx y.xs) (rwN rw_ y.bs) W) bx rw_) cs ps := by
    intro ls cs ps h3 hc
    induction h3 with
    | nil => exact .nil
    | cons h t ih => exact .cons (hgood _ _ _ h (hc _ (by simp))) (ih fun c hc' => hc c (by simp [hc']))
  have gd1 := hgoods _ _ _ g1 fun c hc => by rw [e1]; exact List.mem_append_left _ hc
  have gd2 := hgoods _ _ _ g2 fun c hc => by rw [e1]; exact List.mem_append_right _ hc
  have hN1 := hN (FF E s bx rw_ W)
  obtain ⟨p0, hp0, hph, hpb, hpx⟩ := pickS_split hp
  rw [hph] at gd1
  obtain ⟨vs', f1, fl, fr⟩ := fillAs_ok hFF _ _ _ hp0 (hN1.part (fun c hc => by rw [e2]; exact List.mem_append_left _ (hpb c hc)) (fun c hc => by rw [e3]; exact List.mem_append_left _ (hpx c hc))) ps1 gd1 (ps2 ++ ps3)
  obtain ⟨bs', f2, fb⟩ := fillBs_ok y.xs _ _ _ hq (hN1.part (fun c hc => by rw [e2]; exact List.mem_append_right _ hc) (fun c hc => by rw [e3]; exact List.mem_append_right _ hc)) (fun k v hv => by rw [e3]; exact hv) ps2 gd2 ps3
  rw [f1] at t1
  rw [f2] at t2
  simp only at t1 t2
  refine ⟨hK, fun k b hkb => ?_, fun r v hrv => ?_, ?_, ?_, ?_, ?_, ?_, ?_, by rw [t1, fl, hS.len], ?_⟩
  · obtain ⟨h1, h2⟩ := hPB k b hkb
    exact ⟨h1, fun B hB _ => h2 B hB⟩
  · obtain ⟨h1, h2⟩ := hPR r v hrv
    exact ⟨h1, fun R hR _ => h2 R hR⟩
  · intro r g
    simp only [rwN]
    split
    · exact hS.rwsl _ _
    · exact ⟨_, _, _, rfl⟩
  · intro k B' hk
    obtain ⟨hg0, kg0, B0, hl0, hB0, hgg, e0⟩ := keyB k B' hk
    have hown := hOB k B' hk
    rw [t2] at hk
    obtain ⟨kg, B, hl, hB, hg, hg', hty, hr⟩ := fb k B' hk
    rw [hl0] at hl
    cases hl
    rw [hB0] at hB
    cases hB
    obtain ⟨h1, cv, hh, ha⟩ := hS.boxes kg0.1 B0 hB0
    rw [e0]
    refine ⟨?_, cv, by rw [hty]; exact hh, hr cv ha⟩
    have : bxN bx y.xs k 0 = bx kg0.1 B0.gen := by rw [← e0, hg0]
    rw [← this]; exact hown
  · intro r R' hr
    have hr0 := hr
    obtain ⟨c, hl, hg, hget⟩ := ht.keyR r R' (by rw [hteq]; exact hr)
    have hbo := ht.bok _ (mem_of_look hl)
    refine ⟨fun b hb => hOR r R' b hr (by rw [← hg]; exact hb), ?_⟩
    cases c with
    | nil =>
      have hrw : rwN rw_ y.bs r R'.gen = .slice none 0 0 := by simp only [rwN, hl]
      simp only [St.get] at hget
      have hl0 : R'.l = [] := (Option.some.inj hget).symm
      rw [hrw, hl0]
      exact ⟨[], Owns.nil, .nil⟩
    | row q g =>
      simp only [bindOk] at hbo
      split at hbo
      · rename_i R hR
        have hgq : R.gen = g := by simpa using hbo
        subst hgq
        have hrw : rwN rw_ y.bs r R'.gen = rw_ q R.gen := by simp only [rwN, hl]
        simp only [St.get, hR, if_true] at hget
        have hget' : ∃ he : R.e = R'.e, R'.l = he ▸ R.l := by
          simp only [Leaf.get] at hget
          split at hget
          · rename_i he
            exact ⟨he, by injection hget with h; exact h.symm⟩
          · cases hget
        obtain ⟨he, hel⟩ := hget'
        obtain ⟨_, us, hown, har⟩ := hS.rows q R hR
        rw [hrw]
        obtain ⟨g', e', l'⟩ := R'
        simp only at he hel ⊢
        subst he
        simp only at hel
        subst hel
        exact ⟨us, hown, har.mono fun x u hx => Rep.mono hx hFF (fun _ _ => rfl)⟩
      · cases hbo
    | _ => simp [bindOk] at hbo
  · intro k B' k' B2' hk hk' he
    obtain ⟨_, kg, B, hl, hB, _, e1⟩ := keyB k B' hk
    obtain ⟨_, kg2, B2, hl2, hB2, _, e2⟩ := keyB k' B2' hk'
    have hbb := hS.bb kg.1 B kg2.1 B2 hB hB2 (by rw [← e1, ← e2]; exact he)
    by_cases hkk : k = k'
    · exact hkk
    · exact absurd hbb (ht.apart _ (mem_of_look hl) _ (mem_of_look hl2) hkk)
  · intro r R' r' R2' b hr hr' hb hb'
    obtain ⟨q, R, hlk, hR, hb1⟩ := keyR2 r R' hr b hb
    obtain ⟨q', R2, hlk', hR2, hb2⟩ := keyR2 r' R2' hr' b hb'
    have hqq := hS.rr q R q' R2 b hR hR2 hb1 hb2
    by_cases hrr : r = r'
    · exact hrr
    · have := ht.bap _ (mem_of_look hlk) _ (mem_of_look hlk') hrr
      simp [bindApart] at this
      exact absurd hqq this
  · intro k B' r R' hk hr he
    obtain ⟨_, kg, B, _, hB, _, e1⟩ := keyB k B' hk
    obtain ⟨q, R, hlk, hR, hb1⟩ := keyR2 r R' hr _ he
    exact hS.br kg.1 B q R hB hR (by rw [hb1, e1])
  · intro i
    have := fr i (tm.getD i undef) (hS.slots i)
    rw [← t1] at this
    exact this
/-- The same, in the same environment: at joins, loops, ends. -/
theorem ext_ok (hS : Sim Θ E s tm W bx rw_) {h : Shape} {x : h.X Θ.T} (hx : h.ext s = some x) : ∃ bx' rw', Sim Θ E (h.st x) tm W bx' rw' := by
  unfold Shape.ext at hx
  split at hx <;> try (cases hx; done)
  rename_i y hy
  split at hx <;> try (cases hx; done)
  rename_i hpin
  cases hx
  have ht := told hy
  simp only [pinsOk, Bool.and_eq_true, List.all_eq_true] at hpin
  obtain ⟨hp1, hp2⟩ := hpin
  refine ⟨_, _, ext_base hS hy E hS.below (fun b hb => hb.1) (fun q g R b _ hR hb => .inr ((hS.rows q R hR).1 b hb)) (fun k B' hk => ?_) (fun r R' b hr hb => ?_) (fun k b hkb => ?_) (fun r v hrv => ?_)⟩
  · obtain ⟨_, kg, B, hl, hB, hg, _⟩ := ht.keyB k B' hk
    have : bxN bx y.xs k 0 = bx kg.1 B.gen := by simp only [bxN, hl, hg]
    rw [this]; exact (hS.boxes _ B hB).1
  · obtain ⟨c, hl, hg, _⟩ := ht.keyR r R' hr
    simp only [rwN, hl] at hb
    cases c with
    | row q g =>
      have hbo := ht.bok _ (mem_of_look hl)
      simp only [bindOk] at hbo
      split at hbo
      · rename_i R hR
        have : R.gen = g := by simpa using hbo
        subst this
        exact (hS.rows q R hR).1 b hb
      · cases hbo
    | _ => simp [ob] at hb
  · obtain ⟨h1, h2⟩ := hS.pinB k b hkb
    refine ⟨h1, fun B' hk => ?_⟩
    obtain ⟨_, kg, B, hl, hB, hg, _⟩ := ht.keyB k B' hk
    have := hp1 _ (mem_of_look hl)
    simp only [Bool.or_eq_true, Nat.blt_eq, Bool.and_eq_true, beq_iff_eq] at this
    rcases this with h | ⟨e1, e2⟩
    · omega
    · rw [← e1] at hB
      have := h2 B hB (by rw [hg, e2])
      simp only [bxN, hl, ← e1, e2]; exact this
  · obtain ⟨h1, h2⟩ := hS.pinR r v hrv
    refine ⟨h1, fun R' hr => ?_⟩
    obtain ⟨c, hl, hg, _⟩ := ht.keyR r R' hr
    have := hp2 _ (mem_of_look hl)
    simp only [h1, Bool.not_true, Bool.false_or] at this
    cases c with
    | row q g =>
      simp only [Bool.and_eq_true, beq_iff_eq] at this
      obtain ⟨e1, e2⟩ := this
      have hbo := ht.bok _ (mem_of_look hl)
      simp only [bindOk] at hbo
      split at hbo
      · rename_i R hR
        have hgg : R.gen = g := by simpa using hbo
        rw [← e1] at hR
        have := h2 R hR (by rw [hgg, e2])
        simp only [rwN, hl, ← e1, e2]; exact this
      · cases hbo
    | _ => simp at this
end
end Go.Den
