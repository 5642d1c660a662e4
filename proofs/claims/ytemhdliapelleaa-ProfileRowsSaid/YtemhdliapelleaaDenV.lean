/- Behind a call: the theorem. -/
import Derived.Test.YtemhdliapelleaaDenU
namespace Go.Den
open Go Go.RowKit

section
variable {Θ : Tab} {E : Env} {s : St Θ.T} {tm : Array Value} {W : World} {bx : Nat → Nat → Nat} {rw_ : Nat → Nat → Value}
/-- What a callee stands on. -/
def callEnv (E : Env) (s : St Θ.T) (W : World) (bx : Nat → Nat → Nat) (rw_ : Nat → Nat → Value) (hin : Shape) (y : Ext Θ.T hin) (flat : Bool) : Env where
  w0 := W
  Z := fun b => Mut (hin.st y.x) (bxN bx y.xs) (rwN rw_ y.bs) b
  F := fun b => FF E s bx rw_ W b ∨ (flat = true ∧ b < W.heap.size ∧ ¬ Mut (hin.st y.x) (bxN bx y.xs) (rwN rw_ y.bs) b)
  PB := fun k b => pin ≤ k ∧ ∃ B', look (hin.st y.x).boxes k = some B' ∧ b = bxN bx y.xs k 0
  PR := fun r v => pinned r = true ∧ ∃ R', look (hin.st y.x).rows r = some R' ∧ v = rwN rw_ y.bs r 0
  D := []
def notRow {T : TypeId → Type} : CV T → Bool
  | .row _ _ => false
  | _ => true
/-- What is lent is of the caller's own. -/
theorem lent_mut {avs : List (AV Θ.T)} {hin : Shape} {y : Ext Θ.T hin} (hy : hin.extB ⟨avs, s.boxes, s.rows⟩ = some y) {b : Nat} (h : Mut (hin.st y.x) (bxN bx y.xs) (rwN rw_ y.bs) b) :
    (∃ k B kg, keyIn hin.boxes k = true ∧ look y.xs k = some kg ∧ look s.boxes kg.1 = some B ∧ B.gen = kg.2 ∧ bx kg.1 B.gen = b) ∨ (∃ r q R, keyIn hin.rows r = true ∧ look y.bs r = some (.row q R.gen) ∧ look s.rows q = some R ∧ ob (rw_ q R.gen) = some b) := by
  have ht := told hy
  obtain ⟨p, q, cs, ps1, ps2, ps3, _, _, _, _, _, _, _, _, _, _, t2, t3⟩ := fill_split hy
  rcases h with ⟨k, B', hk, e⟩ | ⟨r, R', hr, hb⟩
  · obtain ⟨h0, kg, B, h2, h3, h4, _⟩ := ht.keyB k B' hk
    rw [t2] at hk
    obtain ⟨_, t, ht', e'⟩ := fillBs_keys _ _ _ _ hk
    refine .inl ⟨k, B, kg, ?_, h2, h3, h4, ?_⟩
    · have : ∀ l : List (Nat × Nat × List CT), t ∈ l → keyIn l k = true := by
        intro l
        induction l with
        | nil => intro h; cases h
        | cons x l ih =>
          intro h
          simp only [keyIn, Bool.or_eq_true, beq_iff_eq]
          rcases List.mem_cons.1 h with h | h
          · left; rw [← h]; exact e'
          · exact .inr (ih h)
      exact this _ ht'
    · rw [← e]; simp only [bxN, h2, h4]
  · obtain ⟨c, hl, hg, _⟩ := ht.keyR r R' hr
    simp only [rwN, hl] at hb
    cases c with
    | row q g =>
      have hbo := ht.bok _ (mem_of_look hl)
      simp only [bindOk] at hbo
      split at hbo
      · rename_i R hR
        have : R.gen = g := by simpa using hbo
        subst this
        refine .inr ⟨r, q, R, ?_, hl, hR, hb⟩
        rw [t3] at hr
        have : ∀ (ts : List (Nat × Nat)) (ps : List (PV Θ.T)), look (fillRs ts ps) r = some R' → keyIn ts r = true := by
          intro ts
          induction ts with
          | nil => intro ps h; simp [fillRs, look] at h
          | cons t ts ih =>
            intro ps h
            cases ps with
            | nil => simp [fillRs, look] at h
            | cons p ps =>
              simp only [keyIn, Bool.or_eq_true, beq_iff_eq]
              simp only [fillRs, look] at h
              split at h
              · rename_i e; exact .inl e
              · exact .inr (ih ps h)
        exact this _ _ hr
      · cases hbo
    | _ => simp [ob] at hb
theorem lent_own (hS : Sim Θ E s tm W bx rw_) {avs : List (AV Θ.T)} {hin : Shape} {y : Ext Θ.T hin} (hy : hin.extB ⟨avs, s.boxes, s.rows⟩ = some y) {b : Nat} (h : Mut (hin.st y.x) (bxN bx y.xs) (rwN rw_ y.bs) b) : Mut s bx rw_ b ∧ E.Own b ∧ b < W.heap.size := by
  rcases lent_mut hy h with ⟨k, B, kg, _, _, hB, hg, e⟩ | ⟨r, q, R, _, _, hR, hb⟩
  · obtain ⟨h1, cv, hh, _⟩ := hS.boxes kg.1 B hB
    rw [e] at h1 hh
    exact ⟨.inl ⟨kg.1, B, hB, e⟩, h1, (Array.getElem?_eq_some_iff.1 hh).1⟩
  · obtain ⟨h1, us, hown, _⟩ := hS.rows q R hR
    exact ⟨.inr ⟨q, R, hR, hb⟩, h1 b hb, hown.lt hb⟩
/-- The callee's first state. -/
theorem entry_sim (hS : Sim Θ E s tm W bx rw_) {avs : List (AV Θ.T)} {vs : List Value} (hav : All2 (RAV Θ W (FF E s bx rw_ W) bx rw_) avs vs) {hin : Shape} {y : Ext Θ.T hin} (hy : hin.extB ⟨avs, s.boxes, s.rows⟩ = some y) (flat : Bool) (hnr : flat = true ∨ ∀ c ∈ y.hs, notRow c = true) :
    Sim Θ (callEnv E s W bx rw_ hin y flat) (hin.st y.x) vs.toArray W (bxN bx y.xs) (rwN rw_ y.bs) := by
  have hS1 : Sim Θ E ⟨avs, s.boxes, s.rows⟩ vs.toArray W bx rw_ := by
    refine ⟨hS.below, hS.pinB, hS.pinR, hS.rwsl, hS.boxes, hS.rows, hS.bb, hS.rr, hS.br, by simp [hav.length], fun i => ?_⟩
    simp only [St.at_, List.getD_eq_getElem?_getD, Array.getD_eq_getD_getElem?, List.getElem?_toArray]
    cases hi : avs[i]? with
    | none =>
      exact trivial
    | some v =>
      obtain ⟨u, hu, hr⟩ := hav.get i hi
      simp only [hu, Option.getD_some]
      exact hr
  refine ext_base hS1 hy _ ⟨rfl, rfl, rfl, Nat.le_refl _, fun _ _ _ => rfl⟩ (fun b hb => .inl (.inl hb)) (fun q g R b hm hR hb => ?_) (fun k B' hk => ?_) (fun r R' b hr hb => ?_) (fun k b hkb => ?_) (fun r v hrv => ?_)
  · rcases hnr with hfl | hnr
    · by_cases hz : Mut (hin.st y.x) (bxN bx y.xs) (rwN rw_ y.bs) b
      · exact .inr (.inl hz)
      · obtain ⟨_, us, hown, _⟩ := hS.rows q R hR
        exact .inl (.inr ⟨hfl, hown.lt hb, hz⟩)
    · have := hnr _ hm; simp [notRow] at this
  · have h0 := ((told hy).keyB k B' hk).1
    exact .inl (.inl ⟨k, B', hk, by rw [h0]⟩)
  · obtain ⟨c, _, h0, _⟩ := (told hy).keyR r R' hr
    exact .inl (.inr ⟨r, R', hr, by rw [h0]; exact hb⟩)
  · obtain ⟨h1, B', _, e⟩ := hkb
    exact ⟨h1, fun _ _ => e.symm⟩
  · obtain ⟨h1, B', _, e⟩ := hrv
    exact ⟨h1, fun _ _ => e.symm⟩

/-! ### The names behind a call -/
def invB : List (Nat × Nat × Nat) → Nat → Nat → Option Nat
  | [], _, _ => none
  | p :: r, k, g => if p.2.1 = k ∧ p.2.2 = g then some p.1 else invB r k g
def invR {T : TypeId → Type} : List (Nat × CV T) → Nat → Nat → Option Nat
  | [], _, _ => none
  | p :: r, k, g => match p.2 with
    | .row q g' => if q = k ∧ g' = g then some p.1 else invR r k g
    | _ => invR r k g
theorem invB_some {l : List (Nat × Nat × Nat)} {k g k2 : Nat} (h : invB l k g = some k2) : (k2, k, g) ∈ l := by
  induction l with
  | nil => cases h
  | cons p l ih =>
    simp only [invB] at h
    split at h
    · rename_i e; cases h; obtain ⟨a, b, c⟩ := p; simp only at e; rw [← e.1, ← e.2]; simp
    · exact List.mem_cons_of_mem _ (ih h)
theorem invB_of {l : List (Nat × Nat × Nat)} (hn : apartKs (boxKs l) = true) {k g k2 : Nat} (h : (k2, k, g) ∈ l) : invB l k g = some k2 := by
  cases hi : invB l k g with
  | some k3 =>
    have := boxKs_inj hn h (invB_some hi) rfl
    cases this; rfl
  | none =>
    exfalso
    induction l with
    | nil => cases h
    | cons p l ih =>
      simp only [invB] at hi
      split at hi
      · cases hi
      · rename_i hne
        rcases List.mem_cons.1 h with h | h
        · rw [← h] at hne; simp at hne
        · simp only [boxKs, apartKs, Bool.and_eq_true] at hn
          exact ih hn.2 h hi
theorem invR_some {T : TypeId → Type} {l : List (Nat × CV T)} {k g k2 : Nat} (h : invR l k g = some k2) : (k2, CV.row k g) ∈ l := by
  induction l with
  | nil => cases h
  | cons p l ih =>
    obtain ⟨a, c⟩ := p
    simp only [invR] at h
    split at h
    · split at h
      · rename_i e; cases h; rw [e.1, e.2]; simp
      · exact List.mem_cons_of_mem _ (ih h)
    · exact List.mem_cons_of_mem _ (ih h)
theorem invR_of {T : TypeId → Type} {l : List (Nat × CV T)} (hn : apartKs (rowKs l) = true) {k g k2 : Nat} (h : (k2, CV.row k g) ∈ l) : invR l k g = some k2 := by
  cases hi : invR l k g with
  | some k3 =>
    obtain ⟨e, _⟩ := rowKs_inj hn h (invR_some hi)
    rw [e]
  | none =>
    exfalso
    induction l with
    | nil => cases h
    | cons p l ih =>
      obtain ⟨a, c⟩ := p
      rcases List.mem_cons.1 h with h1 | h1
      · cases h1
        simp [invR] at hi
      · cases c with
        | row q g' =>
          simp only [invR] at hi
          split at hi
          · cases hi
          · simp only [rowKs, apartKs, Bool.and_eq_true] at hn
            exact ih hn.2 h1 hi
        | _ => simp only [invR] at hi; simp only [rowKs] at hn; exact ih hn h1 hi
def bxA (bx bx2 : Nat → Nat → Nat) (nB : List (Nat × Nat × Nat)) (k g : Nat) : Nat := match invB nB k g with
  | some k2 => bx2 k2 0
  | none => bx k g
def rwA {T : TypeId → Type} (rw_ rw2 : Nat → Nat → Value) (nR : List (Nat × CV T)) (r g : Nat) : Value := match invR nR r g with
  | some r2 => rw2 r2 0
  | none => rw_ r g

theorem flatC_rep {F F' : Nat → Prop} {W : World} {c : CV Θ.T} {u : Value} (hc : flatC c = true) (h : RCV Θ W F bx rw_ c u) : RCV Θ W F' bx rw_ c u := by
  cases c with
  | v p =>
    cases p with
    | int k n => cases h; exact .int _ _
    | bool b => cases h; exact .bool _
    | str b => cases h; exact .str _
    | sl e l => simp [flatC] at hc
  | _ => exact h
theorem flatCs_rep {F F' : Nat → Prop} {W : World} {cs : List (CV Θ.T)} {us : List Value} (hc : cs.all flatC = true) (h : All2 (RCV Θ W F bx rw_) cs us) : All2 (RCV Θ W F' bx rw_) cs us := by
  induction h with
  | nil => exact .nil
  | cons h _ ih =>
    simp only [List.all_cons, Bool.and_eq_true] at hc
    exact .cons (flatC_rep hc.1 h) (ih hc.2)
theorem flat_rep {F F' : Nat → Prop} {W : World} {l : Leaf} {z : l.Ty Θ.T} {u : Value} (hl : l.flat = true) (h : Rep Θ W F u (l.mk z)) : Rep Θ W F' u (l.mk z) := by
  cases l with
  | int k => cases h; exact .int _ _
  | bool => cases h; exact .bool _
  | str => cases h; exact .str _
  | sl e => simp [Leaf.flat] at hl
theorem flat_mem : ∀ (ls : List Leaf) (x : HT (Leaf.Ty Θ.T) ls), ls.all Leaf.flat = true → ∀ p ∈ HT.list Leaf.mk ls x, ∃ (l : Leaf) (z : l.Ty Θ.T), l.flat = true ∧ p = l.mk z := by
  intro ls
  induction ls with
  | nil => intro x _ p hp; cases hp
  | cons l ls ih =>
    intro x hl p hp
    simp only [List.all_cons, Bool.and_eq_true] at hl
    cases ls with
    | nil =>
      have : p = l.mk x := by simpa [HT.list] using hp
      exact ⟨l, x, hl.1, this⟩
    | cons l2 ls =>
      have : p = l.mk x.1 ∨ p ∈ HT.list Leaf.mk (l2 :: ls) x.2 := by simpa [HT.list] using hp
      rcases this with h | h
      · exact ⟨l, x.1, hl.1, h⟩
      · exact ih x.2 hl.2 p h
theorem flat_elems {F F' : Nat → Prop} {W : World} {e : TypeId} (he : flatE Θ e = true) {l : List (Θ.T e)} {us : List Value} (h : All2 (fun p u => Rep Θ W F u p) (l.flatMap (Θ.enc e)) us) : All2 (fun p u => Rep Θ W F' u p) (l.flatMap (Θ.enc e)) us := by
  refine All2.of_get h.length (fun i p u hp hu => ?_)
  obtain ⟨u', hu', hr⟩ := h.get i hp
  rw [hu] at hu'; cases hu'
  obtain ⟨y, _, hm⟩ := List.mem_flatMap.1 (List.mem_of_getElem? hp)
  obtain ⟨lf, z, h1, rfl⟩ := flat_mem _ _ he p hm
  exact flat_rep h1 hr
/-- A flat state stands on any blocks. -/
theorem Sim.flatten {E' : Env} (F2 : Nat → Prop) (hS : Sim Θ E s tm W bx rw_) (hf : s.flat (flatE Θ) = true) (hE : E' = { E with F := F2 }) : Sim Θ E' s tm W bx rw_ := by
  subst hE
  simp only [St.flat, Bool.and_eq_true, List.all_eq_true] at hf
  obtain ⟨h1, h2, h3⟩ := hf
  refine ⟨⟨hS.below.os, hS.below.tape, hS.below.output, hS.below.size, hS.below.block⟩, hS.pinB, hS.pinR, hS.rwsl, fun k B hB => ?_, fun r R hR => ?_, hS.bb, hS.rr, hS.br, hS.len, fun i => ?_⟩
  · obtain ⟨a1, cv, hh, ha⟩ := hS.boxes k B hB
    exact ⟨a1, cv, hh, flatCs_rep (List.all_eq_true.2 (h2 _ (mem_of_look hB))) ha⟩
  · obtain ⟨a1, us, ho, ha⟩ := hS.rows r R hR
    exact ⟨a1, us, ho, flat_elems (h3 _ (mem_of_look hR)) ha⟩
  · have hi := hS.slots i
    have hfl : flatA (s.at_ i) = true := by
      unfold St.at_
      rw [List.getD_eq_getElem?_getD]
      cases hq : s.slots[i]? with
      | none => rfl
      | some v => exact h1 v (List.mem_of_getElem? hq)
    revert hi hfl
    generalize s.at_ i = v
    generalize tm.getD i undef = u
    intro hi hfl
    cases v with
    | c x => exact flatC_rep hfl hi
    | agg cs => obtain ⟨us, e, ha⟩ := hi; exact ⟨us, e, flatCs_rep hfl ha⟩
    | rel r g j sz off => exact hi
    | undef => exact trivial
    | _ => simp [flatA] at hfl
end
end Go.Den
