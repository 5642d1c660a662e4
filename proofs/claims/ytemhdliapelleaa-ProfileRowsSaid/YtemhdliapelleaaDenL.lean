/- One region, in the text's order: the machine does what 'den' says. -/
import Derived.Test.YtemhdliapelleaaDenJ
namespace Go.Den
open Go Go.RowKit

/-- The state s stands for the machine's. -/
def At (Θ : Tab) (E : Env) (s : St Θ.T) (a : Act) (W : World) : Prop := a.defers = E.D ∧ ∃ bx rw_, Sim Θ E s a.tmps W bx rw_
section
variable {C : Cx} {E : Env} {s s' : St C.Θ.T} {a : Act} {W : World} {bx : Nat → Nat → Nat} {rw_ : Nat → Nat → Value}
theorem Sim.boxlt (hS : Sim C.Θ E s a.tmps W bx rw_) {k : Nat} {B : BoxS C.Θ.T} (hB : look s.boxes k = some B) : bx k B.gen < W.heap.size := by
  obtain ⟨_, cv, hh, _⟩ := hS.boxes k B hB
  exact (Array.getElem?_eq_some_iff.1 hh).1
theorem Sim.rowlt (hS : Sim C.Θ E s a.tmps W bx rw_) {r : Nat} {R : RowS C.Θ.T} {b : Nat} (hR : look s.rows r = some R) (hb : ob (rw_ r R.gen) = some b) : E.Own b ∧ b < W.heap.size := by
  obtain ⟨h1, us, hown, _⟩ := hS.rows r R hR
  exact ⟨h1 b hb, hown.lt hb⟩
theorem put_at {s1 : St C.Θ.T} {d : Option Nat} {v : AV C.Θ.T} {u : Value} {a : Act} {W : World} (hd : a.defers = E.D) (hS : Sim C.Θ E s1 a.tmps W bx rw_) (hv : RAV C.Θ W (FF E s1 bx rw_ W) bx rw_ v u) : At C.Θ E (s1.put d v) (a.put d u) W := by
  cases d with
  | none => exact ⟨hd, bx, rw_, hS⟩
  | some d => exact ⟨hd, bx, rw_, Sim.put hS d hv⟩
theorem put_skip (h : At C.Θ E s a W) (d : Option Nat) : At C.Θ E (s.put d .skip) (a.put d undef) W := by
  obtain ⟨hd, bx, rw_, hS⟩ := h
  exact put_at hd hS rfl
theorem sums_args {F : Nat → Prop} {l : List (CV C.Θ.T ⊕ List (CV C.Θ.T))} {us : List Value} (h : All2 (RSum C.Θ W F bx rw_) l us) : All2 (RAV C.Θ W F bx rw_) (l.map sumAV) us := by
  induction h with
  | nil => exact .nil
  | cons h t ih =>
    rename_i x _ _ _
    refine .cons ?_ ih
    cases x <;> exact h
end
section
variable {Θ : Tab}
theorem plain_pickC {c : CT} {x : CV Θ.T} {p : Pk Θ.T} (hp : c.plain = true) (h : pickC c x = some p) : p.bs = [] ∧ p.xs = [] ∧ ∀ y ∈ p.hs, y = x := by
  cases c <;> simp only [pickC] at h
  case hole l => cases h; exact ⟨rfl, rfl, fun y hy => by simpa using hy⟩
  case nil => split at h <;> cases h; exact ⟨rfl, rfl, fun y hy => by cases hy⟩
  case e0 => split at h <;> cases h; exact ⟨rfl, rfl, fun y hy => by cases hy⟩
  case np => split at h <;> cases h; exact ⟨rfl, rfl, fun y hy => by cases hy⟩
  case row r => simp [CT.plain] at hp
  case box k off => simp [CT.plain] at hp
  case fn f caps =>
    split at h <;> try (cases h; done)
    split at h <;> try (cases h; done)
    split at h <;> try (cases h; done)
    rename_i xs hxs
    cases h
    have hc : caps = [] := by simpa [CT.plain] using hp
    subst hc
    obtain ⟨hz, _⟩ := capsTo_spec _ _ _ hxs
    exact ⟨rfl, by rw [hz]; rfl, fun y hy => by cases hy⟩
theorem plain_pickCs : ∀ (ts : List CT) (cs : List (CV Θ.T)) (p : Pk Θ.T), ts.all CT.plain = true → pickCs ts cs = some p → p.bs = [] ∧ p.xs = [] ∧ ∀ y ∈ p.hs, y ∈ cs := by
  intro ts
  induction ts with
  | nil => intro cs p _ h; cases cs <;> simp [pickCs] at h; subst h; exact ⟨rfl, rfl, fun y hy => by cases hy⟩
  | cons t ts ih =>
    intro cs p hp h
    simp only [List.all_cons, Bool.and_eq_true] at hp
    cases cs with
    | nil => simp [pickCs] at h
    | cons c cs =>
      simp only [pickCs] at h
      split at h <;> try (cases h; done)
      rename_i p1 h1
      split at h <;> try (cases h; done)
      rename_i p2 h2
      cases h
      obtain ⟨a1, a2, a3⟩ := plain_pickC hp.1 h1
      obtain ⟨b1, b2, b3⟩ := ih cs p2 hp.2 h2
      refine ⟨by simp [Pk.and, a1, b1], by simp [Pk.and, a2, b2], fun y hy => ?_⟩
      rcases List.mem_append.1 hy with e | e
      · rw [a3 y e]; simp
      · exact List.mem_cons_of_mem _ (b3 y e)
theorem plain_pickA {a : AT} {v : AV Θ.T} {p : Pk Θ.T} (hp : a.plain = true) (h : pickA a v = some p) : p.bs = [] ∧ p.xs = [] ∧ ∀ y ∈ p.hs, ∀ q ∈ y.mR, q ∈ v.mR := by
  cases a with
  | undef => simp only [pickA, Option.some.injEq] at h; subst h; exact ⟨rfl, rfl, fun y hy => by cases hy⟩
  | c x =>
    simp only [pickA] at h
    split at h <;> try (cases h; done)
    obtain ⟨a1, a2, a3⟩ := plain_pickC hp h
    exact ⟨a1, a2, fun y hy q hq => by rw [a3 y hy] at hq; exact hq⟩
  | agg l =>
    simp only [pickA] at h
    split at h <;> try (cases h; done)
    obtain ⟨a1, a2, a3⟩ := plain_pickCs _ _ _ hp h
    exact ⟨a1, a2, fun y hy q hq => List.mem_flatMap.2 ⟨y, a3 y hy, hq⟩⟩
  | rel r sz off => simp [AT.plain] at hp
  | yld y l => simp [AT.plain] at hp
  | cel ls =>
    simp only [pickA] at h
    split at h <;> try (cases h; done)
    split at h <;> try (cases h; done)
    cases h
    refine ⟨rfl, rfl, fun y hy q hq => ?_⟩
    obtain ⟨x, _, rfl⟩ := List.mem_map.1 hy
    simp [CV.mR] at hq
theorem plain_pickAs : ∀ (ts : List AT) (vs : List (AV Θ.T)) (p : Pk Θ.T), ts.all AT.plain = true → pickAs ts vs = some p → p.bs = [] ∧ p.xs = [] ∧ ∀ y ∈ p.hs, ∀ q ∈ y.mR, ∃ v ∈ vs, q ∈ v.mR := by
  intro ts
  induction ts with
  | nil => intro cs p _ h; cases cs <;> simp [pickAs] at h; subst h; exact ⟨rfl, rfl, fun y hy => by cases hy⟩
  | cons t ts ih =>
    intro cs p hp h
    simp only [List.all_cons, Bool.and_eq_true] at hp
    cases cs with
    | nil => simp [pickAs] at h
    | cons c cs =>
      simp only [pickAs] at h
      split at h <;> try (cases h; done)
      rename_i p1 h1
      split at h <;> try (cases h; done)
      rename_i p2 h2
      cases h
      obtain ⟨a1, a2, a3⟩ := plain_pickA hp.1 h1
      obtain ⟨b1, b2, b3⟩ := ih cs p2 hp.2 h2
      refine ⟨by simp [Pk.and, a1, b1], by simp [Pk.and, a2, b2], fun y hy q hq => ?_⟩
      rcases List.mem_append.1 hy with e | e
      · exact ⟨c, by simp, a3 y e q hq⟩
      · obtain ⟨v, hv, hq⟩ := b3 y e q hq; exact ⟨v, List.mem_cons_of_mem _ hv, hq⟩
end
section
variable {C : Cx} {E : Env} {s s' : St C.Θ.T} {a : Act} {W : World} {bx : Nat → Nat → Nat} {rw_ : Nat → Nat → Value}
/-- A call made ready. -/
theorem ready_ok {rd : St C.Θ.T → AV C.Θ.T → Option (List (CV C.Θ.T))} {Γ : List (Nat × Spec C.Θ.T)} {g : Nat} {avs : List (AV C.Θ.T)} {r : Ready C.Θ.T} (h : ready (flatE C.Θ) rd Γ s g avs = some r) :
    (g, r.sp) ∈ Γ ∧ ((r.sp.hin.cel = true ∧ r.s = s ∧ plainIn r.sp.hin = true ∧ flatOuts (flatE C.Θ) r.sp.outs = true ∧ r.sp.hin.extB ⟨lendAs rd s (refKs avs) r.sp.hin.slots avs, [], []⟩ = some r.y) ∨
      (r.sp.hin.extB ⟨r.avs, r.s.boxes, r.s.rows⟩ = some r.y ∧ (flatOuts (flatE C.Θ) r.sp.outs = true ∨ ∀ c ∈ r.y.hs, notRow c = true) ∧ ((r.s = s ∧ r.avs = avs) ∨ ∃ ks, r.s = s.freeze ks ∧ r.avs = avs.map (frA s ks)))) := by
  have find : ∀ (Γ : List (Nat × Spec C.Θ.T)) (hit : Hit C.Θ.T), findSpec (flatE C.Θ) rd Γ g s avs = some hit → (g, hit.sp) ∈ Γ ∧ entryOf (flatE C.Θ) rd hit.sp s avs = some hit.y := by
    intro Γ
    induction Γ with
    | nil => intro hit h; cases h
    | cons p Γ ih =>
      intro hit h
      simp only [findSpec] at h
      split at h
      · rename_i hg
        split at h
        · rename_i y hy; cases h; exact ⟨by rw [← hg]; simp, hy⟩
        · obtain ⟨h1, h2⟩ := ih hit h; exact ⟨List.mem_cons_of_mem _ h1, h2⟩
      · obtain ⟨h1, h2⟩ := ih hit h; exact ⟨List.mem_cons_of_mem _ h1, h2⟩
  unfold ready at h
  split at h <;> try (cases h; done)
  rename_i hit hh
  obtain ⟨h1, h2⟩ := find _ _ hh
  unfold entryOf at h2
  split at h2
  · rename_i hcel
    split at h2 <;> try (cases h2; done)
    rename_i hpf
    simp only [Bool.and_eq_true] at hpf
    rw [if_pos (by simp [hpf.2])] at h
    cases h
    exact ⟨h1, .inl ⟨hcel, rfl, hpf.1, hpf.2, h2⟩⟩
  · split at h
    · rename_i hf
      cases h
      refine ⟨h1, .inr ⟨h2, ?_, .inl ⟨rfl, rfl⟩⟩⟩
      simp only [Bool.or_eq_true, List.all_eq_true] at hf
      exact hf
    · split at h <;> try (cases h; done)
      rename_i y hy
      split at h <;> try (cases h; done)
      rename_i hn
      cases h
      exact ⟨h1, .inr ⟨hy, .inr (by simpa using hn), .inr ⟨_, rfl, rfl⟩⟩⟩
theorem args_freeze (hS : Sim C.Θ E s a.tmps W bx rw_) {avs : List (AV C.Θ.T)} {vs : List Value} (hav : All2 (RAV C.Θ W (FF E s bx rw_ W) bx rw_) avs vs) (ks : List Nat) :
    All2 (RAV C.Θ W (FF E (s.freeze ks) bx rw_ W) bx rw_) (avs.map (frA s ks)) vs := by
  have hS1 : Sim C.Θ E ⟨avs, s.boxes, s.rows⟩ vs.toArray W bx rw_ := by
    refine ⟨hS.below, hS.pinB, hS.pinR, hS.rwsl, hS.boxes, hS.rows, hS.bb, hS.rr, hS.br, by simp [hav.length], fun i => ?_⟩
    simp only [St.at_, List.getD_eq_getElem?_getD, Array.getD_eq_getD_getElem?, List.getElem?_toArray]
    cases hi : avs[i]? with
    | none => exact trivial
    | some v =>
      obtain ⟨u, hu, hr⟩ := hav.get i hi
      simp only [hu, Option.getD_some]
      exact hr
  have h2 := hS1.freeze ks
  refine All2.of_get (by simp [hav.length]) (fun i v u hv hu => ?_)
  have := h2.slots i
  have e : (St.freeze (⟨avs, s.boxes, s.rows⟩ : St C.Θ.T) ks).at_ i = v := by
    simp only [St.freeze, St.at_, List.getD_eq_getElem?_getD]
    have : (avs.map (frA (⟨avs, s.boxes, s.rows⟩ : St C.Θ.T) ks))[i]? = some v := hv
    rw [this]; rfl
  rw [e] at this
  simp only [Array.getD_eq_getD_getElem?, List.getElem?_toArray, hu, Option.getD_some] at this
  exact this
theorem cellsAt_blk (hS : Sim C.Θ E s a.tmps W bx rw_) {x : AV C.Θ.T} {cs : List (CV C.Θ.T)} {ad : Addr} (h : s.cellsAt C.Θ x = some cs) (hr : RAV C.Θ W (FF E s bx rw_ W) bx rw_ x (.pointer (some ad))) :
    ad.spot = none ∧ (cs ≠ [] → (E.F ad.block ∨ E.Own ad.block) ∧ ad.block < W.heap.size) := by
  unfold St.cellsAt at h
  split at h <;> try (cases h; done)
  · rename_i k g off
    split at h <;> try (cases h; done)
    rename_i B hB
    split at h <;> try (cases h; done)
    rename_i hg
    subst hg
    cases hr
    exact ⟨rfl, fun _ => ⟨.inr (hS.boxes k B hB).1, hS.boxlt hB⟩⟩
  · obtain ⟨ad', e, hs, hf, _⟩ := hr
    cases e
    cases h
    refine ⟨hs, fun hne => ?_⟩
    have hf := hf fun e => hne (by rw [e]; rfl)
    exact ⟨hf.1, hf.2.1⟩
  · rename_i r g i sz off
    split at h <;> try (cases h; done)
    rename_i R hR
    split at h <;> try (cases h; done)
    rename_i hg
    subst hg
    obtain ⟨b, m, cap, e1, h0, h1, e⟩ := hr
    cases e
    have hob : ob (rw_ r R.gen) = some b := by
      obtain ⟨_, us, hown, _⟩ := hS.rows r R hR
      rw [e1]
      have hm : 0 < m := by omega
      rcases hown with h | ⟨ad, hv, _⟩
      · rcases h.2 with ⟨hv, _⟩ | ⟨g', cap', cur, hv, _, _, hc, _⟩
        · rw [e1] at hv; cases hv
        · rw [e1] at hv; cases hv
          have : cap ≠ 0 := by omega
          simp [ob, this]
      · rw [e1] at hv; cases hv; omega
    obtain ⟨h2, h3⟩ := hS.rowlt hR hob
    exact ⟨rfl, fun _ => ⟨.inr h2, h3⟩⟩
theorem leafs_get : ∀ (ls : List Leaf) (cs : List (CV C.Θ.T)) (xs : List (PV C.Θ.T)), leafs s ls cs = some xs → ∀ (j : Nat) (x : PV C.Θ.T), xs[j]? = some x → ∃ (l : Leaf) (c : CV C.Θ.T) (z : l.Ty C.Θ.T), cs[j]? = some c ∧ s.get l c = some z ∧ x = l.mk z := by
  intro ls
  induction ls with
  | nil => intro cs xs h j x hx; simp only [leafs, Option.some.injEq] at h; subst h; simp at hx
  | cons l ls ih =>
    intro cs xs h j x hx
    cases cs with
    | nil => simp [leafs] at h
    | cons c cs =>
      simp only [leafs] at h
      split at h <;> try (cases h; done)
      rename_i z hz
      split at h <;> try (cases h; done)
      rename_i r hr
      cases h
      cases j with
      | zero => simp at hx; exact ⟨l, c, z, by simp, hz, hx.symm⟩
      | succ j =>
        obtain ⟨l', c', z', h1, h2, h3⟩ := ih cs r hr j x (by simpa using hx)
        exact ⟨l', c', z', by simpa using h1, h2, h3⟩
/-- What a callee that only reads is handed. -/
theorem lend_ok (hS : Sim C.Θ E s a.tmps W bx rw_) {avs : List (AV C.Θ.T)} {vs : List Value} (hav : All2 (RAV C.Θ W (FF E s bx rw_ W) bx rw_) avs vs) (ks : List Nat) (ts : List AT) :
    Sim C.Θ E (⟨lendAs (St.cellsAt C.Θ) s ks ts avs, [], []⟩ : St C.Θ.T) vs.toArray W bx rw_ ∧ All2 (RAV C.Θ W (FF E (⟨lendAs (St.cellsAt C.Θ) s ks ts avs, [], []⟩ : St C.Θ.T) bx rw_ W) bx rw_) (lendAs (St.cellsAt C.Θ) s ks ts avs) vs := by
  have hFF : ∀ (l : List (AV C.Θ.T)) (b : Nat), (E.F b ∨ E.Own b) → b < W.heap.size → FF E (⟨l, [], []⟩ : St C.Θ.T) bx rw_ W b := by
    intro l b h1 h2
    refine ⟨h1, h2, ?_⟩
    rintro (⟨k, B, hB, _⟩ | ⟨r, R, hR, _⟩)
    · cases hB
    · cases hR
  have hle : ∀ (l : List (AV C.Θ.T)) (s' : St C.Θ.T) (b : Nat), FF E s' bx rw_ W b → FF E (⟨l, [], []⟩ : St C.Θ.T) bx rw_ W b := fun l s' b hb => hFF l b hb.1 hb.2.1
  have one : ∀ (l : List (AV C.Θ.T)) (t : AT) (v : AV C.Θ.T) (u : Value), RAV C.Θ W (FF E s bx rw_ W) bx rw_ v u → RAV C.Θ W (FF E (⟨l, [], []⟩ : St C.Θ.T) bx rw_ W) bx rw_ (lendA (St.cellsAt C.Θ) s ks t v) u := by
    intro l t v u h
    have same : RAV C.Θ W (FF E (⟨l, [], []⟩ : St C.Θ.T) bx rw_ W) bx rw_ v u := RAV.trans (hle l s) (fun _ _ => rfl) (fun _ _ => rfl) (fun _ _ => rfl) h
    have fr : RAV C.Θ W (FF E (⟨l, [], []⟩ : St C.Θ.T) bx rw_ W) bx rw_ (frA s ks v) u := by
      have := args_freeze hS (avs := [v]) (vs := [u]) (.cons h .nil) ks
      cases this with | cons h1 _ =>
      exact RAV.trans (hle l _) (fun _ _ => rfl) (fun _ _ => rfl) (fun _ _ => rfl) h1
    have cel : ∀ ls, RAV C.Θ W (FF E (⟨l, [], []⟩ : St C.Θ.T) bx rw_ W) bx rw_ (celA (St.cellsAt C.Θ) s ls v) u := by
      intro ls
      unfold celA
      split
      · rename_i cs hcs
        split
        · rename_i xs hxs
          obtain ⟨ad, us, rfl, ha, hc⟩ := cellsAt_ok hS hcs h
          obtain ⟨h1, h23⟩ := cellsAt_blk hS hcs h
          refine ⟨ad, rfl, h1, fun hne => ?_, fun j x hx => ?_⟩
          · have hne' : cs ≠ [] := by
              intro e
              apply hne
              cases xs with
              | nil => rfl
              | cons x xs =>
                obtain ⟨_, c, _, hj, _⟩ := leafs_get _ _ _ hxs 0 x (by simp)
                rw [e] at hj; simp at hj
            exact hFF l _ (h23 hne').1 (h23 hne').2
          obtain ⟨lf, c, z, hj, hz, rfl⟩ := leafs_get _ _ _ hxs j x hx
          obtain ⟨w, hw, hr⟩ := ha.get j hj
          refine ⟨w, hc j w hw, leaf_ok hS (hle l s) hz hr fun p hp R b hR hb => ?_⟩
          obtain ⟨g1, g2⟩ := hS.rowlt hR hb
          exact hFF l b (.inr g1) g2
        · exact same
      · exact same
    cases t with
    | cel ls =>
      cases v with
      | cel xs =>
        simp only [lendA]
        obtain ⟨ad, e, hs, hf, hc⟩ := same
        refine ⟨ad, e, hs, fun h => hf fun e => h (by rw [e]; simp), fun j x hx => hc j x ?_⟩
        rw [List.getElem?_take] at hx
        split at hx
        · exact hx
        · cases hx
      | _ => exact cel ls
    | _ => exact fr
  have all : ∀ (l : List (AV C.Θ.T)) (ts : List AT) (avs : List (AV C.Θ.T)) (vs : List Value), All2 (RAV C.Θ W (FF E s bx rw_ W) bx rw_) avs vs → All2 (RAV C.Θ W (FF E (⟨l, [], []⟩ : St C.Θ.T) bx rw_ W) bx rw_) (lendAs (St.cellsAt C.Θ) s ks ts avs) vs := by
    intro l ts
    induction ts with
    | nil =>
      intro avs vs h
      simp only [lendAs]
      exact h.mono fun v u h => RAV.trans (hle l s) (fun _ _ => rfl) (fun _ _ => rfl) (fun _ _ => rfl) h
    | cons t ts ih =>
      intro avs vs h
      cases h with
      | nil => exact .nil
      | cons h r => exact .cons (one l t _ _ h) (ih _ _ r)
  have h2 := all (lendAs (St.cellsAt C.Θ) s ks ts avs) ts avs vs hav
  refine ⟨⟨hS.below, fun k b hkb => ⟨(hS.pinB k b hkb).1, fun B hB => by cases hB⟩, fun r v hrv => ⟨(hS.pinR r v hrv).1, fun R hR => by cases hR⟩, hS.rwsl, fun k B hB => (by cases hB), fun r R hR => (by cases hR), fun k B k' B' hB => (by cases hB), fun r R r' R' b hR => (by cases hR), fun k B r R hB => (by cases hB), by simp [h2.length], fun i => ?_⟩, h2⟩
  simp only [St.at_, List.getD_eq_getElem?_getD, Array.getD_eq_getD_getElem?, List.getElem?_toArray]
  cases hi : (lendAs (St.cellsAt C.Θ) s ks ts avs)[i]? with
  | none => exact trivial
  | some v =>
    obtain ⟨u, hu, hr⟩ := h2.get i hi
    simp only [hu, Option.getD_some]
    exact hr
theorem after_congr {fe : TypeId → Bool} {hin hin' : Shape} {y : Ext C.Θ.T hin} {y' : Ext C.Θ.T hin'} (hb : hin.boxes = hin'.boxes) (hr : hin.rows = hin'.rows) (hx : y.xs = y'.xs) (hbs : y.bs = y'.bs) (t : St C.Θ.T) (flat : Bool) (dst : Option Nat) :
    after fe s hin y t flat dst = after fe s hin' y' t flat dst := by
  have eB : ∀ xs base l, renBs s hin xs base l = renBs s hin' xs base l := by
    intro xs base l
    induction l with
    | nil => rfl
    | cons b l ih => simp only [renBs, entB, hb, ih]
  have eR : ∀ bs base l, renRs s hin bs base l = renRs s hin' bs base l := by
    intro bs base l
    induction l with
    | nil => rfl
    | cons b l ih => simp only [renRs, entR, hr, ih]
  unfold after
  simp only [eB, eR, hb, hr, hx, hbs]
def y0bs {T : TypeId → Type} {h : Shape} (y : Ext T h) : Prop := y.bs = []
/-- A call: what its callee stands on; what holds behind it. -/
theorem call_env {Γ' : List (Nat × Spec C.Θ.T)} (hS : Sim C.Θ E s a.tmps W bx rw_) (hd : a.defers = E.D) {g : Nat} {avs : List (AV C.Θ.T)} {vs : List Value} (hav : All2 (RAV C.Θ W (FF E s bx rw_ W) bx rw_) avs vs) {r : Ready C.Θ.T} (hr : ready (flatE C.Θ) (St.cellsAt C.Θ) Γ' s g avs = some r) (hlent : r.sp.hin.lentOk = true) :
    ∃ (E' : Env) (bx1 : Nat → Nat → Nat) (rw1 : Nat → Nat → Value), E'.w0 = W ∧ E'.D = [] ∧ (∀ b, E'.Z b → Mut s bx rw_ b) ∧ Sim C.Θ E' (r.sp.hin.st r.y.x) vs.toArray W bx1 rw1 ∧
      ∀ (dst : Option Nat) (s' : St C.Θ.T) (z : Outs C.Θ.T r.sp.outs) (q : Ex × Shape) (x : q.2.X C.Θ.T), q.1 = .ret → after (flatE C.Θ) r.s r.sp.hin r.y (q.2.st x) (flatOuts (flatE C.Θ) r.sp.outs) dst = some s' → (∀ {B : Type} (g : Ex → Shape → St C.Θ.T → B), outTo r.sp.outs g z = g q.1 q.2 (q.2.st x)) →
      ∀ e w', Post C.Θ E' r.sp.outs z e w' → ∃ v, e = .returned v ∧ At C.Θ E s' (a.put dst v) w' := by
  obtain ⟨hm, hcase⟩ := ready_ok hr
  rcases hcase with ⟨_, ers, hpl, hfo, hy⟩ | ⟨hy, hnr, hcase⟩
  · -- what only reads
    obtain ⟨hSD, havD⟩ := lend_ok hS hav (refKs avs) r.sp.hin.slots
    have hent := entry_sim hSD havD hy true (.inl rfl)
    refine ⟨_, _, _, rfl, rfl, fun b hz => ?_, hent, fun dst s' z q x hq haf hto => ?_⟩
    · have hz : Mut (r.sp.hin.st r.y.x) (bxN bx r.y.xs) (rwN rw_ r.y.bs) b := hz
      simp only [plainIn, Bool.and_eq_true, List.isEmpty_iff] at hpl
      rcases hz with ⟨k, B, hB, _⟩ | ⟨k, B, hB, _⟩
      · unfold Shape.st Shape.mk' at hB; simp only [hpl.1.1] at hB; cases hB
      · unfold Shape.st Shape.mk' at hB; simp only [hpl.1.2] at hB; cases hB
    intro e w' hp
    unfold Post at hp
    rw [hto] at hp
    obtain ⟨_, us, bx2, rw2, rfl, hT⟩ := hp
    refine ⟨_, rfl, ?_⟩
    simp only [plainIn, Bool.and_eq_true, List.isEmpty_iff] at hpl
    obtain ⟨⟨hb0, hr0⟩, hsl⟩ := hpl
    have hyb : y0bs r.y ∧ r.y.xs = [] := by
      obtain ⟨p, q', cs, hp, hq', _, _, _, _, _, _, e2, e3⟩ := extB_split hy
      obtain ⟨p0, hp0, _⟩ := pickS_split hp
      have hpp : p = p0 := by
        unfold pickS at hp
        rw [hp0] at hp
        simpa using hp.symm
      subst hpp
      obtain ⟨a1, a2, _⟩ := plain_pickAs _ _ _ hsl hp0
      rw [hb0] at hq'
      simp only [pickBs, Option.some.injEq] at hq'
      subst hq'
      exact ⟨by unfold y0bs; rw [e2]; simp [Pk.and, a1], by rw [e3]; simp [Pk.and, a2]⟩
    have hst : (r.sp.hin.st r.y.x).boxes = [] ∧ (r.sp.hin.st r.y.x).rows = [] := by
      unfold Shape.st Shape.mk'
      simp only [hb0, hr0]
      exact ⟨rfl, rfl⟩
    have hfl : (q.2.st x).flat (flatE C.Θ) = true := by
      unfold after at haf
      split at haf
      · cases haf
      · rename_i hc
        rw [hfo] at hc
        simpa using hc
    let h0 : Shape := ⟨[], [], []⟩
    let y0 : Ext C.Θ.T h0 := ⟨(), [], [], []⟩
    have hy0 : h0.extB (⟨[], s.boxes, s.rows⟩ : St C.Θ.T) = some y0 := rfl
    have hmut : ∀ b, Mut (h0.st y0.x) (bxN bx y0.xs) (rwN rw_ y0.bs) b ↔ Mut (r.sp.hin.st r.y.x) (bxN bx r.y.xs) (rwN rw_ r.y.bs) b := by
      intro b
      constructor
      · rintro (⟨k, B, hB, _⟩ | ⟨k, B, hB, _⟩) <;> cases hB
      · rintro (⟨k, B, hB, _⟩ | ⟨k, B, hB, _⟩)
        · rw [hst.1] at hB; cases hB
        · rw [hst.2] at hB; cases hB
    have hE : callEnv E s W bx rw_ h0 y0 false = { callEnv E (⟨lendAs (St.cellsAt C.Θ) s (refKs avs) r.sp.hin.slots avs, [], []⟩ : St C.Θ.T) W bx rw_ r.sp.hin r.y true with F := (callEnv E s W bx rw_ h0 y0 false).F } := by
      unfold callEnv
      simp only [Env.mk.injEq, true_and, and_true]
      refine ⟨funext fun b => propext (hmut b), funext fun k => funext fun b => propext ⟨?_, ?_⟩, funext fun k => funext fun b => propext ⟨?_, ?_⟩⟩
      · rintro ⟨_, B, hB, _⟩; cases hB
      · rintro ⟨_, B, hB, _⟩; rw [hst.1] at hB; cases hB
      · rintro ⟨_, B, hB, _⟩; cases hB
      · rintro ⟨_, B, hB, _⟩; rw [hst.2] at hB; cases hB
    have hT' := hT.flatten _ hfl hE
    rw [ers] at haf
    rw [after_congr (hin' := h0) (y' := y0) hb0 hr0 hyb.2 hyb.1] at haf
    obtain ⟨bx3, rw3, h3⟩ := called hS hy0 rfl hT' haf
    cases dst with
    | none => exact ⟨hd, bx3, rw3, h3⟩
    | some d => exact ⟨hd, bx3, rw3, h3⟩
  have hS1 : Sim C.Θ E r.s a.tmps W bx rw_ ∧ All2 (RAV C.Θ W (FF E r.s bx rw_ W) bx rw_) r.avs vs := by
    rcases hcase with ⟨e1, e2⟩ | ⟨ks, e1, e2⟩
    · rw [e1, e2]; exact ⟨hS, hav⟩
    · rw [e1, e2]; exact ⟨hS.freeze ks, args_freeze hS hav ks⟩
  obtain ⟨hS1, hav1⟩ := hS1
  have hent := entry_sim hS1 hav1 hy (flatOuts (flatE C.Θ) r.sp.outs) hnr
  refine ⟨_, _, _, rfl, rfl, fun b hz => ?_, hent, fun dst s' z q x hq haf hto => ?_⟩
  · have := (lent_own hS1 hy hz).1
    rcases hcase with ⟨e1, _⟩ | ⟨ks, e1, _⟩
    · rw [e1] at this; exact this
    · rw [e1] at this
      rcases this with ⟨k, B', hB, e⟩ | ⟨r', R, hR, e⟩
      · have h1 := look_map (fun b : BoxS C.Θ.T => (⟨b.gen, b.ty, b.cells.map (frC s ks)⟩ : BoxS C.Θ.T)) s.boxes k
        simp only [St.freeze] at hB
        rw [h1] at hB
        cases hl : look s.boxes k with
        | none => simp [hl] at hB
        | some B => simp [hl] at hB; subst hB; exact .inl ⟨k, B, hl, e⟩
      · exact .inr ⟨r', R, (look_dropRows hR).1, e⟩
  intro e w' hp
  unfold Post at hp
  rw [hto] at hp
  obtain ⟨_, us, bx2, rw2, rfl, hT⟩ := hp
  refine ⟨_, rfl, ?_⟩
  have hT' : Sim C.Θ (callEnv E r.s W bx rw_ r.sp.hin r.y false) (q.2.st x) us.toArray w' bx2 rw2 := by
    cases hf : flatOuts (flatE C.Θ) r.sp.outs with
    | false => rw [hf] at hT; exact hT
    | true =>
      rw [hf] at hT
      have hfl : (q.2.st x).flat (flatE C.Θ) = true := by
        unfold after at haf
        split at haf
        · cases haf
        · rename_i hc
          rw [hf] at hc
          simpa using hc
      exact hT.flatten _ hfl rfl
  obtain ⟨bx3, rw3, h3⟩ := called hS1 hy hlent hT' haf
  cases dst with
  | none => exact ⟨hd, bx3, rw3, h3⟩
  | some d => exact ⟨hd, bx3, rw3, h3⟩
/-- A call: what its callee stands on; what holds behind it. -/
theorem call_post {Γ' : List (Nat × Spec C.Θ.T)} (hS : Sim C.Θ E s a.tmps W bx rw_) (hd : a.defers = E.D) {g : Nat} {avs : List (AV C.Θ.T)} {vs : List Value} (hav : All2 (RAV C.Θ W (FF E s bx rw_ W) bx rw_) avs vs) {r : Ready C.Θ.T} (hr : ready (flatE C.Θ) (St.cellsAt C.Θ) Γ' s g avs = some r) (hlent : r.sp.hin.lentOk = true)
    {dst : Option Nat} {s' : St C.Θ.T} (h : callK (flatE C.Θ) r dst some = some s') :
    ∃ (E' : Env) (z : Outs C.Θ.T r.sp.outs) (bx1 : Nat → Nat → Nat) (rw1 : Nat → Nat → Value), r.sp.F r.y.x = some z ∧ E'.w0 = W ∧ E'.D = [] ∧ (∀ b, E'.Z b → Mut s bx rw_ b) ∧ Sim C.Θ E' (r.sp.hin.st r.y.x) vs.toArray W bx1 rw1 ∧
      ∀ e w', Post C.Θ E' r.sp.outs z e w' → ∃ v, e = .returned v ∧ At C.Θ E s' (a.put dst v) w' := by
  obtain ⟨z, q, x, hF, _, hq, haf, hto⟩ := callK_some h
  obtain ⟨E', bx1, rw1, h1, h2, h3, h4, h5⟩ := call_env hS hd hav hr hlent
  exact ⟨E', z, bx1, rw1, hF, h1, h2, h3, h4, h5 dst s' z q x hq haf hto⟩
/-- A call that is told by its contract. -/
theorem call_ok (hC : C.Ok) (hS : Sim C.Θ E s a.tmps W bx rw_) (hd : a.defers = E.D) {g : Nat} {avs : List (AV C.Θ.T)} {vs : List Value} (hav : All2 (RAV C.Θ W (FF E s bx rw_ W) bx rw_) avs vs) {r : Ready C.Θ.T} (hr : ready (flatE C.Θ) (St.cellsAt C.Θ) C.Γ s g avs = some r)
    {dst : Option Nat} {s' : St C.Θ.T} (h : callK (flatE C.Θ) r dst some = some s') :
    Go.Proofs.Enters C.P g ∧ Calls C.P g vs.toArray W fun e w' => ∃ v, e = .returned v ∧ At C.Θ E s' (a.put dst v) w' := by
  have hg := hC.Γ _ (ready_ok hr).1
  obtain ⟨E', z, bx1, rw1, hF, hw, hD, _, hent, hpost⟩ := call_post hS hd hav hr hg.lent h
  refine ⟨hg.enters, ?_⟩
  have := hg.calls _ z hF E' vs bx1 rw1 hD (by rw [hw]; exact hent)
  rw [hw] at this
  exact Calls.mono this hpost
theorem evs_ok (hS : Sim C.Θ E s a.tmps W bx rw_) : ∀ l : List Operand, All2 (RAV C.Θ W (FF E s bx rw_ W) bx rw_) (l.map s.ev) (l.map a.eval)
  | [] => .nil
  | x :: l => .cons (hS.ev a rfl x) (evs_ok hS l)
/-- One operation. -/
theorem step_ok (hC : C.Ok) (h0 : At C.Θ E s a W) {o : Oper} (hny : ∀ c f y l, o.op = .call c → c.callee = .value f → s.ev f ≠ .yld y l) (h : stepD C s o = some s') (Q : Exit → Act → World → Prop) :
    o.upon C.P a (fun a' w' => At C.Θ E s' a' w') Q ((execOp a.eval o).run C.P W) := by
  obtain ⟨hd, bx, rw_, hS⟩ := h0
  have hp : ∀ {r : Option (Bool × St C.Θ.T)}, r = plain1 C s o → (match r with | some (c, s') => cond c (some s') none | none => none : Option (St C.Θ.T)) = some s' →
      o.upon C.P a (fun a' w' => At C.Θ E s' a' w') Q ((execOp a.eval o).run C.P W) := by
    intro r hr h
    cases r with
    | none => cases h
    | some q =>
      obtain ⟨c, s1⟩ := q
      cases c with
      | false => cases h
      | true =>
        cases h
        have hr := hr.symm
        unfold plain1 at hr
        split at hr
        · obtain ⟨tm', W', bx', rw', hS', hn⟩ := opA_ok hS hr
          exact hn _ Q ⟨hd, bx', rw', hS'⟩
        · split at hr <;> try (cases hr; done)
          rename_i c v hv
          cases hr
          obtain ⟨u, h1, h2⟩ := opV_ok hS a rfl hC.eqs hv
          rw [h1, Oper.upon_value]
          exact put_at hd hS h2
  unfold stepD stepC at h
  split at h
  · rename_i c x y ho
    have main : ∀ (v : AV C.Θ.T) (u : Value), RAV C.Θ W (FF E s bx rw_ W) bx rw_ v u → a.eval c = u → (match v with
      | .c (.v (.bool b)) => cond b (some (s.put o.dst (s.ev x))) (some (s.put o.dst (s.ev y)))
      | _ => none : Option (St C.Θ.T)) = some s' → o.upon C.P a (fun a' w' => At C.Θ E s' a' w') Q ((execOp a.eval o).run C.P W) := by
      intro v u hv hu h
      split at h <;> try (cases h; done)
      rename_i b
      cases hv
      have hr : (execOp a.eval o).run C.P W = .ok (.value (if b then a.eval x else a.eval y)) W := by simp [execOp, ho, hu, asBool]
      rw [hr, Oper.upon_value]
      cases b with
      | true => cases h; exact put_at hd hS (hS.ev a rfl x)
      | false => cases h; exact put_at hd hS (hS.ev a rfl y)
    refine main (s.ev c) (a.eval c) (hS.ev a rfl c) rfl ?_
    cases c <;> exact h
  · rename_i c ho
    split at h
    · rename_i f hf
      split at h
      · rename_i y l hy
        exact absurd hy (hny c f y l ho hf)
      split at h <;> try (cases h; done)
      rename_i q hcal
      split at h <;> try (cases h; done)
      rename_i r hr
      have hfv := hS.ev a rfl f
      -- the function's value, and what it carries
      have hcal' : ∃ us ws : List Value, a.eval f = .func (.func q.1) us.toArray ws.toArray ∧ All2 (RAV C.Θ W (FF E s bx rw_ W) bx rw_) q.2.1 us ∧ All2 (RAV C.Θ W (FF E s bx rw_ W) bx rw_) q.2.2 ws := by
        unfold calleeOf at hcal
        revert hfv
        split at hcal
        · rename_i g' caps hev
          cases hcal
          intro hfv
          rw [hev] at hfv
          have e : a.eval f = .func (.func g') #[] (caps.map fun kg => Value.pointer (some ⟨bx kg.1 kg.2, 0, none⟩)).toArray := hfv
          refine ⟨[], _, e, .nil, ?_⟩
          have all : ∀ l : List (Nat × Nat), All2 (RAV C.Θ W (FF E s bx rw_ W) bx rw_) (l.map fun kg => .c (.box kg.1 kg.2 0)) (l.map fun kg => Value.pointer (some ⟨bx kg.1 kg.2, 0, none⟩)) := by
            intro l
            induction l with
            | nil => exact .nil
            | cons p l ih => exact .cons rfl ih
          exact all caps
        · rename_i g' l' hev
          cases hcal
          intro hfv
          rw [hev] at hfv
          obtain ⟨us, e, ha⟩ := hfv
          exact ⟨us, [], e, sums_args ha, .nil⟩
        · cases hcal
      obtain ⟨us, ws, hfe, hus, hws⟩ := hcal'
      obtain ⟨hg, hcalls⟩ := call_ok hC hS hd ((hus.append (evs_ok hS c.args.toList)).append hws) hr h
      have hr : (execOp a.eval o).run C.P W = .ok (.enter q.1 (us.toArray ++ c.args.map a.eval ++ ws.toArray)) W := by
        have := hg (us.toArray ++ c.args.map a.eval ++ ws.toArray) W
        rw [Array.append_assoc] at this ⊢
        simp [execOp, ho, resolve, hf, Deferred.ofValue, hfe, invoke, this]
      rw [hr, Oper.upon_enter]
      have hvs : us.toArray ++ c.args.map a.eval ++ ws.toArray = (us ++ c.args.toList.map a.eval ++ ws).toArray := by
        apply Array.ext'; simp
      rw [hvs]
      refine Calls.mono hcalls ?_
      rintro e w' ⟨v, rfl, h⟩
      exact h
    · exact hp rfl h
  · exact hp rfl h
theorem range_map (ops : Array Oper) : (List.range ops.size).map (fun i => ops[i]?) = ops.toList.map some := by
  apply List.ext_getElem?
  intro i
  simp only [List.getElem?_map]
  by_cases h : i < ops.size
  · simp [List.getElem?_range h, h]
  · have : ops.size ≤ i := by omega
    simp [List.getElem?_eq_none (l := List.range ops.size) (i := i) (by simpa using this), this]
end
end Go.Den
