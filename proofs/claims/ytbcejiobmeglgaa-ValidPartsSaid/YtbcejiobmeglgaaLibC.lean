/- The evaluator of the model's code on typed values, and that it tells the truth: part C. -/
import Derived.Test.YtbcejiobmeglgaaLibB
namespace Go.Den
open Go Go.RowKit
def At (Θ : Tab) (E : Env) (s : St Θ.T) (a : Act) (W : World) : Prop := a.defers = E.D ∧ ∃ bx rw_, Sim Θ E s a.tmps W bx rw_
section
variable {C : Cx} {E : Env} {s s' : St C.Θ.T} {a : Act} {W : World} {bx : Nat → Nat → Nat} {rw_ : Nat → Nat → Value}
theorem Sim.boxlt (hS : Sim C.Θ E s a.tmps W bx rw_) {k : Nat} {B : BoxS C.Θ.T} (hB : look s.boxes k = some B) : bx k B.gen < W.heap.size := by
  obtain ⟨_, cv, hh, _⟩ := hS.boxes k B hB
  exact (Array.getElem?_eq_some_iff.1 hh).1
theorem Sim.rowlt (hS : Sim C.Θ E s a.tmps W bx rw_) {r : Nat} {R : RowS C.Θ.T} {b : Nat} (hR : look s.rows r = some R) (hb : ob (rw_ r R.gen) = some b) : E.Own b ∧ b < W.heap.size := by
  obtain ⟨h1, us, hown, _⟩ := hS.rows r R hR
  exact ⟨h1 b hb, hown.lt hb⟩
theorem put_at {s1 : St C.Θ.T} {d : Option Nat} {v : AV C.Θ.T} {u : Value} {a : Act} {W : World} (hd : a.defers = E.D) (hS : Sim C.Θ E s1 a.tmps W bx rw_) (hv : RAV C.Θ W (FF E s1 bx rw_ W) bx rw_ v u) : At C.Θ E (s1.put d v) (a.put d u) W := by
  cases d with
  | none => exact ⟨hd, bx, rw_, hS⟩
  | some d => exact ⟨hd, bx, rw_, Sim.put hS d hv⟩
theorem put_skip (h : At C.Θ E s a W) (d : Option Nat) : At C.Θ E (s.put d .skip) (a.put d undef) W := by
  obtain ⟨hd, bx, rw_, hS⟩ := h
  exact put_at hd hS rfl
theorem sums_args {F : Nat → Prop} {l : List (CV C.Θ.T ⊕ List (CV C.Θ.T))} {us : List Value} (h : All2 (RSum C.Θ W F bx rw_) l us) : All2 (RAV C.Θ W F bx rw_) (l.map sumAV) us := by
  induction h with
  | nil => exact .nil
  | cons h t ih =>
    rename_i x _ _ _
    refine .cons ?_ ih
    cases x <;> exact h
end
section
variable {Θ : Tab}
theorem plain_pickC {c : CT} {x : CV Θ.T} {p : Pk Θ.T} (hp : c.plain = true) (h : pickC c x = some p) : p.bs = [] ∧ p.xs = [] ∧ ∀ y ∈ p.hs, y = x := by
  cases c <;> simp only [pickC] at h
  case hole l => cases h; exact ⟨rfl, rfl, fun y hy => by simpa using hy⟩
  case nil => split at h <;> cases h; exact ⟨rfl, rfl, fun y hy => by cases hy⟩
  case e0 => split at h <;> cases h; exact ⟨rfl, rfl, fun y hy => by cases hy⟩
  case np => split at h <;> cases h; exact ⟨rfl, rfl, fun y hy => by cases hy⟩
  case ni => split at h <;> cases h; exact ⟨rfl, rfl, fun y hy => by cases hy⟩
  case row r => simp [CT.plain] at hp
  case box k off => simp [CT.plain] at hp
  case fn f caps =>
    split at h <;> try (cases h; done)
    split at h <;> try (cases h; done)
    split at h <;> try (cases h; done)
    rename_i xs hxs
    cases h
    have hc : caps = [] := by simpa [CT.plain] using hp
    subst hc
    obtain ⟨hz, _⟩ := capsTo_spec _ _ _ hxs
    exact ⟨rfl, by rw [hz]; rfl, fun y hy => by cases hy⟩
theorem plain_pickCs : ∀ (ts : List CT) (cs : List (CV Θ.T)) (p : Pk Θ.T), ts.all CT.plain = true → pickCs ts cs = some p → p.bs = [] ∧ p.xs = [] ∧ ∀ y ∈ p.hs, y ∈ cs := by
  intro ts
  induction ts with
  | nil => intro cs p _ h; cases cs <;> simp [pickCs] at h; subst h; exact ⟨rfl, rfl, fun y hy => by cases hy⟩
  | cons t ts ih =>
    intro cs p hp h
    simp only [List.all_cons, Bool.and_eq_true] at hp
    cases cs with
    | nil => simp [pickCs] at h
    | cons c cs =>
      simp only [pickCs] at h
      split at h <;> try (cases h; done)
      rename_i p1 h1
      split at h <;> try (cases h; done)
      rename_i p2 h2
      cases h
      obtain ⟨a1, a2, a3⟩ := plain_pickC hp.1 h1
      obtain ⟨b1, b2, b3⟩ := ih cs p2 hp.2 h2
      refine ⟨by simp [Pk.and, a1, b1], by simp [Pk.and, a2, b2], fun y hy => ?_⟩
      rcases List.mem_append.1 hy with e | e
      · rw [a3 y e]; simp
      · exact List.mem_cons_of_mem _ (b3 y e)
theorem plain_pickA {a : AT} {v : AV Θ.T} {p : Pk Θ.T} (hp : a.plain = true) (h : pickA a v = some p) : p.bs = [] ∧ p.xs = [] ∧ ∀ y ∈ p.hs, ∀ q ∈ y.mR, q ∈ v.mR := by
  cases a with
  | undef => simp only [pickA, Option.some.injEq] at h; subst h; exact ⟨rfl, rfl, fun y hy => by cases hy⟩
  | c x =>
    simp only [pickA] at h
    split at h <;> try (cases h; done)
    obtain ⟨a1, a2, a3⟩ := plain_pickC hp h
    exact ⟨a1, a2, fun y hy q hq => by rw [a3 y hy] at hq; exact hq⟩
  | agg l =>
    simp only [pickA] at h
    split at h <;> try (cases h; done)
    obtain ⟨a1, a2, a3⟩ := plain_pickCs _ _ _ hp h
    exact ⟨a1, a2, fun y hy q hq => List.mem_flatMap.2 ⟨y, a3 y hy, hq⟩⟩
  | rel r sz off => simp [AT.plain] at hp
  | yld y l => simp [AT.plain] at hp
  | cel ls =>
    simp only [pickA] at h
    split at h <;> try (cases h; done)
    split at h <;> try (cases h; done)
    cases h
    refine ⟨rfl, rfl, fun y hy q hq => ?_⟩
    obtain ⟨x, _, rfl⟩ := List.mem_map.1 hy
    simp [CV.mR] at hq
theorem plain_pickAs : ∀ (ts : List AT) (vs : List (AV Θ.T)) (p : Pk Θ.T), ts.all AT.plain = true → pickAs ts vs = some p → p.bs = [] ∧ p.xs = [] ∧ ∀ y ∈ p.hs, ∀ q ∈ y.mR, ∃ v ∈ vs, q ∈ v.mR := by
  intro ts
  induction ts with
  | nil => intro cs p _ h; cases cs <;> simp [pickAs] at h; subst h; exact ⟨rfl, rfl, fun y hy => by cases hy⟩
  | cons t ts ih =>
    intro cs p hp h
    simp only [List.all_cons, Bool.and_eq_true] at hp
    cases cs with
    | nil => simp [pickAs] at h
    | cons c cs =>
      simp only [pickAs] at h
      split at h <;> try (cases h; done)
      rename_i p1 h1
      split at h <;> try (cases h; done)
      rename_i p2 h2
      cases h
      obtain ⟨a1, a2, a3⟩ := plain_pickA hp.1 h1
      obtain ⟨b1, b2, b3⟩ := ih cs p2 hp.2 h2
      refine ⟨by simp [Pk.and, a1, b1], by simp [Pk.and, a2, b2], fun y hy q hq => ?_⟩
      rcases List.mem_append.1 hy with e | e
      · exact ⟨c, by simp, a3 y e q hq⟩
      · obtain ⟨v, hv, hq⟩ := b3 y e q hq; exact ⟨v, List.mem_cons_of_mem _ hv, hq⟩
end
section
variable {C : Cx} {E : Env} {s s' : St C.Θ.T} {a : Act} {W : World} {bx : Nat → Nat → Nat} {rw_ : Nat → Nat → Value}
theorem ready_ok {rd : St C.Θ.T → AV C.Θ.T → Option (List (CV C.Θ.T))} {Γ : List (Nat × Spec C.Θ.T)} {g : Nat} {avs : List (AV C.Θ.T)} {r : Ready C.Θ.T} (h : ready (flatE C.Θ) rd Γ s g avs = some r) :
    (g, r.sp) ∈ Γ ∧ ((r.sp.hin.cel = true ∧ r.s = s ∧ plainIn r.sp.hin = true ∧ flatOuts (flatE C.Θ) r.sp.outs = true ∧ r.sp.hin.extB ⟨lendAs rd s (refKs avs) r.sp.hin.slots avs, [], []⟩ = some r.y) ∨
      (r.sp.hin.extB ⟨r.avs, r.s.boxes, r.s.rows⟩ = some r.y ∧ (flatOuts (flatE C.Θ) r.sp.outs = true ∨ ∀ c ∈ r.y.hs, notRow c = true) ∧ ((r.s = s ∧ r.avs = avs) ∨ ∃ ks, r.s = s.freeze ks ∧ r.avs = avs.map (frA s ks)))) := by
  have find : ∀ (Γ : List (Nat × Spec C.Θ.T)) (hit : Hit C.Θ.T), findSpec (flatE C.Θ) rd Γ g s avs = some hit → (g, hit.sp) ∈ Γ ∧ entryOf (flatE C.Θ) rd hit.sp s avs = some hit.y := by
    intro Γ
    induction Γ with
    | nil => intro hit h; cases h
    | cons p Γ ih =>
      intro hit h
      simp only [findSpec] at h
      split at h
      · rename_i hg
        split at h
        · rename_i y hy; cases h; exact ⟨by rw [← hg]; simp, hy⟩
        · obtain ⟨h1, h2⟩ := ih hit h; exact ⟨List.mem_cons_of_mem _ h1, h2⟩
      · obtain ⟨h1, h2⟩ := ih hit h; exact ⟨List.mem_cons_of_mem _ h1, h2⟩
  unfold ready at h
  split at h <;> try (cases h; done)
  rename_i hit hh
  obtain ⟨h1, h2⟩ := find _ _ hh
  unfold entryOf at h2
  split at h2
  · rename_i hcel
    split at h2 <;> try (cases h2; done)
    rename_i hpf
    simp only [Bool.and_eq_true] at hpf
    rw [if_pos (by simp [hpf.2])] at h
    cases h
    exact ⟨h1, .inl ⟨hcel, rfl, hpf.1, hpf.2, h2⟩⟩
  · split at h
    · rename_i hf
      cases h
      refine ⟨h1, .inr ⟨h2, ?_, .inl ⟨rfl, rfl⟩⟩⟩
      simp only [Bool.or_eq_true, List.all_eq_true] at hf
      exact hf
    · split at h <;> try (cases h; done)
      rename_i y hy
      split at h <;> try (cases h; done)
      rename_i hn
      cases h
      exact ⟨h1, .inr ⟨hy, .inr (by simpa using hn), .inr ⟨_, rfl, rfl⟩⟩⟩
theorem args_freeze (hS : Sim C.Θ E s a.tmps W bx rw_) {avs : List (AV C.Θ.T)} {vs : List Value} (hav : All2 (RAV C.Θ W (FF E s bx rw_ W) bx rw_) avs vs) (ks : List Nat) :
    All2 (RAV C.Θ W (FF E (s.freeze ks) bx rw_ W) bx rw_) (avs.map (frA s ks)) vs := by
  have hS1 : Sim C.Θ E ⟨avs, s.boxes, s.rows⟩ vs.toArray W bx rw_ := by
    refine ⟨hS.below, hS.glob, hS.pinB, hS.pinR, hS.rwsl, hS.boxes, hS.rows, hS.bb, hS.rr, hS.br, by simp [hav.length], fun i => ?_⟩
    simp only [St.at_, List.getD_eq_getElem?_getD, Array.getD_eq_getD_getElem?, List.getElem?_toArray]
    cases hi : avs[i]? with
    | none => exact trivial
    | some v =>
      obtain ⟨u, hu, hr⟩ := hav.get i hi
      simp only [hu, Option.getD_some]
      exact hr
  have h2 := hS1.freeze ks
  refine All2.of_get (by simp [hav.length]) (fun i v u hv hu => ?_)
  have := h2.slots i
  have e : (St.freeze (⟨avs, s.boxes, s.rows⟩ : St C.Θ.T) ks).at_ i = v := by
    simp only [St.freeze, St.at_, List.getD_eq_getElem?_getD]
    have : (avs.map (frA (⟨avs, s.boxes, s.rows⟩ : St C.Θ.T) ks))[i]? = some v := hv
    rw [this]; rfl
  rw [e] at this
  simp only [Array.getD_eq_getD_getElem?, List.getElem?_toArray, hu, Option.getD_some] at this
  exact this
theorem mark_ok (hS : Sim C.Θ E s a.tmps W bx rw_) {o : Oper} {d src r g : Nat} {x : Operand} (hd : o.dst = some d) (ho : o.op = .convert src src x) (hx : s.ev x = .c (.row r g)) {s' : St C.Θ.T} (h : aMark C s d src (s.ev x) r g = some (true, s')) : Comes1 C.Θ C.P E o a W s' := by
  unfold aMark at h
  split at h <;> try (cases h; done)
  rename_i R e hR hu
  split at h <;> try (cases h; done)
  rename_i hu8
  split at h <;> try (cases h; done)
  rename_i hc
  obtain ⟨⟨hg, hle⟩, hsl⟩ := hc
  simp only [Option.some.injEq, Prod.mk.injEq, true_and] at h
  subst h
  have hxv := hS.ev a rfl x
  have hxr : a.eval x = rw_ r g := by rw [hx] at hxv; exact hxv
  obtain ⟨h1, us, how, _⟩ := hS.rows r R hR
  have hos := how.s hsl
  rw [hg] at hos h1
  have hlen : 0 < R.l.length := by
    cases hq : R.l with
    | nil => rw [hq] at hle; cases hle
    | cons _ _ => simp
  obtain ⟨_, hform⟩ := hos.form
  obtain ⟨b, cap, hv, hcap⟩ := hform hlen
  obtain ⟨_, _, _, _, cur, fz, hb, hfz0, hnc, hcm, hcz, htk⟩ := hos.block hv (by omega)
  have hfz : fz = (0, 0) ∨ cur.size ≤ fz.1 := hfz0.imp id fun h => h.1
  clear hfz0
  obtain ⟨lo, hi⟩ := fz
  simp only at hb
  have hob : ob (rw_ r g) = some b := by rw [hv]; simp only [ob]; rw [if_neg (by omega)]
  have hblt : b < W.heap.size := (Array.getElem?_eq_some_iff.1 hb).1
  generalize hW1 : W.freeze ⟨b, cur.size, none⟩ 1 = W1
  have hheap0 : ∃ fm : Obj → Obj, W1.heap = W.heap.modify b fm ∧ ∀ c e lo hi, ∃ m, fm (.cells c e (lo, hi)) = .cells c e m ∧ ((lo, hi) = (0, 0) ∨ cur.size ≤ lo → cur.size ≤ m.1) := by
    rw [← hW1]
    unfold World.freeze
    rw [if_neg (by decide)]
    refine ⟨fun o => match o with
      | .cells c elem fr => .cells c elem (if fr.1 == fr.2 then (cur.size, cur.size + 1) else (min fr.1 cur.size, max fr.2 (cur.size + 1)))
      | o => o, ?_, fun c e lo hi => ⟨_, rfl, fun h => ?_⟩⟩
    · dsimp only
      congr 1
      funext o
      cases o <;> rfl
    · rcases h with h | h
      · cases h; simp
      · simp only
        split
        · exact Nat.le_refl _
        · simp only; omega
  obtain ⟨fm, hheap, hfm0⟩ := hheap0
  have hfm := hfm0 cur R.e lo hi
  have hother : ∀ k, k ≠ b → W1.heap[k]? = W.heap[k]? := fun k hk => by
    rw [hheap, Array.getElem?_modify, if_neg (fun e => hk e.symm)]
  have hbl : ∃ m : Nat × Nat, W1.heap[b]? = some (.cells cur R.e m) ∧ cur.size ≤ m.1 := by
    rw [hheap, Array.getElem?_modify, if_pos rfl, hb]
    obtain ⟨m, hm, hm2⟩ := hfm
    exact ⟨m, by rw [Option.map_some, hm], hm2 hfz⟩
  obtain ⟨m, hbl, hml⟩ := hbl
  have hm : Marked W W1 b := by
    refine ⟨by rw [← hW1]; unfold World.freeze; rw [if_neg (by decide)], by rw [← hW1]; unfold World.freeze; rw [if_neg (by decide)], by rw [← hW1]; unfold World.freeze; rw [if_neg (by decide)], by rw [hheap]; simp, hother, fun ad => ?_, fun k => (Decidable.em (k = b)).elim (fun hk => by rw [hk, elOf_cells hb hfz, elOf_cells hbl (.inr hml)]) (fun hk => elOf_of (hother k hk)), ⟨cur, R.e, _, hb⟩⟩
    unfold World.cell?
    by_cases hk : ad.block = b
    · rw [hk, hbl, hb]
    · rw [hother _ hk]
  have hSf := hS.freeze [r]
  have hnm : ¬ Mut (s.freeze [r]) bx rw_ b := by
    rintro (⟨k, B', hB', e⟩ | ⟨r', R', hR', e⟩)
    · have := look_map (fun b : BoxS C.Θ.T => (⟨b.gen, b.ty, b.cells.map (frC s [r])⟩ : BoxS C.Θ.T)) s.boxes k
      simp only [St.freeze] at hB'
      rw [this] at hB'
      cases hl : look s.boxes k with
      | none => simp [hl] at hB'
      | some B =>
        simp [hl] at hB'
        subst hB'
        refine hS.br k B r R hl hR ?_
        rw [hg, hob]
        exact congrArg some e.symm
    · have h2 := look_dropRows hR'
      have := hS.rr r' R' r R b h2.1 hR e (by rw [hg]; exact hob)
      exact h2.2 (by rw [this]; simp)
  have hSm := hSf.mark hm (h1 b hob) hnm
  have hav := args_freeze hS (avs := [s.ev x]) (vs := [a.eval x]) (.cons hxv .nil) [r]
  have hav1 : RAV C.Θ W (FF E (s.freeze [r]) bx rw_ W) bx rw_ (frA s [r] (s.ev x)) (a.eval x) := by cases hav with | cons h _ => exact h
  have hf : ∀ k, FF E (s.freeze [r]) bx rw_ W k → FF E (s.freeze [r]) bx rw_ W1 k := fun k hk => ⟨hk.1, by rw [hm.size]; exact hk.2.1, hk.2.2⟩
  have hav2 : RAV C.Θ W1 (FF E (s.freeze [r]) bx rw_ W1) bx rw_ (frA s [r] (s.ev x)) (a.eval x) := RAV.same hf (fun ad _ => ⟨hm.cell ad, hm.el _⟩) (fun k q _ h => by
    rw [hother k]
    · exact h
    · rintro rfl; rw [hb] at h; cases h) hav1
  have hS' := Sim.put hSm d hav2
  refine comes_value (W' := W1) hd ?_ hS'
  have hsh : W.shape? b = some (R.e, cur.size) := by unfold World.shape?; rw [hb]
  rw [← hW1]
  simp [execOp, ho, hxr, hv, convert, run_underlying hu, run_underlying hu8, markStringish, hsh]
theorem cellsAt_blk (hS : Sim C.Θ E s a.tmps W bx rw_) {x : AV C.Θ.T} {cs : List (CV C.Θ.T)} {ad : Addr} (h : s.cellsAt C.Θ x = some cs) (hr : RAV C.Θ W (FF E s bx rw_ W) bx rw_ x (.pointer (some ad))) :
    ad.spot = none ∧ (cs ≠ [] → (E.F ad.block ∨ E.Own ad.block) ∧ ad.block < W.heap.size) := by
  unfold St.cellsAt at h
  split at h <;> try (cases h; done)
  · rename_i k g off
    split at h <;> try (cases h; done)
    rename_i B hB
    split at h <;> try (cases h; done)
    rename_i hg
    subst hg
    cases hr
    exact ⟨rfl, fun _ => ⟨.inr (hS.boxes k B hB).1, hS.boxlt hB⟩⟩
  · obtain ⟨ad', e, hs, hf, _⟩ := hr
    cases e
    cases h
    refine ⟨hs, fun hne => ?_⟩
    have hf := hf fun e => hne (by rw [e]; rfl)
    exact ⟨hf.1, hf.2.1⟩
  · rename_i r g i sz off
    split at h <;> try (cases h; done)
    rename_i R hR
    split at h <;> try (cases h; done)
    rename_i hg
    subst hg
    obtain ⟨b, m, cap, e1, h0, h1, e⟩ := hr
    cases e
    have hob : ob (rw_ r R.gen) = some b := by
      obtain ⟨_, us, hown0, _⟩ := hS.rows r R hR
      have hown := (hown0.sv ⟨_, _, _, e1⟩).2
      rw [e1]
      have hm : 0 < m := by omega
      rcases hown with h | ⟨ad, hv, _⟩ | ⟨_, g', cap', cur, fz, hv, hc, _⟩
      · rcases h.2 with ⟨hv, _⟩ | ⟨g', cap', cur, hv, _, _, hc, _⟩
        · rw [e1] at hv; cases hv
        · rw [e1] at hv; cases hv
          have : cap ≠ 0 := by omega
          simp [ob, this]
      · rw [e1] at hv; cases hv; omega
      · rw [e1] at hv; cases hv; simp [ob, hc]
    obtain ⟨h2, h3⟩ := hS.rowlt hR hob
    exact ⟨rfl, fun _ => ⟨.inr h2, h3⟩⟩
theorem leafs_get : ∀ (ls : List Leaf) (cs : List (CV C.Θ.T)) (xs : List (PV C.Θ.T)), leafs s ls cs = some xs → ∀ (j : Nat) (x : PV C.Θ.T), xs[j]? = some x → ∃ (l : Leaf) (c : CV C.Θ.T) (z : l.Ty C.Θ.T), cs[j]? = some c ∧ s.get l c = some z ∧ notMap s c = true ∧ x = l.mk z := by
  intro ls
  induction ls with
  | nil => intro cs xs h j x hx; simp only [leafs, Option.some.injEq] at h; subst h; simp at hx
  | cons l ls ih =>
    intro cs xs h j x hx
    cases cs with
    | nil => simp [leafs] at h
    | cons c cs =>
      simp only [leafs] at h
      split at h <;> try (cases h; done)
      rename_i hnm
      split at h <;> try (cases h; done)
      rename_i z hz
      split at h <;> try (cases h; done)
      rename_i r hr
      cases h
      cases j with
      | zero => simp at hx; exact ⟨l, c, z, by simp, hz, hnm, hx.symm⟩
      | succ j =>
        obtain ⟨l', c', z', h1, h2, h3⟩ := ih cs r hr j x (by simpa using hx)
        exact ⟨l', c', z', by simpa using h1, h2, h3⟩
theorem lend_ok (hS : Sim C.Θ E s a.tmps W bx rw_) {avs : List (AV C.Θ.T)} {vs : List Value} (hav : All2 (RAV C.Θ W (FF E s bx rw_ W) bx rw_) avs vs) (ks : List Nat) (ts : List AT) :
    Sim C.Θ E (⟨lendAs (St.cellsAt C.Θ) s ks ts avs, [], []⟩ : St C.Θ.T) vs.toArray W bx rw_ ∧ All2 (RAV C.Θ W (FF E (⟨lendAs (St.cellsAt C.Θ) s ks ts avs, [], []⟩ : St C.Θ.T) bx rw_ W) bx rw_) (lendAs (St.cellsAt C.Θ) s ks ts avs) vs := by
  have hFF : ∀ (l : List (AV C.Θ.T)) (b : Nat), (E.F b ∨ E.Own b) → b < W.heap.size → FF E (⟨l, [], []⟩ : St C.Θ.T) bx rw_ W b := by
    intro l b h1 h2
    refine ⟨h1, h2, ?_⟩
    rintro (⟨k, B, hB, _⟩ | ⟨r, R, hR, _⟩)
    · cases hB
    · cases hR
  have hle : ∀ (l : List (AV C.Θ.T)) (s' : St C.Θ.T) (b : Nat), FF E s' bx rw_ W b → FF E (⟨l, [], []⟩ : St C.Θ.T) bx rw_ W b := fun l s' b hb => hFF l b hb.1 hb.2.1
  have one : ∀ (l : List (AV C.Θ.T)) (t : AT) (v : AV C.Θ.T) (u : Value), RAV C.Θ W (FF E s bx rw_ W) bx rw_ v u → RAV C.Θ W (FF E (⟨l, [], []⟩ : St C.Θ.T) bx rw_ W) bx rw_ (lendA (St.cellsAt C.Θ) s ks t v) u := by
    intro l t v u h
    have same : RAV C.Θ W (FF E (⟨l, [], []⟩ : St C.Θ.T) bx rw_ W) bx rw_ v u := RAV.trans (hle l s) (fun _ _ => rfl) (fun _ _ => rfl) (fun _ _ => rfl) h
    have fr : RAV C.Θ W (FF E (⟨l, [], []⟩ : St C.Θ.T) bx rw_ W) bx rw_ (frA s ks v) u := by
      have := args_freeze hS (avs := [v]) (vs := [u]) (.cons h .nil) ks
      cases this with | cons h1 _ =>
      exact RAV.trans (hle l _) (fun _ _ => rfl) (fun _ _ => rfl) (fun _ _ => rfl) h1
    have cel : ∀ ls, RAV C.Θ W (FF E (⟨l, [], []⟩ : St C.Θ.T) bx rw_ W) bx rw_ (celA (St.cellsAt C.Θ) s ls v) u := by
      intro ls
      unfold celA
      split
      · rename_i cs hcs
        split
        · rename_i xs hxs
          obtain ⟨ad, us, rfl, ha, hc⟩ := cellsAt_ok hS hcs h
          obtain ⟨h1, h23⟩ := cellsAt_blk hS hcs h
          refine ⟨ad, rfl, h1, fun hne => ?_, fun j x hx => ?_⟩
          · have hne' : cs ≠ [] := by
              intro e
              apply hne
              cases xs with
              | nil => rfl
              | cons x xs =>
                obtain ⟨_, c, _, hj, _⟩ := leafs_get _ _ _ hxs 0 x (by simp)
                rw [e] at hj; simp at hj
            exact hFF l _ (h23 hne').1 (h23 hne').2
          obtain ⟨lf, c, z, hj, hz, hnm, rfl⟩ := leafs_get _ _ _ hxs j x hx
          obtain ⟨w, hw, hr⟩ := ha.get j hj
          refine ⟨w, hc j w hw, leaf_ok hS (hle l s) hz hr (fun p hp R b hR hb => ?_) hnm⟩
          obtain ⟨g1, g2⟩ := hS.rowlt hR hb
          exact hFF l b (.inr g1) g2
        · exact same
      · exact same
    cases t with
    | cel ls =>
      cases v with
      | cel xs =>
        simp only [lendA]
        obtain ⟨ad, e, hs, hf, hc⟩ := same
        refine ⟨ad, e, hs, fun h => hf fun e => h (by rw [e]; simp), fun j x hx => hc j x ?_⟩
        rw [List.getElem?_take] at hx
        split at hx
        · exact hx
        · cases hx
      | _ => exact cel ls
    | _ => exact fr
  have all : ∀ (l : List (AV C.Θ.T)) (ts : List AT) (avs : List (AV C.Θ.T)) (vs : List Value), All2 (RAV C.Θ W (FF E s bx rw_ W) bx rw_) avs vs → All2 (RAV C.Θ W (FF E (⟨l, [], []⟩ : St C.Θ.T) bx rw_ W) bx rw_) (lendAs (St.cellsAt C.Θ) s ks ts avs) vs := by
    intro l ts
    induction ts with
    | nil =>
      intro avs vs h
      simp only [lendAs]
      exact h.mono fun v u h => RAV.trans (hle l s) (fun _ _ => rfl) (fun _ _ => rfl) (fun _ _ => rfl) h
    | cons t ts ih =>
      intro avs vs h
      cases h with
      | nil => exact .nil
      | cons h r => exact .cons (one l t _ _ h) (ih _ _ r)
  have h2 := all (lendAs (St.cellsAt C.Θ) s ks ts avs) ts avs vs hav
  refine ⟨⟨hS.below, hS.glob, fun k b hkb => ⟨(hS.pinB k b hkb).1, fun B hB => by cases hB⟩, fun r v hrv => ⟨(hS.pinR r v hrv).1, fun R hR => by cases hR⟩, hS.rwsl, fun k B hB => (by cases hB), fun r R hR => (by cases hR), fun k B k' B' hB => (by cases hB), fun r R r' R' b hR => (by cases hR), fun k B r R hB => (by cases hB), by simp [h2.length], fun i => ?_⟩, h2⟩
  simp only [St.at_, List.getD_eq_getElem?_getD, Array.getD_eq_getD_getElem?, List.getElem?_toArray]
  cases hi : (lendAs (St.cellsAt C.Θ) s ks ts avs)[i]? with
  | none => exact trivial
  | some v =>
    obtain ⟨u, hu, hr⟩ := h2.get i hi
    simp only [hu, Option.getD_some]
    exact hr
theorem after_congr {fe : TypeId → Bool} {hin hin' : Shape} {y : Ext C.Θ.T hin} {y' : Ext C.Θ.T hin'} (hb : hin.boxes = hin'.boxes) (hr : hin.rows = hin'.rows) (hx : y.xs = y'.xs) (hbs : y.bs = y'.bs) (t : St C.Θ.T) (flat : Bool) (dst : Option Nat) :
    after fe s hin y t flat dst = after fe s hin' y' t flat dst := by
  have eB : ∀ xs base l, renBs s hin xs base l = renBs s hin' xs base l := by
    intro xs base l
    induction l with
    | nil => rfl
    | cons b l ih => simp only [renBs, entB, hb, ih]
  have eR : ∀ bs base l, renRs s hin bs base l = renRs s hin' bs base l := by
    intro bs base l
    induction l with
    | nil => rfl
    | cons b l ih => simp only [renRs, entR, hr, ih]
  unfold after
  simp only [eB, eR, hb, hr, hx, hbs]
def y0bs {T : TypeId → Type} {h : Shape} (y : Ext T h) : Prop := y.bs = []
theorem call_env {Γ' : List (Nat × Spec C.Θ.T)} (hS : Sim C.Θ E s a.tmps W bx rw_) (hd : a.defers = E.D) {g : Nat} {avs : List (AV C.Θ.T)} {vs : List Value} (hav : All2 (RAV C.Θ W (FF E s bx rw_ W) bx rw_) avs vs) {r : Ready C.Θ.T} (hr : ready (flatE C.Θ) (St.cellsAt C.Θ) Γ' s g avs = some r) (hlent : r.sp.hin.lentOk = true) :
    ∃ (E' : Env) (bx1 : Nat → Nat → Nat) (rw1 : Nat → Nat → Value), E'.w0 = W ∧ E'.D = [] ∧ (∀ b, E'.Z b → Mut s bx rw_ b) ∧ Sim C.Θ E' (r.sp.hin.st r.y.x) vs.toArray W bx1 rw1 ∧
      ∀ (dst : Option Nat) (s' t : St C.Θ.T), after (flatE C.Θ) r.s r.sp.hin r.y t (flatOuts (flatE C.Θ) r.sp.outs) dst = some s' →
      ∀ us bx2 rw2 w', Sim C.Θ E' t us.toArray w' bx2 rw2 → At C.Θ E s' (a.put dst (tupleOf us)) w' := by
  obtain ⟨hm, hcase⟩ := ready_ok hr
  rcases hcase with ⟨_, ers, hpl, hfo, hy⟩ | ⟨hy, hnr, hcase⟩
  ·
    obtain ⟨hSD, havD⟩ := lend_ok hS hav (refKs avs) r.sp.hin.slots
    have hent := entry_sim hSD havD hy true (.inl rfl)
    refine ⟨_, _, _, rfl, rfl, fun b hz => ?_, hent, fun dst s' t haf => ?_⟩
    · have hz : Mut (r.sp.hin.st r.y.x) (bxN bx r.y.xs) (rwN rw_ r.y.bs) b := hz
      simp only [plainIn, Bool.and_eq_true, List.isEmpty_iff] at hpl
      rcases hz with ⟨k, B, hB, _⟩ | ⟨k, B, hB, _⟩
      · unfold Shape.st Shape.mk' at hB; simp only [hpl.1.1] at hB; cases hB
      · unfold Shape.st Shape.mk' at hB; simp only [hpl.1.2] at hB; cases hB
    intro us bx2 rw2 w' hT
    simp only [plainIn, Bool.and_eq_true, List.isEmpty_iff] at hpl
    obtain ⟨⟨hb0, hr0⟩, hsl⟩ := hpl
    have hyb : y0bs r.y ∧ r.y.xs = [] := by
      obtain ⟨p, q', cs, hp, hq', _, _, _, _, _, _, e2, e3⟩ := extB_split hy
      obtain ⟨p0, hp0, _⟩ := pickS_split hp
      have hpp : p = p0 := by
        unfold pickS at hp
        rw [hp0] at hp
        simpa using hp.symm
      subst hpp
      obtain ⟨a1, a2, _⟩ := plain_pickAs _ _ _ hsl hp0
      rw [hb0] at hq'
      simp only [pickBs, Option.some.injEq] at hq'
      subst hq'
      exact ⟨by unfold y0bs; rw [e2]; simp [Pk.and, a1], by rw [e3]; simp [Pk.and, a2]⟩
    have hst : (r.sp.hin.st r.y.x).boxes = [] ∧ (r.sp.hin.st r.y.x).rows = [] := by
      unfold Shape.st Shape.mk'
      simp only [hb0, hr0]
      exact ⟨rfl, rfl⟩
    have hfl : t.flat (flatE C.Θ) = true := by
      unfold after at haf
      split at haf
      · cases haf
      · rename_i hc
        rw [hfo] at hc
        simpa using hc
    let h0 : Shape := ⟨[], [], []⟩
    let y0 : Ext C.Θ.T h0 := ⟨(), [], [], []⟩
    have hy0 : h0.extB (⟨[], s.boxes, s.rows⟩ : St C.Θ.T) = some y0 := rfl
    have hmut : ∀ b, Mut (h0.st y0.x) (bxN bx y0.xs) (rwN rw_ y0.bs) b ↔ Mut (r.sp.hin.st r.y.x) (bxN bx r.y.xs) (rwN rw_ r.y.bs) b := by
      intro b
      constructor
      · rintro (⟨k, B, hB, _⟩ | ⟨k, B, hB, _⟩) <;> cases hB
      · rintro (⟨k, B, hB, _⟩ | ⟨k, B, hB, _⟩)
        · rw [hst.1] at hB; cases hB
        · rw [hst.2] at hB; cases hB
    have hE : callEnv E s W bx rw_ h0 y0 false = { callEnv E (⟨lendAs (St.cellsAt C.Θ) s (refKs avs) r.sp.hin.slots avs, [], []⟩ : St C.Θ.T) W bx rw_ r.sp.hin r.y true with F := (callEnv E s W bx rw_ h0 y0 false).F } := by
      unfold callEnv
      simp only [Env.mk.injEq, true_and, and_true]
      refine ⟨funext fun b => propext (hmut b), funext fun k => funext fun b => propext ⟨?_, ?_⟩, funext fun k => funext fun b => propext ⟨?_, ?_⟩⟩
      · rintro ⟨_, B, hB, _⟩; cases hB
      · rintro ⟨_, B, hB, _⟩; rw [hst.1] at hB; cases hB
      · rintro ⟨_, B, hB, _⟩; cases hB
      · rintro ⟨_, B, hB, _⟩; rw [hst.2] at hB; cases hB
    have hT' := hT.flatten _ hfl hE
    rw [ers] at haf
    rw [after_congr (hin' := h0) (y' := y0) hb0 hr0 hyb.2 hyb.1] at haf
    obtain ⟨bx3, rw3, h3⟩ := called hS hy0 rfl hT' haf
    cases dst with
    | none => exact ⟨hd, bx3, rw3, h3⟩
    | some d => exact ⟨hd, bx3, rw3, h3⟩
  have hS1 : Sim C.Θ E r.s a.tmps W bx rw_ ∧ All2 (RAV C.Θ W (FF E r.s bx rw_ W) bx rw_) r.avs vs := by
    rcases hcase with ⟨e1, e2⟩ | ⟨ks, e1, e2⟩
    · rw [e1, e2]; exact ⟨hS, hav⟩
    · rw [e1, e2]; exact ⟨hS.freeze ks, args_freeze hS hav ks⟩
  obtain ⟨hS1, hav1⟩ := hS1
  have hent := entry_sim hS1 hav1 hy (flatOuts (flatE C.Θ) r.sp.outs) hnr
  refine ⟨_, _, _, rfl, rfl, fun b hz => ?_, hent, fun dst s' t haf => ?_⟩
  · have := (lent_own hS1 hy hz).1
    rcases hcase with ⟨e1, _⟩ | ⟨ks, e1, _⟩
    · rw [e1] at this; exact this
    · rw [e1] at this
      rcases this with ⟨k, B', hB, e⟩ | ⟨r', R, hR, e⟩
      · have h1 := look_map (fun b : BoxS C.Θ.T => (⟨b.gen, b.ty, b.cells.map (frC s ks)⟩ : BoxS C.Θ.T)) s.boxes k
        simp only [St.freeze] at hB
        rw [h1] at hB
        cases hl : look s.boxes k with
        | none => simp [hl] at hB
        | some B => simp [hl] at hB; subst hB; exact .inl ⟨k, B, hl, e⟩
      · exact .inr ⟨r', R, (look_dropRows hR).1, e⟩
  intro us bx2 rw2 w' hT
  have hT' : Sim C.Θ (callEnv E r.s W bx rw_ r.sp.hin r.y false) t us.toArray w' bx2 rw2 := by
    cases hf : flatOuts (flatE C.Θ) r.sp.outs with
    | false => rw [hf] at hT; exact hT
    | true =>
      rw [hf] at hT
      have hfl : t.flat (flatE C.Θ) = true := by
        unfold after at haf
        split at haf
        · cases haf
        · rename_i hc
          rw [hf] at hc
          simpa using hc
      exact hT.flatten _ hfl rfl
  obtain ⟨bx3, rw3, h3⟩ := called hS1 hy hlent hT' haf
  cases dst with
  | none => exact ⟨hd, bx3, rw3, h3⟩
  | some d => exact ⟨hd, bx3, rw3, h3⟩
theorem call_post {Γ' : List (Nat × Spec C.Θ.T)} (hS : Sim C.Θ E s a.tmps W bx rw_) (hd : a.defers = E.D) {g : Nat} {avs : List (AV C.Θ.T)} {vs : List Value} (hav : All2 (RAV C.Θ W (FF E s bx rw_ W) bx rw_) avs vs) {r : Ready C.Θ.T} (hr : ready (flatE C.Θ) (St.cellsAt C.Θ) Γ' s g avs = some r) (hlent : r.sp.hin.lentOk = true)
    {dst : Option Nat} {s' : St C.Θ.T} (h : callK (flatE C.Θ) r dst some = some s') :
    ∃ (E' : Env) (z : Outs C.Θ.T r.sp.outs) (bx1 : Nat → Nat → Nat) (rw1 : Nat → Nat → Value), r.sp.F r.y.x = some z ∧ E'.w0 = W ∧ E'.D = [] ∧ (∀ b, E'.Z b → Mut s bx rw_ b) ∧ Sim C.Θ E' (r.sp.hin.st r.y.x) vs.toArray W bx1 rw1 ∧
      ∀ e w', Post C.Θ E' r.sp.outs z e w' → ∃ v, e = .returned v ∧ At C.Θ E s' (a.put dst v) w' := by
  obtain ⟨z, q, x, hF, _, hq, haf, hto⟩ := callK_some h
  obtain ⟨E', bx1, rw1, h1, h2, h3, h4, h5⟩ := call_env hS hd hav hr hlent
  refine ⟨E', z, bx1, rw1, hF, h1, h2, h3, h4, fun e w' hp => ?_⟩
  unfold Post at hp
  rw [hto, hq] at hp
  obtain ⟨_, us, bx2, rw2, rfl, hT⟩ := hp
  exact ⟨_, rfl, h5 dst s' _ haf us bx2 rw2 w' hT⟩
theorem call_ok (hC : C.Ok) (hS : Sim C.Θ E s a.tmps W bx rw_) (hd : a.defers = E.D) {g : Nat} {avs : List (AV C.Θ.T)} {vs : List Value} (hav : All2 (RAV C.Θ W (FF E s bx rw_ W) bx rw_) avs vs) {r : Ready C.Θ.T} (hr : ready (flatE C.Θ) (St.cellsAt C.Θ) C.Γ s g avs = some r)
    {dst : Option Nat} {s' : St C.Θ.T} (h : callK (flatE C.Θ) r dst some = some s') :
    Go.Proofs.Enters C.P g ∧ Calls C.P g vs.toArray W fun e w' => ∃ v, e = .returned v ∧ At C.Θ E s' (a.put dst v) w' := by
  have hg := hC.Γ _ (ready_ok hr).1
  obtain ⟨E', z, bx1, rw1, hF, hw, hD, _, hent, hpost⟩ := call_post hS hd hav hr hg.lent h
  refine ⟨hg.enters, ?_⟩
  have := hg.calls _ z hF E' vs bx1 rw1 hD (by rw [hw]; exact hent)
  rw [hw] at this
  exact Calls.mono this hpost
theorem evs_ok (hS : Sim C.Θ E s a.tmps W bx rw_) : ∀ l : List Operand, All2 (RAV C.Θ W (FF E s bx rw_ W) bx rw_) (l.map s.ev) (l.map a.eval)
  | [] => .nil
  | x :: l => .cons (hS.ev a rfl x) (evs_ok hS l)
theorem step_ok (hC : C.Ok) (h0 : At C.Θ E s a W) {o : Oper} (hny : ∀ c f y l, o.op = .call c → c.callee = .value f → s.ev f ≠ .yld y l) (h : stepD C s o = some s') (Q : Exit → Act → World → Prop) :
    o.upon C.P a (fun a' w' => At C.Θ E s' a' w') Q ((execOp a.eval o).run C.P W) := by
  obtain ⟨hd, bx, rw_, hS⟩ := h0
  have hp : ∀ {r : Option (Bool × St C.Θ.T)}, r = plain1 C s o → (match r with | some (c, s') => cond c (some s') none | none => none : Option (St C.Θ.T)) = some s' →
      o.upon C.P a (fun a' w' => At C.Θ E s' a' w') Q ((execOp a.eval o).run C.P W) := by
    intro r hr h
    cases r with
    | none => cases h
    | some q =>
      obtain ⟨c, s1⟩ := q
      cases c with
      | false => cases h
      | true =>
        cases h
        have hr := hr.symm
        unfold plain1 at hr
        split at hr
        · unfold opLitR at hr
          split at hr <;> try (cases hr; done)
          · rename_i hlo
            split at hr <;> try (cases hr; done)
            rename_i d hld
            obtain ⟨tm', W', bx', rw', hS', hn⟩ := litR_ok hS hld hlo hr
            exact hn _ Q ⟨hd, bx', rw', hS'⟩
          · rename_i hlo
            split at hr <;> try (cases hr; done)
            rename_i d hld
            split at hr <;> try (cases hr; done)
            · rename_i b hb
              obtain ⟨tm', W', bx', rw', hS', hn⟩ := bytes_ok hS hld hlo hb hr
              exact hn _ Q ⟨hd, bx', rw', hS'⟩
            · rename_i r g hxe
              split at hr
              · rename_i hst
                subst hst
                obtain ⟨tm', W', bx', rw', hS', hn⟩ := mark_ok hS hld hlo hxe hr
                exact hn _ Q ⟨hd, bx', rw', hS'⟩
              split at hr <;> try (cases hr; done)
              rename_i c v hv
              cases hr
              have hSf := hS.freeze [r]
              obtain ⟨u, h1, h2⟩ := opV_ok hSf a rfl hC.eqs hv
              rw [h1, Oper.upon_value]
              exact put_at hd hSf h2
          · split at hr <;> try (cases hr; done)
            rename_i r _ _
            split at hr <;> try (cases hr; done)
            rename_i c v hv
            cases hr
            have hSf := hS.freeze [r]
            obtain ⟨u, h1, h2⟩ := opV_ok hSf a rfl hC.eqs hv
            rw [h1, Oper.upon_value]
            exact put_at hd hSf h2
        split at hr
        · obtain ⟨tm', W', bx', rw', hS', hn⟩ := opA_ok hS hr
          exact hn _ Q ⟨hd, bx', rw', hS'⟩
        · split at hr <;> try (cases hr; done)
          rename_i c v hv
          cases hr
          obtain ⟨u, h1, h2⟩ := opV_ok hS a rfl hC.eqs hv
          rw [h1, Oper.upon_value]
          exact put_at hd hS h2
  unfold stepD stepC at h
  split at h
  · rename_i c x y ho
    have main : ∀ (v : AV C.Θ.T) (u : Value), RAV C.Θ W (FF E s bx rw_ W) bx rw_ v u → a.eval c = u → (match v with
      | .c (.v (.bool b)) => cond b (some (s.put o.dst (s.ev x))) (some (s.put o.dst (s.ev y)))
      | _ => none : Option (St C.Θ.T)) = some s' → o.upon C.P a (fun a' w' => At C.Θ E s' a' w') Q ((execOp a.eval o).run C.P W) := by
      intro v u hv hu h
      split at h <;> try (cases h; done)
      rename_i b
      cases hv
      have hr : (execOp a.eval o).run C.P W = .ok (.value (if b then a.eval x else a.eval y)) W := by simp [execOp, ho, hu, asBool]
      rw [hr, Oper.upon_value]
      cases b with
      | true => cases h; exact put_at hd hS (hS.ev a rfl x)
      | false => cases h; exact put_at hd hS (hS.ev a rfl y)
    refine main (s.ev c) (a.eval c) (hS.ev a rfl c) rfl ?_
    cases c <;> exact h
  · rename_i c ho
    split at h
    · rename_i f hf
      split at h
      · rename_i y l hy
        exact absurd hy (hny c f y l ho hf)
      split at h <;> try (cases h; done)
      rename_i q hcal
      split at h <;> try (cases h; done)
      rename_i r hr
      have hfv := hS.ev a rfl f
      have hcal' : ∃ us ws : List Value, a.eval f = .func (.func q.1) us.toArray ws.toArray ∧ All2 (RAV C.Θ W (FF E s bx rw_ W) bx rw_) q.2.1 us ∧ All2 (RAV C.Θ W (FF E s bx rw_ W) bx rw_) q.2.2 ws := by
        unfold calleeOf at hcal
        revert hfv
        split at hcal
        · rename_i g' caps hev
          cases hcal
          intro hfv
          rw [hev] at hfv
          have e : a.eval f = .func (.func g') #[] (caps.map fun kg => Value.pointer (some ⟨bx kg.1 kg.2, 0, none⟩)).toArray := hfv
          refine ⟨[], _, e, .nil, ?_⟩
          have all : ∀ l : List (Nat × Nat), All2 (RAV C.Θ W (FF E s bx rw_ W) bx rw_) (l.map fun kg => .c (.box kg.1 kg.2 0)) (l.map fun kg => Value.pointer (some ⟨bx kg.1 kg.2, 0, none⟩)) := by
            intro l
            induction l with
            | nil => exact .nil
            | cons p l ih => exact .cons rfl ih
          exact all caps
        · rename_i g' l' hev
          cases hcal
          intro hfv
          rw [hev] at hfv
          obtain ⟨us, e, ha⟩ := hfv
          exact ⟨us, [], e, sums_args ha, .nil⟩
        · cases hcal
      obtain ⟨us, ws, hfe, hus, hws⟩ := hcal'
      obtain ⟨hg, hcalls⟩ := call_ok hC hS hd ((hus.append (evs_ok hS c.args.toList)).append hws) hr h
      have hr : (execOp a.eval o).run C.P W = .ok (.enter q.1 (us.toArray ++ c.args.map a.eval ++ ws.toArray)) W := by
        have := hg (us.toArray ++ c.args.map a.eval ++ ws.toArray) W
        rw [Array.append_assoc] at this ⊢
        simp [execOp, ho, resolve, hf, Deferred.ofValue, hfe, invoke, this]
      rw [hr, Oper.upon_enter]
      have hvs : us.toArray ++ c.args.map a.eval ++ ws.toArray = (us ++ c.args.toList.map a.eval ++ ws).toArray := by
        apply Array.ext'; simp
      rw [hvs]
      refine Calls.mono hcalls ?_
      rintro e w' ⟨v, rfl, h⟩
      exact h
    · exact hp rfl h
  · exact hp rfl h
theorem range_map (ops : Array Oper) : (List.range ops.size).map (fun i => ops[i]?) = ops.toList.map some := by
  apply List.ext_getElem?
  intro i
  simp only [List.getElem?_map]
  by_cases h : i < ops.size
  · simp [List.getElem?_range h, h]
  · have : ops.size ≤ i := by omega
    simp [List.getElem?_eq_none (l := List.range ops.size) (i := i) (by simpa using this), this]
end
end Go.Den
namespace Go.Den
open Go Go.RowKit
section
variable {C : Cx}
theorem at_put (s : St C.Θ.T) (d : Option Nat) (v : AV C.Θ.T) (i : Nat) (h : d ≠ some i) : (s.put d v).at_ i = s.at_ i := put_slots d v i h
theorem ev_put (s : St C.Θ.T) (d : Option Nat) (v : AV C.Θ.T) (x : Operand) (h : ∀ t, d = some t → x ≠ .tmp t) : (s.put d v).ev x = s.ev x := by
  cases x with
  | tmp t => exact at_put s d v t (fun e => h t e rfl)
  | _ => rfl
theorem put_boxes (s : St C.Θ.T) (d : Option Nat) (v : AV C.Θ.T) : (s.put d v).boxes = s.boxes := by cases d <;> rfl
theorem put_rows (s : St C.Θ.T) (d : Option Nat) (v : AV C.Θ.T) : (s.put d v).rows = s.rows := by cases d <;> rfl
theorem put_comm (s : St C.Θ.T) (d e : Option Nat) (v u : AV C.Θ.T) (h : ∀ t, d = some t → e ≠ some t) : (s.put d v).put e u = (s.put e u).put d v := by
  cases d with
  | none => rfl
  | some d =>
    cases e with
    | none => rfl
    | some e =>
      have hne : d ≠ e := fun x => h d rfl (by rw [x])
      simp only [St.put]
      rw [List.set_comm _ _ hne]
structure Alike (s t : St C.Θ.T) (l : List Operand) : Prop where
  ev : ∀ x ∈ l, t.ev x = s.ev x
  boxes : t.boxes = s.boxes
  rows : t.rows = s.rows
theorem get_rows {s t : St C.Θ.T} (h : t.rows = s.rows) (l : Leaf) (c : CV C.Θ.T) : t.get l c = s.get l c := by unfold St.get; rw [h]
theorem get_rows' {s t : St C.Θ.T} (h : t.rows = s.rows) : t.get = s.get := by funext l c; exact get_rows h l c
theorem get_rowsF {s t : St C.Θ.T} (hr : t.rows = s.rows) : @St.get _ t = @St.get _ s := by
  funext l c
  cases c <;> simp [St.get, hr]
theorem lookup_alike {s t : St C.Θ.T} (hr : t.rows = s.rows) (ty : TypeId) (x : AV C.Θ.T) (ok : Bool) (y : AV C.Θ.T) : vLookup C.P C.Θ t ty x ok y = vLookup C.P C.Θ s ty x ok y := by
  unfold vLookup St.elemOf
  rw [hr, get_rowsF hr]
theorem flat_vs (l : List (PV C.Θ.T)) : (l.map (CV.v (T := C.Θ.T))).flatMap CV.mB = [] ∧ (l.map (CV.v (T := C.Θ.T))).flatMap CV.mR = [] := by
  induction l with
  | nil => exact ⟨rfl, rfl⟩
  | cons x l ih => simp [CV.mB, CV.mR]
theorem lookup_plain {s : St C.Θ.T} {ty : TypeId} {x y v : AV C.Θ.T} {ok c : Bool} (h : vLookup C.P C.Θ s ty x ok y = some (c, v)) : v.mB = [] ∧ v.mR = [] := by
  have one : ∀ {et : TypeId} {l : List (PV C.Θ.T)} {v' : AV C.Θ.T}, ofCells C.P et (l.map .v) = some v' → (∀ q, sumOf v' = some q → (AV.tup [q, .inl (.v (.bool true))]).mB = [] ∧ (AV.tup [q, .inl (.v (.bool true))]).mR = []) ∧ v'.mB = [] ∧ v'.mR = [] := by
    intro et l v' h
    obtain ⟨f1, f2⟩ := flat_vs (C := C) l
    rcases ofCells_ok h with ⟨_, rfl⟩ | ⟨_, c, hc, rfl⟩
    · refine ⟨fun q hq => ?_, f1, f2⟩
      simp only [sumOf, Option.some.injEq] at hq
      subst hq
      refine ⟨?_, ?_⟩ <;> simp_all [AV.mB, AV.mR, CV.mB, CV.mR]
    · rw [hc] at f1 f2
      simp at f1 f2
      refine ⟨fun q hq => ?_, f1, f2⟩
      simp only [sumOf, Option.some.injEq] at hq
      subst hq
      refine ⟨?_, ?_⟩ <;> simp_all [AV.mB, AV.mR, CV.mB, CV.mR]
  unfold vLookup at h
  split at h <;> try (cases h; done)
  split at h <;> try (cases h; done)
  split at h <;> try (cases h; done)
  split at h <;> try (cases h; done)
  split at h <;> try (cases h; done)
  split at h <;> try (cases h; done)
  split at h <;> try (cases h; done)
  split at h <;> try (cases h; done)
  split at h <;> try (cases h; done)
  split at h <;> try (cases h; done)
  split at h <;> try (cases h; done)
  split at h <;> try (cases h; done)
  split at h <;> try (cases h; done)
  rename_i v' hv'
  obtain ⟨o1, o2⟩ := one hv'
  split at h
  · split at h <;> try (cases h; done)
    rename_i q hq
    cases h
    exact o1 q hq
  · cases h; exact o2
theorem cellsAt_alike {s t : St C.Θ.T} (hb : t.boxes = s.boxes) (hr : t.rows = s.rows) (v : AV C.Θ.T) : t.cellsAt C.Θ v = s.cellsAt C.Θ v := by
  unfold St.cellsAt; rw [hb, hr]
theorem bound_alike {s t : St C.Θ.T} (x : Option Operand) (h : ∀ y ∈ x.toArray, t.ev y = s.ev y) : vBound t x = vBound s x := by
  cases x with
  | none => rfl
  | some x => simp only [vBound]; rw [h x (by simp)]
theorem caps_alike {s t : St C.Θ.T} : ∀ (l : List Operand), (∀ y ∈ l, t.ev y = s.ev y) → capsOf t l = capsOf s l := by
  intro l
  induction l with
  | nil => intro _; rfl
  | cons x l ih => intro h; simp only [capsOf]; rw [h x (by simp), ih fun y hy => h y (by simp [hy])]
theorem sums_alike {s t : St C.Θ.T} : ∀ (l : List Operand), (∀ y ∈ l, t.ev y = s.ev y) → sumsOf t l = sumsOf s l := by
  intro l
  induction l with
  | nil => intro _; rfl
  | cons x l ih => intro h; simp only [sumsOf]; rw [h x (by simp), ih fun y hy => h y (by simp [hy])]
theorem parts_alike {s t : St C.Θ.T} (ty : TypeId) : ∀ (l : List (Nat × Operand)) (cs : List (CV C.Θ.T)), (∀ p ∈ l, t.ev p.2 = s.ev p.2) → fillParts C.P t ty l cs = fillParts C.P s ty l cs := by
  intro l
  induction l with
  | nil => intro _ _; rfl
  | cons x l ih =>
    intro cs h
    obtain ⟨f, x⟩ := x
    simp only [fillParts]
    rw [h (f, x) (by simp)]
    have := fun cs => ih cs fun p hp => h p (by simp [hp])
    simp only [this]
theorem map_alike {s t : St C.Θ.T} (l : List Operand) (h : ∀ y ∈ l, t.ev y = s.ev y) : l.map t.ev = l.map s.ev := List.map_congr_left h
theorem opV_alike {s t : St C.Θ.T} {op : Op} (h : Alike s t op.operands.toList) : opV C.P C.Θ C.eqs t op = opV C.P C.Θ C.eqs s op := by
  obtain ⟨hev, hb, hr⟩ := h
  cases op with
  | call c =>
    obtain ⟨callee, args, ats⟩ := c
    simp only [Op.operands, Call.operands] at hev
    have ha : ∀ y ∈ args.toList, t.ev y = s.ev y := fun y hy => hev y (by simp at hy ⊢; exact .inr hy)
    cases callee with
    | builtin b =>
      simp only [opV]
      rw [map_alike _ ha]
      cases b <;> try rfl
      case len =>
        simp only
        split
        · rename_i x ty tys hl ht
          have : t.ev x = s.ev x := ha x (by rw [hl]; simp)
          rw [this]
          unfold vLen; rw [hr]
        · rfl
    | _ => rfl
  | build ty ps =>
    simp only [opV, vBuild]
    simp only [Op.operands] at hev
    have : ∀ p ∈ ps.toList, t.ev p.2 = s.ev p.2 := fun p hp => hev p.2 (by simp; exact ⟨p.1, by simpa using hp⟩)
    split
    · split
      · rw [parts_alike ty _ _ this]
      · rfl
    · rfl
  | makeFunc fn first caps =>
    simp only [opV, vFunc]
    simp only [Op.operands] at hev
    rw [caps_alike caps.toList fun y hy => hev y (by simp at hy ⊢; exact .inr hy), sums_alike first.toList fun y hy => hev y (by simp at hy ⊢; exact .inl hy)]
  | slice ty x lo hi mx =>
    simp only [opV, vSlice]
    simp only [Op.operands] at hev
    rw [bound_alike lo fun y hy => hev y (by simp at hy ⊢; exact .inr (.inl hy)), bound_alike hi fun y hy => hev y (by simp at hy ⊢; exact .inr (.inr (.inl hy))), hev x (by simp)]
  | load ty x =>
    simp only [opV, vLoad]
    simp only [Op.operands] at hev
    rw [hev x (by simp), cellsAt_alike hb hr]
  | indexAddr ty x i =>
    simp only [opV, vIndexAddr]
    simp only [Op.operands] at hev
    rw [hev x (by simp), hev i (by simp), hr]
  | lookup ty x i ok =>
    simp only [opV]
    simp only [Op.operands] at hev
    rw [hev x (by simp), hev i (by simp)]
    exact lookup_alike hr _ _ _ _
  | _ => first
    | rfl
    | (simp only [opV]; simp only [Op.operands] at hev; simp [hev])
theorem dropBoxes_nil {T : TypeId → Type} (l : List (Nat × BoxS T)) : dropBoxes l [] = l := by
  induction l with
  | nil => rfl
  | cons x l ih => obtain ⟨k, B⟩ := x; simp [dropBoxes, ih]
theorem dropRows_nil {T : TypeId → Type} (l : List (Nat × RowS T)) : dropRows l [] = l := by
  induction l with
  | nil => rfl
  | cons x l ih => obtain ⟨k, B⟩ := x; simp [dropRows, ih]
theorem get_congr {s t : St C.Θ.T} (l : Leaf) (c : CV C.Θ.T) (h : ∀ p ∈ c.mR, look t.rows p.1 = look s.rows p.1) : t.get l c = s.get l c := by
  cases c with
  | row r g => simp only [St.get]; rw [h (r, g) (by simp [CV.mR])]
  | _ => rfl
theorem notMap_congr {s t : St C.Θ.T} (c : CV C.Θ.T) (h : ∀ p ∈ c.mR, look t.rows p.1 = look s.rows p.1) : notMap t c = notMap s c := by
  cases c with
  | row r g => simp only [notMap]; rw [h (r, g) (by simp [CV.mR])]
  | _ => rfl
theorem leafs_congr {s t : St C.Θ.T} : ∀ (ls : List Leaf) (cs : List (CV C.Θ.T)), (∀ c ∈ cs, ∀ p ∈ c.mR, look t.rows p.1 = look s.rows p.1) → leafs t ls cs = leafs s ls cs := by
  intro ls
  induction ls with
  | nil => intro cs _; rfl
  | cons l ls ih =>
    intro cs h
    cases cs with
    | nil => rfl
    | cons c cs =>
      simp only [leafs]
      rw [get_congr l c (h c (by simp)), ih cs fun c hc => h c (by simp [hc]), notMap_congr c (h c (by simp))]
theorem frC_congr {s t : St C.Θ.T} {ks : List Nat} (c : CV C.Θ.T) (h : ∀ p ∈ c.mR, look t.rows p.1 = look s.rows p.1) : frC t ks c = frC s ks c := by
  cases c with
  | row r g => simp only [frC]; rw [h (r, g) (by simp [CV.mR])]
  | _ => rfl
theorem frA_congr {s t : St C.Θ.T} {ks : List Nat} (v : AV C.Θ.T) (h : ∀ p ∈ v.mR, look t.rows p.1 = look s.rows p.1) : frA t ks v = frA s ks v := by
  have many : ∀ cs : List (CV C.Θ.T), (∀ p ∈ cs.flatMap CV.mR, look t.rows p.1 = look s.rows p.1) → cs.map (frC t ks) = cs.map (frC s ks) := fun cs h =>
    List.map_congr_left fun c hc => frC_congr c fun p hp => h p (List.mem_flatMap.2 ⟨c, hc, hp⟩)
  have sums : ∀ l : List (CV C.Θ.T ⊕ List (CV C.Θ.T)), (∀ q ∈ l, ∀ p ∈ (sumAV q).mR, look t.rows p.1 = look s.rows p.1) → l.map (frS t ks) = l.map (frS s ks) := fun l h =>
    List.map_congr_left fun q hq => by
      have := h q hq
      cases q with
      | inl c => simp only [frS]; rw [frC_congr c this]
      | inr cs => simp only [frS]; rw [many cs this]
  have sumsOf : ∀ (l : List (CV C.Θ.T ⊕ List (CV C.Θ.T))) (f : CV C.Θ.T ⊕ List (CV C.Θ.T) → List (Nat × Nat)), (∀ q, f q = (sumAV q).mR) → (∀ p ∈ l.flatMap f, look t.rows p.1 = look s.rows p.1) → l.map (frS t ks) = l.map (frS s ks) := fun l f hf h =>
    sums l fun q hq p hp => h p (List.mem_flatMap.2 ⟨q, hq, by rw [hf]; exact hp⟩)
  cases v with
  | c x => simp only [frA]; rw [frC_congr x h]
  | agg cs => simp only [frA]; rw [many cs h]
  | tup l => simp only [frA]; rw [sumsOf l _ (fun q => by cases q <;> rfl) h]
  | mth f l => simp only [frA]; rw [sumsOf l _ (fun q => by cases q <;> rfl) h]
  | yld y l =>
    simp only [frA]
    congr 1
    refine List.map_congr_left fun q hq => ?_
    have hp : ∀ p ∈ q.mR, look t.rows p.1 = look s.rows p.1 := fun p hp => h p (List.mem_flatMap.2 ⟨q, hq, hp⟩)
    cases q with
    | c x => simp only [frK]; rw [frC_congr x hp]
    | agg cs => simp only [frK]; rw [many cs hp]
    | cel xs => rfl
  | _ => rfl
structure Shown (s t : St C.Θ.T) (avs : List (AV C.Θ.T)) : Prop where
  box : ∀ v ∈ avs, ∀ p ∈ v.mB, look t.boxes p.1 = look s.boxes p.1
  cell : ∀ v ∈ avs, ∀ p ∈ v.mB, ∀ B, look s.boxes p.1 = some B → ∀ c ∈ B.cells, ∀ q ∈ c.mR, look t.rows q.1 = look s.rows q.1
  row : ∀ v ∈ avs, ∀ p ∈ v.mR, look t.rows p.1 = look s.rows p.1
theorem celA_congr {s t : St C.Θ.T} {v : AV C.Θ.T} {avs : List (AV C.Θ.T)} (h : Shown s t avs) (hv : v ∈ avs) (ls : List Leaf) : celA (St.cellsAt C.Θ) t ls v = celA (St.cellsAt C.Θ) s ls v := by
  have e : t.cellsAt C.Θ v = s.cellsAt C.Θ v := by
    unfold St.cellsAt
    split
    · rename_i k g off; rw [h.box _ hv (k, g) (by simp [AV.mB, CV.mB])]
    · rfl
    · rename_i r g i sz off; rw [h.row _ hv (r, g) (by simp [AV.mR])]
    · rfl
  unfold celA
  rw [e]
  cases hc : s.cellsAt C.Θ v with
  | none => rfl
  | some cs =>
    simp only
    rw [leafs_congr (s := s) ls cs]
    intro c hcm p hp
    unfold St.cellsAt at hc
    split at hc <;> try (cases hc; done)
    · rename_i k g off
      split at hc <;> try (cases hc; done)
      rename_i B hB
      split at hc <;> try (cases hc; done)
      cases hc
      exact h.cell _ hv (k, g) (by simp [AV.mB, CV.mB]) B hB c (List.mem_of_mem_drop hcm) p hp
    · cases hc
      obtain ⟨x, _, rfl⟩ := List.mem_map.1 hcm
      simp [CV.mR] at hp
    · split at hc <;> try (cases hc; done)
      split at hc <;> try (cases hc; done)
      split at hc <;> try (cases hc; done)
      cases hc
      obtain ⟨x, _, rfl⟩ := List.mem_map.1 hcm
      simp [CV.mR] at hp
theorem lendAs_congr {s t : St C.Θ.T} {avs : List (AV C.Θ.T)} (h : Shown s t avs) (ks : List Nat) : ∀ (ts : List AT) (l : List (AV C.Θ.T)), (∀ v ∈ l, v ∈ avs) → lendAs (St.cellsAt C.Θ) t ks ts l = lendAs (St.cellsAt C.Θ) s ks ts l := by
  intro ts
  induction ts with
  | nil => intro l _; rfl
  | cons a ts ih =>
    intro l hl
    cases l with
    | nil => rfl
    | cons v l =>
      simp only [lendAs]
      rw [ih l fun v hv => hl v (by simp [hv])]
      have hf := frA_congr (ks := ks) v (h.row v (hl v (by simp)))
      have : lendA (St.cellsAt C.Θ) t ks a v = lendA (St.cellsAt C.Θ) s ks a v := by
        cases a with
        | cel ls => cases v <;> first | rfl | exact celA_congr h (hl _ (by simp)) ls
        | _ => exact hf
      rw [this]
theorem find_mem {rd : St C.Θ.T → AV C.Θ.T → Option (List (CV C.Θ.T))} {g : Nat} {s : St C.Θ.T} {avs : List (AV C.Θ.T)} : ∀ (Γ : List (Nat × Go.Den.Spec C.Θ.T)) (hit : Hit C.Θ.T), findSpec (flatE C.Θ) rd Γ g s avs = some hit → (g, hit.sp) ∈ Γ := by
  intro Γ
  induction Γ with
  | nil => intro hit h; cases h
  | cons p Γ ih =>
    intro hit h
    simp only [findSpec] at h
    split at h
    · rename_i hg
      split at h
      · cases h; rw [← hg]; simp
      · exact List.mem_cons_of_mem _ (ih hit h)
    · exact List.mem_cons_of_mem _ (ih hit h)
theorem find_congr {s t : St C.Θ.T} {avs : List (AV C.Θ.T)} {g : Nat} : ∀ (Γ : List (Nat × Go.Den.Spec C.Θ.T)), (∀ p ∈ Γ, p.1 = g → entryOf (flatE C.Θ) (St.cellsAt C.Θ) p.2 t avs = entryOf (flatE C.Θ) (St.cellsAt C.Θ) p.2 s avs) → findSpec (flatE C.Θ) (St.cellsAt C.Θ) Γ g t avs = findSpec (flatE C.Θ) (St.cellsAt C.Θ) Γ g s avs := by
  intro Γ
  induction Γ with
  | nil => intro _; rfl
  | cons p Γ ih =>
    intro h
    simp only [findSpec]
    rw [ih fun q hq => h q (by simp [hq])]
    by_cases hg : p.1 = g
    · simp only [hg, if_true]; rw [h p (by simp) hg]
    · simp only [if_neg hg]
theorem quiet_ready {s : St C.Θ.T} {g : Nat} {avs : List (AV C.Θ.T)} {r : Ready C.Θ.T} (hq : ∀ p ∈ C.Γ, (!(p.1 == g) || quietSpec (flatE C.Θ) p.2) = true) (h : ready (flatE C.Θ) (St.cellsAt C.Θ) C.Γ s g avs = some r) :
    r.s = s ∧ r.sp.hin.boxes = [] ∧ r.sp.hin.rows = [] ∧ (∀ q ∈ r.sp.outs, q.2.boxes = [] ∧ q.2.rows = []) ∧ ∀ t : St C.Θ.T, t.boxes = s.boxes → t.rows = s.rows → ready (flatE C.Θ) (St.cellsAt C.Θ) C.Γ t g avs = some ⟨t, r.sp, r.avs, r.y⟩ := by
  obtain ⟨hm, _⟩ := ready_ok h
  have hsp := hq _ hm
  simp only [beq_self_eq_true, Bool.not_true, Bool.false_or] at hsp
  simp only [quietSpec, Bool.and_eq_true, List.isEmpty_iff, List.all_eq_true] at hsp
  obtain ⟨⟨⟨h1, h2⟩, h3⟩, h4⟩ := hsp
  unfold ready at h
  split at h <;> try (cases h; done)
  rename_i hit hh
  split at h
  · rename_i hc
    cases h
    refine ⟨rfl, h1, h2, fun q hq' => h4 q hq', fun t hb hr => ?_⟩
    unfold ready
    have : findSpec (flatE C.Θ) (St.cellsAt C.Θ) C.Γ g t avs = findSpec (flatE C.Θ) (St.cellsAt C.Θ) C.Γ g s avs := by
      refine find_congr _ fun p _ _ => ?_
      unfold entryOf
      rw [hb, hr, lendAs_congr (s := s) (avs := avs) ⟨fun _ _ _ _ => by rw [hb], fun _ _ _ _ _ _ _ _ _ _ => by rw [hr], fun _ _ _ _ => by rw [hr]⟩ _ _ _ fun _ h => h]
    rw [this, hh]
    simp only [hc, if_true]
  · rename_i hc
    split at h <;> try (cases h; done)
    split at h <;> try (cases h; done)
    cases h
    simp only at h3
    simp [h3] at hc
theorem quiet_after {s s' : St C.Θ.T} {hin : Shape} {y : Ext C.Θ.T hin} {es : Shape} {x : es.X C.Θ.T} {flat : Bool} {dst : Option Nat} (he : es.boxes = [] ∧ es.rows = []) (hb : hin.boxes = []) (hr : hin.rows = [])
    {fe : TypeId → Bool} (h : after fe s hin y (es.st x) flat dst = some s') : ∃ v, (∀ t : St C.Θ.T, after fe t hin y (es.st x) flat dst = some (t.put dst v)) ∧ s' = s.put dst v := by
  have e1 : (es.st x).boxes = [] := by unfold Shape.st Shape.mk'; simp only [he.1]; rfl
  have e2 : (es.st x).rows = [] := by unfold Shape.st Shape.mk'; simp only [he.2]; rfl
  have key : ∀ t : St C.Θ.T, after fe t hin y (es.st x) flat dst = if (flat && !((es.st x).flat fe)) = true then none else match resA [] [] (es.st x).slots with
    | some v => some (t.put dst v)
    | none => none := by
    intro t
    unfold after
    rw [e1, e2, hb, hr]
    simp only [renBs, renRs, newBs, newRs, keysOf, apartKs, boxKs, rowKs, lentBs, lentRs, List.append_nil, List.nil_append, dropBoxes_nil, dropRows_nil, Bool.and_self, if_true]
    split
    · rfl
    · cases resA (T := C.Θ.T) [] [] (es.st x).slots <;> rfl
  rw [key] at h
  split at h <;> try (cases h; done)
  rename_i hc
  split at h <;> try (cases h; done)
  rename_i v hv
  cases h
  exact ⟨v, fun t => by rw [key, if_neg hc, hv], rfl⟩
theorem quiet_step {s s1 : St C.Θ.T} {o : Oper} (hq : quiet C o = true) (h : stepD C s o = some s1) :
    ∃ v, s1 = s.put o.dst v ∧ ∀ t, Alike s t o.op.operands.toList → stepD C t o = some (t.put o.dst v) := by
  obtain ⟨dst, op, ty, pos, after, guard⟩ := o
  simp only [quiet, Bool.and_eq_true, Bool.or_eq_true, Bool.not_eq_true'] at hq
  obtain ⟨⟨hlr, hm⟩, hq⟩ := hq
  rcases hm with hm | hlit
  rotate_left
  ·
    cases op <;> try (cases hlit; done)
    rename_i lt len parts
    have hst : ∀ t : St C.Θ.T, stepD C t ⟨dst, .buildSlice lt len parts, ty, pos, after, guard⟩ = match opA C.P C.Θ t ⟨dst, .buildSlice lt len parts, ty, pos, after, guard⟩ with
      | some (c, s') => cond c (some s') none
      | none => none := fun t => by
        show (match plain1 C t ⟨dst, .buildSlice lt len parts, ty, pos, after, guard⟩ with
          | some (c, s') => cond c (some s') none
          | none => none : Option (St C.Θ.T)) = _
        unfold plain1
        rw [if_neg (by rw [hlr]; decide)]
        rfl
    rw [hst] at h
    cases dst with
    | none => simp [opA] at h
    | some d =>
      have hop : ∀ t : St C.Θ.T, opA C.P C.Θ t ⟨some d, .buildSlice lt len parts, ty, pos, after, guard⟩ = aLit C.P C.Θ t d lt len parts := fun t => rfl
      rw [hop] at h
      have hal : ∀ t : St C.Θ.T, Alike s t (Op.buildSlice lt len parts).operands.toList → ∀ (e : TypeId) (l : List (Nat × Operand)) (j : Nat), (∀ p ∈ l, p ∈ parts.toList) → litElems C.Θ t e j l = litElems C.Θ s e j l := by
        intro t ht e l
        induction l with
        | nil => intro j _; rfl
        | cons x l ih =>
          intro j hx
          obtain ⟨i, x⟩ := x
          have hev : t.ev x = s.ev x := ht.ev x (by
            have := hx (i, x) (by simp)
            simp only [Op.operands, List.mem_map]
            exact ⟨(i, x), this, rfl⟩)
          simp only [litElems]
          rw [hev, ih (j + 1) (fun p hp => hx p (by simp [hp]))]
          have : t.elemOf C.Θ e = s.elemOf C.Θ e := by
            funext cs
            unfold St.elemOf
            rw [get_rows' ht.rows]
          rw [this]
      cases ha : aLit C.P C.Θ s d lt len parts with
      | none => simp [ha] at h
      | some q =>
      obtain ⟨c, s2⟩ := q
      simp only [ha] at h
      cases c with
      | false => cases h
      | true =>
      simp only [cond_true, Option.some.injEq] at h
      subst h
      unfold aLit at ha
      split at ha <;> try (cases ha; done)
      rename_i e he
      split at ha <;> try (cases ha; done)
      rename_i inf hi
      split at ha <;> try (cases ha; done)
      rename_i hc
      split at ha <;> try (cases ha; done)
      rename_i l hl
      simp only [Option.some.injEq, Prod.mk.injEq, true_and] at ha
      refine ⟨_, ha.symm, fun t ht => ?_⟩
      rw [hst, hop]
      unfold aLit
      simp only [he, hi, if_pos hc]
      rw [hal t ht e parts.toList 0 (fun p hp => hp), hl]
      rfl
  have plainQ : ∀ (op : Op), litR C.Θ ⟨dst, op, ty, pos, after, guard⟩ = false → isMem op = false → plain1 C s ⟨dst, op, ty, pos, after, guard⟩ = (match opV C.P C.Θ C.eqs s op with | some (c, v) => some (c, s.put dst v) | none => none) := fun op hl h => by
    unfold plain1; rw [if_neg (by rw [hl]; decide), if_neg (by simp [h])]; rfl
  have plainQ' : ∀ (t : St C.Θ.T) (op : Op), litR C.Θ ⟨dst, op, ty, pos, after, guard⟩ = false → isMem op = false → plain1 C t ⟨dst, op, ty, pos, after, guard⟩ = (match opV C.P C.Θ C.eqs t op with | some (c, v) => some (c, t.put dst v) | none => none) := fun t op hl h => by
    unfold plain1; rw [if_neg (by rw [hl]; decide), if_neg (by simp [h])]; rfl
  have main : ∀ op, litR C.Θ ⟨dst, op, ty, pos, after, guard⟩ = false → isMem op = false → (match plain1 C s ⟨dst, op, ty, pos, after, guard⟩ with | some (c, s') => cond c (some s') none | none => none : Option (St C.Θ.T)) = some s1 →
      ∃ v, s1 = s.put dst v ∧ ∀ t, Alike s t op.operands.toList → (match plain1 C t ⟨dst, op, ty, pos, after, guard⟩ with | some (c, s') => cond c (some s') none | none => none : Option (St C.Θ.T)) = some (t.put dst v) := by
    intro op hl hm h
    rw [plainQ op hl hm] at h
    cases ho : opV C.P C.Θ C.eqs s op with
    | none => simp [ho] at h
    | some q =>
      obtain ⟨c, v⟩ := q
      simp only [ho] at h
      cases c with
      | false => cases h
      | true =>
        simp only [cond_true, Option.some.injEq] at h
        refine ⟨v, h.symm, fun t ht => ?_⟩
        rw [plainQ' t op hl hm, opV_alike ht, ho]
        rfl
  cases op with
  | pick c x y =>
    have hst : ∀ t : St C.Θ.T, stepD C t ⟨dst, .pick c x y, ty, pos, after, guard⟩ = match t.ev c with
      | .c (.v (.bool b)) => cond b (some (t.put dst (t.ev x))) (some (t.put dst (t.ev y)))
      | _ => none := by intro t; cases c <;> rfl
    rw [hst] at h
    split at h <;> try (cases h; done)
    rename_i b hb
    refine ⟨cond b (s.ev x) (s.ev y), ?_, fun t ht => ?_⟩
    · cases b <;> (cases h; rfl)
    · rw [hst]
      have h1 := ht.ev c (by simp [Op.operands])
      have h2 := ht.ev x (by simp [Op.operands])
      have h3 := ht.ev y (by simp [Op.operands])
      rw [h1, hb, h2, h3]
      cases b <;> rfl
  | call c =>
    obtain ⟨callee, args, ats⟩ := c
    cases callee with
    | value f =>
      cases f with
      | func g =>
        simp only [List.all_eq_true] at hq
        have hst : ∀ t : St C.Θ.T, stepD C t ⟨dst, .call ⟨.value (.func g), args, ats⟩, ty, pos, after, guard⟩ = match ready (flatE C.Θ) (St.cellsAt C.Θ) C.Γ t g (args.toList.map t.ev) with
          | some r => callK (flatE C.Θ) r dst some
          | none => none := by
          intro t
          have : calleeOf C t (.func g) = some (g, [], []) := rfl
          simp only [stepD, stepC, this, List.nil_append, List.append_nil]
          rfl
        rw [hst] at h
        split at h <;> try (cases h; done)
        rename_i r hr
        have hrs := quiet_ready hq hr
        obtain ⟨z, q, x, hF, hmem, e1, haf, hto⟩ := callK_some h
        obtain ⟨h1, h2, h3, h4, h5⟩ := hrs
        obtain ⟨v, hv, hres⟩ := quiet_after (h4 q hmem) h2 h3 haf
        refine ⟨v, by rw [hres, h1], fun t ht => ?_⟩
        rw [hst]
        have : args.toList.map t.ev = args.toList.map s.ev := map_alike _ fun z hz => ht.ev z (by simp [Op.operands, Call.operands] at hz ⊢; exact .inr hz)
        rw [this, h5 t ht.boxes ht.rows]
        simp only
        unfold callK
        simp only [hF, Option.bind_some]
        rw [hto]
        simp only [e1]
        rw [hv t]
      | _ => cases hq
    | _ => exact main _ hlr hm h
  | _ => exact main _ hlr hm h
theorem Alike.of_put {s : St C.Θ.T} {d : Option Nat} {v : AV C.Θ.T} {l : List Operand} (h : ∀ t, d = some t → (Operand.tmp t) ∉ l) : Alike s (s.put d v) l :=
  ⟨fun x hx => ev_put s d v x fun t e he => h t e (he ▸ hx), put_boxes s d v, put_rows s d v⟩
theorem Alike.of_put' {s : St C.Θ.T} {d : Option Nat} {v : AV C.Θ.T} {l : List Operand} (h : ∀ t, d = some t → (Operand.tmp t) ∉ l) : Alike (s.put d v) s l :=
  ⟨fun x hx => (ev_put s d v x fun t e he => h t e (he ▸ hx)).symm, (put_boxes s d v).symm, (put_rows s d v).symm⟩
structure Alike2 (ops : Array Oper) (s t : St C.Θ.T) (o : Oper) : Prop where
  a : Alike s t o.op.operands.toList
  g : ∀ j w d, o.guard = some (j, w) → (ops[j]?).bind (·.dst) = some d → t.at_ d = s.at_ d
theorem quiet_guard {ops : Array Oper} {s s1 : St C.Θ.T} {o : Oper} (hq : quiet C o = true) (h : guardD C ops s o = some s1) :
    ∃ v, s1 = s.put o.dst v ∧ ∀ t, Alike2 ops s t o → guardD C ops t o = some (t.put o.dst v) := by
  unfold guardD at h
  split at h
  · rename_i hg
    obtain ⟨v, h1, h2⟩ := quiet_step hq h
    exact ⟨v, h1, fun t ht => by unfold guardD; rw [hg]; exact h2 t ht.a⟩
  · rename_i j w hg
    split at h <;> try (cases h; done)
    rename_i d hj
    split at h <;> try (cases h; done)
    · rename_i b hb
      split at h
      · rename_i hbw
        obtain ⟨v, h1, h2⟩ := quiet_step hq h
        refine ⟨v, h1, fun t ht => ?_⟩
        unfold guardD
        simp only [hg, hj, ht.g j w d hg hj, hb, if_pos hbw]
        exact h2 t ht.a
      · rename_i hbw
        cases h
        refine ⟨.skip, rfl, fun t ht => ?_⟩
        unfold guardD
        simp only [hg, hj, ht.g j w d hg hj, hb, if_neg hbw]
    · rename_i hb
      cases h
      refine ⟨.skip, rfl, fun t ht => ?_⟩
      unfold guardD
      simp only [hg, hj, ht.g j w d hg hj, hb]
theorem mem_looks {ops : Array Oper} {o : Oper} {t : Nat} (h : t ∉ o.looksAt ops) : (Operand.tmp t) ∉ o.op.operands.toList ∧ ∀ j w, o.guard = some (j, w) → (ops[j]?).bind (·.dst) ≠ some t := by
  constructor
  · intro hm
    exact h (List.mem_append_left _ (List.mem_filterMap.2 ⟨.tmp t, hm, rfl⟩))
  · intro j w hg he
    apply h
    unfold Oper.looksAt
    rw [hg]
    simp [he]
theorem alike2_put {ops : Array Oper} {s : St C.Θ.T} {o : Oper} {d : Option Nat} {v : AV C.Θ.T} (h : ∀ t, d = some t → t ∉ o.looksAt ops) : Alike2 ops s (s.put d v) o :=
  ⟨Alike.of_put fun t e => (mem_looks (h t e)).1, fun j w d' hg hj => at_put s d v d' fun e => (mem_looks (h d' e)).2 j w hg hj⟩
theorem alike2_put' {ops : Array Oper} {s : St C.Θ.T} {o : Oper} {d : Option Nat} {v : AV C.Θ.T} (h : ∀ t, d = some t → t ∉ o.looksAt ops) : Alike2 ops (s.put d v) s o :=
  ⟨Alike.of_put' fun t e => (mem_looks (h t e)).1, fun j w d' hg hj => (at_put s d v d' fun e => (mem_looks (h d' e)).2 j w hg hj).symm⟩
theorem swap {ops : Array Oper} {s s1 s2 : St C.Θ.T} {x y : Oper} (hx : quiet C x = true) (hy : quiet C y = true) (hap : Oper.apart ops x y = true) (h1 : guardD C ops s x = some s1) (h2 : guardD C ops s1 y = some s2) :
    ∃ s1', guardD C ops s y = some s1' ∧ guardD C ops s1' x = some s2 := by
  obtain ⟨a1, a2, a3⟩ := Oper.apart_spec hap
  obtain ⟨v, e1, g1⟩ := quiet_guard hx h1
  obtain ⟨u, e2, g2⟩ := quiet_guard hy h2
  subst e1
  have k1 := g2 s (alike2_put' a1)
  refine ⟨_, k1, ?_⟩
  rw [g1 _ (alike2_put a3), e2, put_comm s x.dst y.dst v u a2]
theorem front {ops : Array Oper} {o : Oper} : ∀ (l1 l2 : List Oper) (s s' : St C.Θ.T), (∀ k ∈ l1, quiet C k = true ∧ quiet C o = true ∧ Oper.apart ops k o = true) → opsD C ops (l1 ++ o :: l2) s = some s' →
    ∃ s1, guardD C ops s o = some s1 ∧ opsD C ops (l1 ++ l2) s1 = some s' := by
  intro l1
  induction l1 with
  | nil =>
    intro l2 s s' _ h
    simp only [List.nil_append, opsD] at h
    split at h <;> try (cases h; done)
    rename_i s1 h1
    exact ⟨s1, h1, h⟩
  | cons k l1 ih =>
    intro l2 s s' hk h
    simp only [List.cons_append, opsD] at h
    split at h <;> try (cases h; done)
    rename_i s1 h1
    obtain ⟨s2, h2, h3⟩ := ih l2 s1 s' (fun k hk' => hk k (by simp [hk'])) h
    obtain ⟨q1, q2, q3⟩ := hk k (by simp)
    obtain ⟨s1', g1, g2⟩ := swap q1 q2 q3 h1 h2
    refine ⟨s1', g1, ?_⟩
    simp only [List.cons_append, opsD, g2]
    exact h3
theorem anc_spec : ∀ (l : List Oper) (tab : List Nat), (∀ i, i < tab.length → (ancTab l tab).getD i 0 = tab.getD i 0) ∧
    ∀ j o, l[j]? = some o → ∃ t' : List Nat, (ancTab l tab).getD (tab.length + j) 0 = edgeMask t' o.after.toList ∧ ∀ i, i < tab.length + j → t'.getD i 0 = (ancTab l tab).getD i 0 := by
  intro l
  induction l with
  | nil => intro tab; exact ⟨fun i _ => rfl, fun j o h => by simp at h⟩
  | cons x l ih =>
    intro tab
    obtain ⟨h1, h2⟩ := ih (tab ++ [edgeMask tab x.after.toList])
    have hlen : (tab ++ [edgeMask tab x.after.toList]).length = tab.length + 1 := by simp
    have hold : ∀ i, i < tab.length → (tab ++ [edgeMask tab x.after.toList]).getD i 0 = tab.getD i 0 := fun i hi => by
      simp [List.getD_eq_getElem?_getD, List.getElem?_append_left hi]
    refine ⟨fun i hi => ?_, fun j o hj => ?_⟩
    · simp only [ancTab]
      rw [h1 i (by omega), hold i hi]
    · cases j with
      | zero =>
        simp at hj
        subst hj
        refine ⟨tab, ?_, fun i hi => ?_⟩
        · simp only [ancTab, Nat.add_zero]
          rw [h1 tab.length (by omega)]
          simp [List.getD_eq_getElem?_getD]
        · simp only [ancTab]
          rw [h1 i (by omega), hold i (by omega)]
      | succ j =>
        simp at hj
        obtain ⟨t', e1, e2⟩ := h2 j o hj
        rw [hlen] at e1 e2
        refine ⟨t', ?_, fun i hi => ?_⟩
        · simp only [ancTab]
          rw [← e1]; congr 1; omega
        · simp only [ancTab]
          exact e2 i (by omega)
theorem mask_spec (tab : List Nat) : ∀ (l : List Edge) (k : Nat), (edgeMask tab l).testBit k = true → ∃ e ∈ l, Region.binds .any e = true ∧ (e.on = k ∨ (tab.getD e.on 0).testBit k = true) := by
  intro l
  induction l with
  | nil => intro k h; simp [edgeMask] at h
  | cons e l ih =>
    intro k h
    simp only [edgeMask] at h
    split at h
    · rename_i hb
      rw [Nat.testBit_or, Nat.testBit_or, Bool.or_eq_true, Bool.or_eq_true] at h
      rcases h with (h | h) | h
      · refine ⟨e, by simp, hb, .inl ?_⟩
        rw [Nat.one_shiftLeft, Nat.testBit_two_pow] at h
        simpa using h
      · exact ⟨e, by simp, hb, .inr h⟩
      · obtain ⟨e', h1, h2⟩ := ih k h; exact ⟨e', by simp [h1], h2⟩
    · obtain ⟨e', h1, h2⟩ := ih k h; exact ⟨e', by simp [h1], h2⟩
def Shut (ops : Array Oper) (listed : Array Bool) : Prop := ∀ m o, ops[m]? = some o → listed.getD m false = true → ∀ e ∈ o.after.toList, Region.binds .any e = true → listed.getD e.on false = true
theorem anc_listed {ops : Array Oper} {listed : Array Bool} (hs : Shut ops listed) (hd : ∀ (i : Nat) (o : Oper), ops[i]? = some o → ∀ e ∈ o.after.toList, Region.binds .any e = true → e.on < i) :
    ∀ (i : Nat) (o : Oper), ops[i]? = some o → (∀ e ∈ o.after.toList, Region.binds .any e = true → listed.getD e.on false = true) → ∀ k, ((ancTab ops.toList []).getD i 0).testBit k = true → listed.getD k false = true := by
  intro i
  induction i using Nat.strongRecOn with
  | _ i ih =>
    intro o ho hl k hk
    obtain ⟨t', e1, e2⟩ := (anc_spec ops.toList []).2 i o (by simpa using ho)
    simp only [List.length_nil, Nat.zero_add] at e1 e2
    rw [e1] at hk
    obtain ⟨e, he, hb, h⟩ := mask_spec _ _ _ hk
    have hlt := hd i o ho e he hb
    rcases h with h | h
    · rw [← h]; exact hl e he hb
    · rw [e2 e.on hlt] at h
      have hsz : e.on < ops.size := Nat.lt_trans hlt (Array.getElem?_eq_some_iff.1 ho).1
      have hoe : ops[e.on]? = some ops[e.on] := Array.getElem?_eq_getElem hsz
      exact ih e.on hlt _ hoe (hs e.on _ hoe (hl e he hb)) k h
def left_ (n : Nat) (listed : Array Bool) : List Nat := (List.range n).filter fun i => !listed.getD i true
end
end Go.Den
namespace Go.Den
open Go Go.RowKit
section
variable {C : Cx} {s t s1 : St C.Θ.T}
def InC (s : St C.Θ.T) (c : CV C.Θ.T) : Prop := (∀ p ∈ c.mB, p ∈ refsB C s) ∧ ∀ p ∈ c.mR, p ∈ refsR C s
def InA (s : St C.Θ.T) (v : AV C.Θ.T) : Prop := (∀ p ∈ v.mB, p ∈ refsB C s) ∧ ∀ p ∈ v.mR, p ∈ refsR C s
theorem in_ev (x : Operand) : InA s (s.ev x) := by
  cases x with
  | tmp t =>
    simp only [St.ev, St.at_, List.getD_eq_getElem?_getD]
    cases h : s.slots[t]? with
    | none => exact ⟨fun p hp => by simp [AV.mB] at hp, fun p hp => by simp [AV.mR] at hp⟩
    | some v =>
      have hm := List.mem_of_getElem? h
      exact ⟨fun p hp => List.mem_append_left _ (List.mem_flatMap.2 ⟨v, hm, hp⟩), fun p hp => List.mem_append_left _ (List.mem_flatMap.2 ⟨v, hm, hp⟩)⟩
  | const v =>
    simp only [St.ev]
    cases h : cvConst (T := C.Θ.T) v with
    | none => exact ⟨fun p hp => by simp [AV.mB] at hp, fun p hp => by simp [AV.mR] at hp⟩
    | some c =>
      unfold cvConst at h
      split at h <;> first | (cases h; done) | (cases h; exact ⟨fun p hp => by simp [AV.mB, CV.mB] at hp, fun p hp => by simp [AV.mR, CV.mR] at hp⟩)
  | func f => exact ⟨fun p hp => by simp [St.ev, AV.mB, CV.mB] at hp, fun p hp => by simp [St.ev, AV.mR, CV.mR] at hp⟩
  | global g => exact ⟨fun p hp => by simp [St.ev, AV.mB] at hp, fun p hp => by simp [St.ev, AV.mR] at hp⟩
theorem in_v (x : PV C.Θ.T) : InA s (.c (.v x)) := ⟨fun p hp => by simp [AV.mB, CV.mB] at hp, fun p hp => by simp [AV.mR, CV.mR] at hp⟩
theorem in_agg {cs : List (CV C.Θ.T)} : InA s (.agg cs) ↔ ∀ c ∈ cs, InC s c := by
  constructor
  · intro h c hc
    exact ⟨fun p hp => h.1 p (List.mem_flatMap.2 ⟨c, hc, hp⟩), fun p hp => h.2 p (List.mem_flatMap.2 ⟨c, hc, hp⟩)⟩
  · intro h
    refine ⟨fun p hp => ?_, fun p hp => ?_⟩
    · obtain ⟨c, hc, hp⟩ := List.mem_flatMap.1 hp; exact (h c hc).1 p hp
    · obtain ⟨c, hc, hp⟩ := List.mem_flatMap.1 hp; exact (h c hc).2 p hp
theorem in_cells {v : AV C.Θ.T} {cs : List (CV C.Θ.T)} (h : cellsOfAV v = some cs) (hv : InA s v) : ∀ c ∈ cs, InC s c := by
  unfold cellsOfAV at h
  split at h <;> try (cases h; done)
  · cases h; intro c hc; simp at hc; subst hc; exact hv
  · cases h; exact in_agg.1 hv
theorem in_ofCells {ty : TypeId} {cs : List (CV C.Θ.T)} {v : AV C.Θ.T} (h : ofCells C.P ty cs = some v) (hc : ∀ c ∈ cs, InC s c) : InA s v := by
  rcases ofCells_ok h with ⟨_, rfl⟩ | ⟨_, c, rfl, rfl⟩
  · exact in_agg.2 hc
  · exact hc c (by simp)
theorem in_sum {l : List (CV C.Θ.T ⊕ List (CV C.Θ.T))} (h : InA s (.tup l)) {q : CV C.Θ.T ⊕ List (CV C.Θ.T)} (hq : q ∈ l) : InA s (sumAV q) := by
  cases q with
  | inl c => exact ⟨fun p hp => h.1 p (List.mem_flatMap.2 ⟨.inl c, hq, hp⟩), fun p hp => h.2 p (List.mem_flatMap.2 ⟨.inl c, hq, hp⟩)⟩
  | inr cs => exact ⟨fun p hp => h.1 p (List.mem_flatMap.2 ⟨.inr cs, hq, hp⟩), fun p hp => h.2 p (List.mem_flatMap.2 ⟨.inr cs, hq, hp⟩)⟩
theorem in_const {l : List Value} : ∀ {cs : List (CV C.Θ.T)}, constCells l = some cs → ∀ c ∈ cs, InC s c := by
  induction l with
  | nil => intro cs h; simp [constCells] at h; subst h; intro c hc; cases hc
  | cons v l ih =>
    intro cs h
    simp only [constCells] at h
    split at h <;> try (cases h; done)
    rename_i c r hc hr
    cases h
    intro c' hc'
    rcases List.mem_cons.1 hc' with e | e
    · rw [e]
      unfold cvConst at hc
      split at hc <;> first | (cases hc; done) | (cases hc; exact ⟨fun p hp => by simp [CV.mB] at hp, fun p hp => by simp [CV.mR] at hp⟩)
    · exact ih hr c' e
theorem in_fill {ty : TypeId} : ∀ (l : List (Nat × Operand)) (cs cs' : List (CV C.Θ.T)), fillParts C.P s ty l cs = some cs' → (∀ c ∈ cs, InC s c) → ∀ c ∈ cs', InC s c := by
  intro l
  induction l with
  | nil => intro cs cs' h hc; cases h; exact hc
  | cons x l ih =>
    intro cs cs' h hc
    obtain ⟨f, x⟩ := x
    simp only [fillParts] at h
    split at h <;> try (cases h; done)
    split at h <;> try (cases h; done)
    rename_i vs hvs
    split at h <;> try (cases h; done)
    refine ih _ _ h (fun c hm => ?_)
    simp only [List.mem_append] at hm
    rcases hm with (hm | hm) | hm
    · exact hc c (List.mem_of_mem_take hm)
    · exact in_cells hvs (in_ev x) c hm
    · exact hc c (List.mem_of_mem_drop hm)
theorem in_caps : ∀ (l : List Operand) (caps : List (Nat × Nat)), capsOf s l = some caps → ∀ p ∈ caps, p ∈ refsB C s := by
  intro l
  induction l with
  | nil => intro caps h; cases h; intro p hp; cases hp
  | cons x l ih =>
    intro caps h
    simp only [capsOf] at h
    split at h <;> try (cases h; done)
    rename_i k g hx
    split at h <;> try (cases h; done)
    rename_i r hr
    cases h
    intro p hp
    rcases List.mem_cons.1 hp with e | e
    · have := (in_ev (s := s) x).1
      rw [hx] at this
      rw [e]; exact this _ (by simp [AV.mB, CV.mB])
    · exact ih r hr p e
theorem in_sums : ∀ (l : List Operand) (xs : List (CV C.Θ.T ⊕ List (CV C.Θ.T))), sumsOf s l = some xs → ∀ q ∈ xs, InA s (sumAV q) := by
  intro l
  induction l with
  | nil => intro xs h; cases h; intro p hp; cases hp
  | cons x l ih =>
    intro xs h
    simp only [sumsOf] at h
    split at h <;> try (cases h; done)
    all_goals
      rename_i c hx
      split at h <;> try (cases h; done)
      rename_i r hr
      cases h
      intro q hq
      rcases List.mem_cons.1 hq with e | e
      · have := in_ev (s := s) x
        rw [hx] at this
        rw [e]; exact this
      · exact ih r hr q e
theorem in_moved {n : Nat} {x v : AV C.Θ.T} (h : moved n x = some v) (hx : InA s x) : InA s v := by
  unfold moved at h
  split at h <;> try (cases h; done)
  · cases h; exact hx
  · cases h; exact ⟨fun p hp => by simp [AV.mB] at hp, fun p hp => by simp [AV.mR] at hp⟩
  · cases h; exact hx
theorem in_cellsAt {x : AV C.Θ.T} {cs : List (CV C.Θ.T)} (h : s.cellsAt C.Θ x = some cs) : ∀ c ∈ cs, InC s c := by
  unfold St.cellsAt at h
  have hv : ∀ l : List (PV C.Θ.T), ∀ c ∈ l.map (CV.v (T := C.Θ.T)), InC s c := by
    intro l c hc
    obtain ⟨x, _, rfl⟩ := List.mem_map.1 hc
    exact ⟨fun p hp => by simp [CV.mB] at hp, fun p hp => by simp [CV.mR] at hp⟩
  split at h <;> try (cases h; done)
  · rename_i k g off
    split at h <;> try (cases h; done)
    rename_i B hB
    split at h <;> try (cases h; done)
    cases h
    intro c hc
    have hm := mem_of_look hB
    have hc' := List.mem_of_mem_drop hc
    exact ⟨fun p hp => List.mem_append_right _ (List.mem_flatMap.2 ⟨_, hm, List.mem_flatMap.2 ⟨c, hc', hp⟩⟩), fun p hp => List.mem_append_right _ (List.mem_flatMap.2 ⟨_, hm, List.mem_flatMap.2 ⟨c, hc', hp⟩⟩)⟩
  · cases h; exact hv _
  · split at h <;> try (cases h; done)
    split at h <;> try (cases h; done)
    split at h <;> try (cases h; done)
    cases h; exact hv _
theorem opV_in {op : Op} {c : Bool} {v : AV C.Θ.T} (h : opV C.P C.Θ C.eqs s op = some (c, v)) : InA s v := by
  have int : ∀ k n, InA s (.c (.v (.int k n))) := fun k n => in_v _
  cases op with
  | move x => simp only [opV, Option.some.injEq, Prod.mk.injEq] at h; rw [← h.2]; exact in_ev x
  | assign x => simp only [opV, Option.some.injEq, Prod.mk.injEq] at h; rw [← h.2]; exact in_ev x
  | unOp op ty x =>
    simp only [opV, vUn] at h
    split at h <;> try (cases h; done)
    all_goals
      split at h <;> try (cases h; done)
      cases h; exact in_v _
  | binOp op ty x y ty2 =>
    simp only [opV] at h
    split at h
    · unfold vNi at h
      split at h <;> try (cases h; done)
      split at h <;> try (cases h; done)
      split at h <;> try (cases h; done)
      all_goals (cases h; exact in_v _)
    simp only [vBin] at h
    have nq : ∀ e, InA s (.nilq e) := fun e => ⟨fun p hp => by simp [AV.mB] at hp, fun p hp => by simp [AV.mR] at hp⟩
    have hmap : ∀ {A : Type} {r : Option (Bool × CV C.Θ.T)} , r.map (fun q => (q.1, AV.c q.2)) = some (c, v) → (∀ q, r = some q → isFlat q.2 = true) → InA s v := by
      intro _ r hr hf
      cases r with
      | none => cases hr
      | some q =>
        simp only [Option.map_some, Option.some.injEq, Prod.mk.injEq] at hr
        have := hf q rfl
        rw [← hr.2]
        cases hq : q.2 with
        | v x => exact in_v x
        | _ => rw [hq] at this; simp [isFlat] at this
    split at h <;> try (cases h; done)
    · rename_i k a k' b _ _
      split at h
      · refine hmap (A := Unit) h (fun q hq => ?_)
        unfold shift2 at hq
        split at hq <;> first | (cases hq; done) | (cases hq; rfl)
      · split at h <;> try (cases h; done)
        refine hmap (A := Unit) h (fun q hq => ?_)
        unfold int2 at hq
        split at hq <;> first | (cases hq; done) | (cases hq; rfl)
    · split at h <;> try (cases h; done)
      split at h <;> first | (cases h; done) | (cases h; exact in_v _)
    · refine hmap (A := Unit) h (fun q hq => ?_)
      unfold str2 at hq
      split at hq <;> first | (cases hq; done) | (cases hq; rfl)
    · split at h <;> try (cases h; done)
      split at h <;> first | (cases h; done) | (cases h; exact nq _)
    · split at h <;> try (cases h; done)
      split at h <;> first | (cases h; done) | (cases h; exact in_v _)
    · split at h <;> try (cases h; done)
      split at h <;> first | (cases h; done) | (cases h; exact in_v _)
    · split at h <;> try (cases h; done)
      split at h <;> first | (cases h; done) | (cases h; exact in_v _)
    · split at h <;> try (cases h; done)
      split at h <;> first | (cases h; done) | (cases h; exact in_v _)
    · split at h <;> try (cases h; done)
      rename_i a b _ _ _
      have hb : ∀ (f : Bool → Bool × AV C.Θ.T), (eqCells a b).map f = some (c, v) → (∀ r, (f r).2 = .c (.v (.bool r)) ∨ (f r).2 = .c (.v (.bool (!r)))) → InA s v := by
        intro f hh hf
        cases he : eqCells a b with
        | none => simp [he] at hh
        | some r =>
          simp only [he, Option.map_some, Option.some.injEq] at hh
          have := hf r
          rw [hh] at this
          rcases this with e | e <;> (simp only at e; rw [e]; exact in_v _)
      split at h <;> try (cases h; done)
      · exact hb _ h (fun r => .inl rfl)
      · exact hb _ h (fun r => .inr rfl)
  | convert a b x =>
    simp only [opV, vConv] at h
    split at h <;> try (cases h; done)
    · split at h <;> try (cases h; done)
      cases h; exact in_v _
    · split at h <;> try (cases h; done)
      cases h; exact in_v _
    · split at h <;> try (cases h; done)
      split at h <;> try (cases h; done)
      split at h <;> try (cases h; done)
      cases h; exact in_v _
  | extract x i =>
    simp only [opV, vExtract] at h
    have hx := in_ev (s := s) x
    split at h <;> try (cases h; done)
    rename_i l hl
    rw [hl] at hx
    split at h <;> try (cases h; done)
    · rename_i q hq; cases h; exact in_sum hx (List.mem_of_getElem? hq)
    · rename_i q hq; cases h; exact in_sum hx (List.mem_of_getElem? hq)
  | nilCheck x =>
    simp only [opV, vNil] at h
    have hx := in_ev (s := s) x
    split at h <;> try (cases h; done)
    all_goals
      rename_i hl
      rw [hl] at hx
      cases h; exact hx
  | fieldAddr ty x f =>
    simp only [opV, vFieldAddr] at h
    split at h <;> try (cases h; done)
    rename_i off _ _ _
    cases hm : moved off (s.ev x) with
    | none => simp [hm] at h
    | some w => simp [hm] at h; rw [← h.2]; exact in_moved hm (in_ev x)
  | field ty x f =>
    simp only [opV, vField] at h
    have hx := in_ev (s := s) x
    split at h <;> try (cases h; done)
    rename_i cs hcs
    rw [hcs] at hx
    split at h <;> try (cases h; done)
    split at h <;> try (cases h; done)
    rename_i off ft n _ _
    cases ho : ofCells C.P ft ((cs.drop off).take n) with
    | none => simp [ho] at h
    | some w =>
      simp [ho] at h
      rw [← h.2]
      exact in_ofCells ho fun c hc => in_agg.1 hx c (List.mem_of_mem_drop (List.mem_of_mem_take hc))
  | load ty x =>
    simp only [opV, vLoad] at h
    split at h <;> try (cases h; done)
    split at h <;> try (cases h; done)
    rename_i n _ _ cs hcs
    split at h <;> try (cases h; done)
    cases ho : ofCells C.P ty (cs.take n) with
    | none => simp [ho] at h
    | some w =>
      simp [ho] at h
      rw [← h.2]
      exact in_ofCells ho fun c hc => in_cellsAt hcs c (List.mem_of_mem_take hc)
  | indexAddr ty x i =>
    simp only [opV, vIndexAddr] at h
    have hx := in_ev (s := s) x
    split at h <;> try (cases h; done)
    split at h <;> try (cases h; done)
    · split at h <;> try (cases h; done)
      split at h <;> try (cases h; done)
      · split at h <;> try (cases h; done)
        cases h
        exact ⟨fun p hp => by simp [AV.mB] at hp, fun p hp => by simp [AV.mR] at hp⟩
      · rename_i hr
        rw [hr] at hx
        split at h <;> try (cases h; done)
        split at h <;> try (cases h; done)
        split at h <;> try (cases h; done)
        cases h; exact hx
    · split at h <;> try (cases h; done)
      split at h <;> try (cases h; done)
      rename_i hr
      rw [hr] at hx
      cases h; exact hx
  | index ty x i =>
    simp only [opV, vIndex] at h
    split at h <;> try (cases h; done)
    split at h <;> try (cases h; done)
    split at h <;> try (cases h; done)
    cases h; exact in_v _
  | slice ty x lo hi mx =>
    simp only [opV, vSlice] at h
    split at h <;> try (cases h; done)
    split at h <;> try (cases h; done)
    split at h <;> try (cases h; done)
    · split at h <;> try (cases h; done)
      cases h; exact in_v _
    · split at h <;> try (cases h; done)
      split at h <;> try (cases h; done)
      split at h <;> try (cases h; done)
      cases h; exact in_v _
  | makeFunc fn first caps =>
    simp only [opV, vFunc] at h
    split at h <;> try (cases h; done)
    split at h
    · split at h <;> try (cases h; done)
      rename_i l hl
      cases h
      exact ⟨fun p hp => in_caps _ _ hl p (by simpa [AV.mB, CV.mB] using hp), fun p hp => by simp [AV.mR, CV.mR] at hp⟩
    · split at h <;> try (cases h; done)
      split at h <;> try (cases h; done)
      rename_i l hl
      cases h
      refine ⟨fun p hp => ?_, fun p hp => ?_⟩
      · obtain ⟨q, hq, hp⟩ := List.mem_flatMap.1 hp
        have := (in_sums _ _ hl q hq).1 p
        cases q <;> exact this hp
      · obtain ⟨q, hq, hp⟩ := List.mem_flatMap.1 hp
        have := (in_sums _ _ hl q hq).2 p
        cases q <;> exact this hp
  | lookup ty x i ok =>
    simp only [opV] at h
    obtain ⟨h1, h2⟩ := lookup_plain h
    exact ⟨fun p hp => (by rw [h1] at hp; simp at hp), fun p hp => (by rw [h2] at hp; simp at hp)⟩
  | build ty ps =>
    simp only [opV, vBuild] at h
    split at h <;> try (cases h; done)
    split at h <;> try (cases h; done)
    rename_i zs hz
    split at h <;> try (cases h; done)
    rename_i cs hcs
    cases h
    refine in_agg.2 (in_fill _ _ _ hcs ?_)
    unfold zeroCells at hz
    split at hz <;> try (cases hz; done)
    split at hz <;> try (cases hz; done)
    exact in_const hz
  | call c =>
    obtain ⟨callee, args, ats⟩ := c
    cases callee with
    | builtin b =>
      have best : ∀ (f : Int → Int → Int) (l : List (AV C.Θ.T)) (b : Bool), vBest f l = some (b, v) → InA s v := by
        intro f l b h
        unfold vBest at h
        split at h <;> first | (cases h; done) | (cases h; exact in_v _)
      cases b <;> simp only [opV] at h <;> try (cases h; done)
      case len =>
        split at h <;> try (cases h; done)
        unfold vLen at h
        split at h <;> try (cases h; done)
        all_goals
          split at h <;> try (cases h; done)
        · cases h; exact in_v _
        · cases h; exact in_v _
        · cases h; exact in_v _
        · split at h <;> try (cases h; done)
          split at h <;> try (cases h; done)
          cases h; exact in_v _
      case max => exact best _ _ _ h
      case min => exact best _ _ _ h
    | _ => simp [opV] at h
  | _ => simp [opV] at h
theorem opV_pure {op : Op} (hp : pureOp op = true) (hev : ∀ x ∈ op.operands.toList, t.ev x = s.ev x) : opV C.P C.Θ C.eqs t op = opV C.P C.Θ C.eqs s op := by
  cases op with
  | call c =>
    obtain ⟨callee, args, ats⟩ := c
    simp only [Op.operands, Call.operands] at hev
    have ha : ∀ y ∈ args.toList, t.ev y = s.ev y := fun y hy => hev y (by simp at hy ⊢; exact .inr hy)
    cases callee with
    | builtin b =>
      simp only [opV]
      rw [map_alike _ ha]
      cases b <;> first | rfl | (simp [pureOp] at hp)
    | _ => rfl
  | build ty ps =>
    simp only [opV, vBuild]
    simp only [Op.operands] at hev
    have : ∀ p ∈ ps.toList, t.ev p.2 = s.ev p.2 := fun p hp => hev p.2 (by simp; exact ⟨p.1, by simpa using hp⟩)
    split
    · split
      · rw [parts_alike ty _ _ this]
      · rfl
    · rfl
  | makeFunc fn first caps =>
    simp only [opV, vFunc]
    simp only [Op.operands] at hev
    rw [caps_alike caps.toList fun y hy => hev y (by simp at hy ⊢; exact .inr hy), sums_alike first.toList fun y hy => hev y (by simp at hy ⊢; exact .inl hy)]
  | slice ty x lo hi mx =>
    simp only [opV, vSlice]
    simp only [Op.operands] at hev
    rw [bound_alike lo fun y hy => hev y (by simp at hy ⊢; exact .inr (.inl hy)), bound_alike hi fun y hy => hev y (by simp at hy ⊢; exact .inr (.inr (.inl hy))), hev x (by simp)]
  | load ty x => simp [pureOp] at hp
  | indexAddr ty x i => simp [pureOp] at hp
  | lookup ty x i ok => simp [pureOp] at hp
  | _ => first
    | rfl
    | (simp only [opV]; simp only [Op.operands] at hev; simp [hev])
structure Now (s t : St C.Θ.T) (l : List Operand) : Prop where
  ev : ∀ x ∈ l, t.ev x = s.ev x
  box : ∀ x ∈ l, ∀ p ∈ (s.ev x).mB, ∀ B, look s.boxes p.1 = some B → B.gen = p.2 → look t.boxes p.1 = some B
  row : ∀ x ∈ l, ∀ p ∈ (s.ev x).mR, ∀ R, look s.rows p.1 = some R → R.gen = p.2 → look t.rows p.1 = some R
theorem cellsAt_now {v : AV C.Θ.T} {cs : List (CV C.Θ.T)} (hb : ∀ p ∈ v.mB, ∀ B, look s.boxes p.1 = some B → B.gen = p.2 → look t.boxes p.1 = some B) (hr : ∀ p ∈ v.mR, ∀ R, look s.rows p.1 = some R → R.gen = p.2 → look t.rows p.1 = some R)
    (h : s.cellsAt C.Θ v = some cs) : t.cellsAt C.Θ v = some cs := by
  unfold St.cellsAt at h ⊢
  split at h <;> try (cases h; done)
  · rename_i k g off
    split at h <;> try (cases h; done)
    rename_i B hB
    split at h <;> try (cases h; done)
    rename_i hg
    have := hb (k, g) (by simp [AV.mB, CV.mB]) B hB hg
    simp only at this
    simp only [this, hg, if_true]
    exact h
  · exact h
  · rename_i r g i sz off
    split at h <;> try (cases h; done)
    rename_i R hR
    split at h <;> try (cases h; done)
    rename_i hg
    have := hr (r, g) (by simp [AV.mR]) R hR hg
    simp only at this
    simp only [this, hg, if_true]
    exact h
theorem opV_read {op : Op} (hp : readOp op = true) (hn : Now s t op.operands.toList) {r : Bool × AV C.Θ.T} (h : opV C.P C.Θ C.eqs s op = some r) : opV C.P C.Θ C.eqs t op = some r := by
  obtain ⟨hev, hb, hr⟩ := hn
  cases op <;> try (simp [readOp] at hp; done)
  case load ty x =>
    simp only [opV, vLoad] at h ⊢
    have hx : x ∈ (Op.load ty x).operands.toList := by simp [Op.operands]
    rw [hev x hx]
    split at h <;> try (cases h; done)
    rename_i hs
    split at h <;> try (cases h; done)
    rename_i cs hcs
    rw [cellsAt_now (hb x hx) (hr x hx) hcs]
    exact h
  case indexAddr ty x i =>
    simp only [opV, vIndexAddr] at h ⊢
    have hx : x ∈ (Op.indexAddr ty x i).operands.toList := by simp [Op.operands]
    have hi : i ∈ (Op.indexAddr ty x i).operands.toList := by simp [Op.operands]
    rw [hev x hx, hev i hi]
    split at h <;> try (cases h; done)
    split at h <;> try (cases h; done)
    · rename_i he
      split at h <;> try (cases h; done)
      rename_i hz
      simp only [hz, if_true]
      split at h <;> try (cases h; done)
      · exact h
      · rename_i q g hq
        split at h <;> try (cases h; done)
        rename_i R hR
        split at h <;> try (cases h; done)
        rename_i hg
        have := hr x hx (q, g) (by rw [hq]; simp [AV.mR, CV.mR]) R hR hg
        simp only at this
        simp only [this, hg, if_true]
        exact h
    · exact h
  case call c =>
    obtain ⟨callee, args, ats⟩ := c
    cases callee <;> try (simp [readOp] at hp; done)
    rename_i b
    cases b <;> try (simp [readOp] at hp; done)
    simp only [opV] at h ⊢
    split at h <;> try (cases h; done)
    rename_i x ty tys hl ht
    have hx : x ∈ (Op.call ⟨.builtin .len, args, ats⟩).operands.toList := by simp [Op.operands, Call.operands, ← Array.mem_toList_iff, hl]
    simp only [hev x hx]
    unfold vLen at h ⊢
    split at h <;> try (cases h; done)
    · exact h
    · exact h
    · exact h
    · rename_i q g hq
      split at h <;> try (cases h; done)
      rename_i hu
      split at h <;> try (cases h; done)
      rename_i R hR
      split at h <;> try (cases h; done)
      rename_i hg
      have := hr x hx (q, g) (by rw [hq]; simp [AV.mR, CV.mR]) R hR hg.1
      simp only at this
      simp only [this, hg, and_self, if_true]
      exact h
theorem get_row_congr {R R' : List (Nat × RowS C.Θ.T)} {sl sl' : List (AV C.Θ.T)} {B B' : List (Nat × BoxS C.Θ.T)} (l : Leaf) (c : CV C.Θ.T) (h : ∀ p ∈ c.mR, look R' p.1 = look R p.1) :
    St.get (⟨sl', B', R'⟩ : St C.Θ.T) l c = St.get ⟨sl, B, R⟩ l c := by
  cases c with
  | row r g => simp only [St.get]; rw [h (r, g) (by simp [CV.mR])]
  | _ => rfl
theorem htget_congr {g g' : (l : Leaf) → CV C.Θ.T → Option (l.Ty C.Θ.T)} : ∀ (ls : List Leaf) (cs : List (CV C.Θ.T)), (∀ l, ∀ c ∈ cs, g' l c = g l c) → HT.get g' ls cs = HT.get g ls cs := by
  intro ls
  induction ls with
  | nil => intro cs _; cases cs <;> simp [HT.get]
  | cons l ls ih =>
    intro cs h
    cases cs with
    | nil => cases ls <;> simp [HT.get]
    | cons c cs =>
      cases ls with
      | nil =>
        cases cs with
        | nil => rw [HT.get_one, HT.get_one]; exact h l c (by simp)
        | cons c2 cs => simp [HT.get]
      | cons l2 ls =>
        rw [HT.get_cons, HT.get_cons, h l c (by simp), ih cs fun l c hc => h l c (by simp [hc])]
theorem ext_plain {h : Shape} (hp : plainIn h = true) {avs : List (AV C.Θ.T)} {B B' : List (Nat × BoxS C.Θ.T)} {R R' : List (Nat × RowS C.Θ.T)} (hr : ∀ v ∈ avs, ∀ p ∈ v.mR, look R' p.1 = look R p.1) :
    h.extB (⟨avs, B', R'⟩ : St C.Θ.T) = h.extB ⟨avs, B, R⟩ := by
  simp only [plainIn, Bool.and_eq_true, List.isEmpty_iff] at hp
  obtain ⟨⟨h1, h2⟩, h3⟩ := hp
  simp only [Shape.extB, Shape.extG, pickS]
  cases hpk : pickAs h.slots avs with
  | none => rfl
  | some p =>
    obtain ⟨a1, a2, a3⟩ := plain_pickAs _ _ _ h3 hpk
    simp only [Bool.false_eq_true, if_false, h1, h2, pickBs]
    have e1 : (p.and ⟨[], [], []⟩).xs = [] := by simp [Pk.and, a2]
    have e2 : (p.and ⟨[], [], []⟩).bs = [] := by simp [Pk.and, a1]
    have hall : ∀ l : List (CV C.Θ.T), (∀ c ∈ l, c ∈ p.hs) → (l.all fun c => holeApart (T := C.Θ.T) [] c && notMap (⟨avs, B', R'⟩ : St C.Θ.T) c) = l.all fun c => holeApart (T := C.Θ.T) [] c && notMap (⟨avs, B, R⟩ : St C.Θ.T) c := by
      intro l
      induction l with
      | nil => intro _; rfl
      | cons c l ih =>
        intro hl
        have hc : notMap (⟨avs, B', R'⟩ : St C.Θ.T) c = notMap (⟨avs, B, R⟩ : St C.Θ.T) c := notMap_congr c fun q hq => by
          obtain ⟨v, hv, hq⟩ := a3 c (hl c (by simp)) q hq
          exact hr v hv q hq
        simp only [List.all_cons, hc, ih fun c' h' => hl c' (by simp [h'])]
    have e3 : (p.and ⟨[], [], []⟩).hs = p.hs := by simp [Pk.and]
    simp only [e1, e2, e3, xsOk, bindsOk, rowCs, hall p.hs fun c h => h]
    rw [htget_congr (g := St.get ⟨avs, B, R⟩)]
    intro l c hc
    simp only [List.append_nil, List.nil_append] at hc
    refine get_row_congr l c fun q hq => ?_
    obtain ⟨v, hv, hq⟩ := a3 c hc q hq
    exact hr v hv q hq
theorem find_entry {rd : St C.Θ.T → AV C.Θ.T → Option (List (CV C.Θ.T))} {g : Nat} {avs : List (AV C.Θ.T)} : ∀ (Γ : List (Nat × Go.Den.Spec C.Θ.T)) (hit : Hit C.Θ.T), findSpec (flatE C.Θ) rd Γ g s avs = some hit → entryOf (flatE C.Θ) rd hit.sp s avs = some hit.y := by
  intro Γ
  induction Γ with
  | nil => intro hit h; cases h
  | cons p Γ ih =>
    intro hit h
    simp only [findSpec] at h
    split at h
    · split at h
      · rename_i y hy; cases h; exact hy
      · exact ih hit h
    · exact ih hit h
theorem null_hs {h : Shape} {s : St C.Θ.T} {y : Ext C.Θ.T h} (hs : h.slots = []) (hb : h.boxes = []) (hy : h.extB s = some y) : y.hs = [] := by
  obtain ⟨p, q, cs, hp, hq, _, _, _, _, _, e1, _, _⟩ := extB_split hy
  obtain ⟨p0, hp0, hph, _⟩ := pickS_split hp
  rw [hs] at hp0
  rw [hb] at hq
  simp only [pickBs, Option.some.injEq] at hq
  have h0 : p0.hs = [] := by
    cases hl : s.slots with
    | nil => rw [hl] at hp0; simp only [pickAs, Option.some.injEq] at hp0; rw [← hp0]
    | cons a l => rw [hl] at hp0; simp [pickAs] at hp0
  rw [e1, ← hq]
  simp [Pk.and, hph, h0]
theorem ready_plain {g : Nat} {avs : List (AV C.Θ.T)} {r : Ready C.Θ.T} (hq : ∀ p ∈ C.Γ, p.1 = g → plainIn p.2.hin = true ∧ (flatOuts (flatE C.Θ) p.2.outs = true ∨ p.2.hin.slots = [])) (h : ready (flatE C.Θ) (St.cellsAt C.Θ) C.Γ s g avs = some r) :
    r.s = s ∧ (g, r.sp) ∈ C.Γ ∧ ∀ t : St C.Θ.T, Shown s t avs → ready (flatE C.Θ) (St.cellsAt C.Θ) C.Γ t g avs = some ⟨t, r.sp, r.avs, r.y⟩ := by
  obtain ⟨hm, _⟩ := ready_ok h
  unfold ready at h
  split at h <;> try (cases h; done)
  rename_i hit hh
  have hm' : (g, hit.sp) ∈ C.Γ := find_mem _ _ hh
  have hf : (flatOuts (flatE C.Θ) hit.sp.outs || hit.y.hs.all notRow) = true := by
    obtain ⟨hpl, hf⟩ := hq _ hm' rfl
    rcases hf with hf | hf
    · simp only at hf; simp [hf]
    · simp only at hf hpl
      simp only [plainIn, Bool.and_eq_true, List.isEmpty_iff] at hpl
      have he := find_entry _ _ hh
      have hcel : hit.sp.hin.cel = false := by unfold Shape.cel; rw [hf]; rfl
      unfold entryOf at he
      rw [if_neg (by simp [hcel])] at he
      rw [null_hs hf hpl.1.1 he]
      simp
  rw [if_pos hf] at h
  cases h
  refine ⟨rfl, hm, fun t ht => ?_⟩
  unfold ready
  have : findSpec (flatE C.Θ) (St.cellsAt C.Θ) C.Γ g t avs = findSpec (flatE C.Θ) (St.cellsAt C.Θ) C.Γ g s avs := by
    refine find_congr _ fun p hp hg => ?_
    unfold entryOf
    rw [lendAs_congr ht _ _ _ fun _ h => h]
    rw [ext_plain (hq p hp hg).1 (B := s.boxes) (R := s.rows) (B' := t.boxes) (R' := t.rows) ht.row]
  rw [this, hh]
  simp only
  rw [if_pos hf]
end
end Go.Den
namespace Go.Den
open Go Go.RowKit
section
variable {C : Cx} {s t s1 : St C.Θ.T}
def bK (C : Cx) (o : Oper) : List Nat := match kindOf C o, o.dst with
  | .B, some d => [d]
  | _, _ => []
def aK (C : Cx) (o : Oper) : List Nat := match kindOf C o, o.dst with
  | .A, some d => [d]
  | _, _ => []
def fK (C : Cx) (o : Oper) : List Nat := match kindOf C o, o.dst with
  | .F, some d => (match calleeC o with
    | some g => freshKeys C d C.Γ g
    | none => [d])
  | _, _ => []
theorem kind0 {o : Oper} {k : Kd} (h : kindOf C o = k) (hk : k ≠ .no) : kindOf0 C o = k ∧ litR C.Θ o = false := by
  unfold kindOf at h
  split at h
  · exact absurd h.symm hk
  · rename_i hl; exact ⟨h, by simpa using hl⟩
theorem kind_P {o : Oper} (h : kindOf C o = .P) : pureOp o.op = true := by
  replace h := (kind0 h (fun e => by cases e)).1
  unfold kindOf0 at h
  split at h
  · assumption
  · split at h <;> try (cases h; done)
    split at h
    · split at h <;> try (cases h; done)
      split at h <;> try (cases h; done)
      split at h <;> try (cases h; done)
      split at h <;> try (cases h; done)
      split at h <;> cases h
    · split at h <;> try (cases h; done)
      split at h <;> try (cases h; done)
      split at h <;> cases h
theorem kind_Q {o : Oper} (h : kindOf C o = .Q) : readOp o.op = true := by
  replace h := (kind0 h (fun e => by cases e)).1
  unfold kindOf0 at h
  split at h <;> try (cases h; done)
  split at h
  · assumption
  · split at h
    · split at h <;> try (cases h; done)
      split at h <;> try (cases h; done)
      split at h <;> try (cases h; done)
      split at h <;> try (cases h; done)
      split at h <;> cases h
    · split at h <;> try (cases h; done)
      split at h <;> try (cases h; done)
      split at h <;> cases h
theorem kind_QC {o : Oper} (h : kindOf C o = .QC) : ∃ g, calleeC o = some g ∧ ∀ p ∈ C.Γ, p.1 = g → okQC (flatE C.Θ) p.2 = true := by
  have key : ∀ g, (C.Γ.all fun p => !(p.1 == g) || okQC (flatE C.Θ) p.2) = true → ∀ p ∈ C.Γ, p.1 = g → okQC (flatE C.Θ) p.2 = true := by
    intro g hg p hp e
    have := List.all_eq_true.1 hg p hp
    simpa [e] using this
  replace h := (kind0 h (fun e => by cases e)).1
  unfold kindOf0 at h
  split at h <;> try (cases h; done)
  split at h <;> try (cases h; done)
  split at h
  · split at h <;> try (cases h; done)
    split at h <;> try (cases h; done)
    split at h <;> try (cases h; done)
    rename_i g hg
    split at h
    · rename_i hq; exact ⟨g, hg, key g hq⟩
    · split at h <;> cases h
  · split at h <;> try (cases h; done)
    rename_i g hg
    split at h
    · rename_i hq; exact ⟨g, hg, key g hq⟩
    · split at h <;> cases h
theorem kind_B {o : Oper} (h : kindOf C o = .B) : ∃ d, o.dst = some d ∧ o.guard = none ∧ ((∃ ty, o.op = .alloc ty) ∨ ∃ ty x, o.op = .box ty x) := by
  replace h := (kind0 h (fun e => by cases e)).1
  unfold kindOf0 at h
  split at h <;> try (cases h; done)
  split at h <;> try (cases h; done)
  split at h
  · rename_i d hd hg
    split at h
    · rename_i ty ho; exact ⟨d, hd, hg, .inl ⟨ty, ho⟩⟩
    · rename_i ty x ho; exact ⟨d, hd, hg, .inr ⟨ty, x, ho⟩⟩
    · cases h
    · split at h <;> try (cases h; done)
      split at h <;> try (cases h; done)
      split at h <;> try (cases h; done)
      split at h <;> cases h
  · split at h <;> try (cases h; done)
    split at h <;> try (cases h; done)
    split at h <;> cases h
theorem kind_A {o : Oper} (h : kindOf C o = .A) : ∃ d, o.dst = some d ∧ o.guard = none ∧ appOp o.op = true := by
  replace h := (kind0 h (fun e => by cases e)).1
  unfold kindOf0 at h
  split at h <;> try (cases h; done)
  split at h <;> try (cases h; done)
  split at h
  · rename_i d hd hg
    split at h <;> try (cases h; done)
    split at h
    · rename_i ha; exact ⟨d, hd, hg, ha⟩
    · split at h <;> try (cases h; done)
      split at h <;> try (cases h; done)
      split at h <;> cases h
  · split at h <;> try (cases h; done)
    split at h <;> try (cases h; done)
    split at h <;> cases h
theorem kind_F {o : Oper} (h : kindOf C o = .F) : ∃ d, o.dst = some d ∧ ((∃ ty n m, o.op = .makeSlice ty n m) ∨ ∃ g, calleeC o = some g ∧ ∀ p ∈ C.Γ, p.1 = g → freshSpec C p.2 = true) := by
  replace h := (kind0 h (fun e => by cases e)).1
  unfold kindOf0 at h
  split at h <;> try (cases h; done)
  split at h <;> try (cases h; done)
  split at h
  · rename_i d hd hg
    split at h <;> try (cases h; done)
    · rename_i ty n m ho; exact ⟨d, hd, .inl ⟨ty, n, m, ho⟩⟩
    · split at h <;> try (cases h; done)
      split at h <;> try (cases h; done)
      rename_i g hc
      split at h <;> try (cases h; done)
      split at h <;> try (cases h; done)
      rename_i hq
      refine ⟨d, hd, .inr ⟨g, hc, fun p hp e => ?_⟩⟩
      have := List.all_eq_true.1 hq p hp
      simpa [e] using this
  · split at h <;> try (cases h; done)
    rename_i g hc
    split at h <;> try (cases h; done)
    split at h <;> try (cases h; done)
    rename_i hq
    simp only [Bool.and_eq_true] at hq
    obtain ⟨hq1, hq2⟩ := hq
    obtain ⟨d, hd⟩ := Option.isSome_iff_exists.1 hq1
    refine ⟨d, hd, .inr ⟨g, hc, fun p hp e => ?_⟩⟩
    have := List.all_eq_true.1 hq2 p hp
    simpa [e] using this
theorem callee_of {o : Oper} {g : Nat} (h : calleeC o = some g) : ∃ args ats, o.op = .call ⟨.value (.func g), args, ats⟩ := by
  unfold calleeC at h
  split at h <;> try (cases h; done)
  rename_i c hc
  obtain ⟨callee, args, ats⟩ := c
  split at h <;> try (cases h; done)
  rename_i f hf
  split at h <;> try (cases h; done)
  simp only at hf
  cases h
  exact ⟨args, ats, by rw [hc, hf]⟩
theorem elemOf_plain {e : TypeId} {cs : List (CV C.Θ.T)} (h : cs.all plainC = true) : t.elemOf C.Θ e cs = s.elemOf C.Θ e cs := by
  unfold St.elemOf
  rw [htget_congr (g := s.get)]
  intro l c hc
  have := List.all_eq_true.1 h c hc
  cases c <;> first | rfl | (simp [plainC] at this)
theorem litElems_alike (e : TypeId) : ∀ (l : List (Nat × Operand)) (j : Nat), (∀ p ∈ l, t.ev p.2 = s.ev p.2) → litElems C.Θ t e j l = litElems C.Θ s e j l := by
  intro l
  induction l with
  | nil => intro j _; rfl
  | cons x l ih =>
    intro j hx
    obtain ⟨i, x⟩ := x
    simp only [litElems]
    have hx0 : t.ev x = s.ev x := hx (i, x) (by simp)
    rw [hx0, ih (j + 1) fun p hp => hx p (by simp [hp])]
    split
    · split
      · rename_i cs _
        split
        · rename_i hc
          rw [elemOf_plain (s := s) hc.2]
        · rfl
      · rfl
    · rfl
def MemR (k : Kd) (s t : St C.Θ.T) (l : List Operand) : Prop := match k with
  | .P => True
  | .Q => (∀ x ∈ l, ∀ p ∈ (s.ev x).mB, ∀ B, look s.boxes p.1 = some B → B.gen = p.2 → look t.boxes p.1 = some B) ∧ ∀ x ∈ l, ∀ p ∈ (s.ev x).mR, ∀ R, look s.rows p.1 = some R → R.gen = p.2 → look t.rows p.1 = some R
  | .QC => Shown s t (l.map s.ev)
  | _ => False
theorem ren_nil {c c' : CV C.Θ.T} (h : renC [] [] c = some c') : c'.mB = [] ∧ c'.mR = [] := by
  cases c <;> simp only [renC] at h
  case row r g => split at h <;> simp [look] at h
  case box k g off => split at h <;> simp [look] at h
  case fn f caps =>
    cases caps with
    | nil => simp [renCaps] at h; subst h; exact ⟨rfl, rfl⟩
    | cons p r => simp [renCaps, look] at h
  all_goals cases h; exact ⟨rfl, rfl⟩
theorem rens_nil : ∀ {cs cs' : List (CV C.Θ.T)}, renCs [] [] cs = some cs' → ∀ c ∈ cs', c.mB = [] ∧ c.mR = [] := by
  intro cs
  induction cs with
  | nil => intro cs' h; cases h; intro c hc; cases hc
  | cons c cs ih =>
    intro cs' h
    simp only [renCs] at h
    split at h <;> try (cases h; done)
    rename_i c' hc
    split at h <;> try (cases h; done)
    rename_i l hl
    cases h
    intro d hd
    rcases List.mem_cons.1 hd with e | e
    · subst e; exact ren_nil hc
    · exact ih hl d e
theorem mem_none {l : List (CV C.Θ.T)} (h : ∀ c ∈ l, c.mB = [] ∧ c.mR = []) : l.flatMap CV.mB = [] ∧ l.flatMap CV.mR = [] := by
  constructor <;> rw [List.flatMap_eq_nil_iff]
  · exact fun c hc => (h c hc).1
  · exact fun c hc => (h c hc).2
theorem resA_nil {l : List (AV C.Θ.T)} {v : AV C.Θ.T} (h : resA [] [] l = some v) : v.mB = [] ∧ v.mR = [] := by
  have tup : ∀ (l : List (AV C.Θ.T)) (xs : List (CV C.Θ.T ⊕ List (CV C.Θ.T))), renSs [] [] l = some xs → ∀ q ∈ xs, (sumAV q).mB = [] ∧ (sumAV q).mR = [] := by
    intro l
    induction l with
    | nil => intro xs h; cases h; intro q hq; cases hq
    | cons v l ih =>
      intro xs h
      simp only [renSs] at h
      split at h <;> try (cases h; done)
      rename_i x hx
      split at h <;> try (cases h; done)
      rename_i r hr
      cases h
      intro q hq
      rcases List.mem_cons.1 hq with e | e
      · subst e
        cases v <;> simp only [renS] at hx <;> try (cases hx; done)
        case c c =>
          cases hc : renC ([] : List (Nat × Nat × Nat)) [] c with
          | none => simp [hc] at hx
          | some c' => simp [hc] at hx; subst hx; exact ren_nil hc
        case agg cs =>
          cases hc : renCs ([] : List (Nat × Nat × Nat)) [] cs with
          | none => simp [hc] at hx
          | some c' => simp [hc] at hx; subst hx; exact mem_none (rens_nil hc)
      · exact ih r hr q e
  have many : ∀ (l : List (AV C.Θ.T)), (renSs [] [] l).map AV.tup = some v → v.mB = [] ∧ v.mR = [] := by
    intro l h
    cases hx : renSs ([] : List (Nat × Nat × Nat)) [] l with
    | none => simp [hx] at h
    | some xs =>
      simp [hx] at h
      subst h
      have := tup l xs hx
      constructor
      · simp only [AV.mB]; rw [List.flatMap_eq_nil_iff]; intro q hq; have := (this q hq).1; cases q <;> exact this
      · simp only [AV.mR]; rw [List.flatMap_eq_nil_iff]; intro q hq; have := (this q hq).2; cases q <;> exact this
  unfold resA at h
  split at h
  · rename_i w
    cases w <;> simp only [renA] at h <;> try (cases h; done)
    case c c =>
      cases hc : renC ([] : List (Nat × Nat × Nat)) [] c with
      | none => simp [hc] at h
      | some c' => simp [hc] at h; subst h; exact ren_nil hc
    case agg cs =>
      cases hc : renCs ([] : List (Nat × Nat × Nat)) [] cs with
      | none => simp [hc] at h
      | some c' => simp [hc] at h; subst h; exact mem_none (rens_nil hc)
    case rel r g i sz off => split at h <;> simp [look] at h
  · exact many _ h
theorem in_none {v : AV C.Θ.T} (h : v.mB = [] ∧ v.mR = []) : InA s v := ⟨fun p hp => (by rw [h.1] at hp; cases hp), fun p hp => (by rw [h.2] at hp; cases hp)⟩
theorem quiet_after' {s s' : St C.Θ.T} {hin : Shape} {y : Ext C.Θ.T hin} {es : Shape} {x : es.X C.Θ.T} {flat : Bool} {dst : Option Nat} (he : es.boxes = [] ∧ es.rows = []) (hb : hin.boxes = []) (hr : hin.rows = [])
    {fe : TypeId → Bool} (h : after fe s hin y (es.st x) flat dst = some s') : ∃ v, (v.mB = [] ∧ v.mR = []) ∧ (∀ t : St C.Θ.T, after fe t hin y (es.st x) flat dst = some (t.put dst v)) ∧ s' = s.put dst v := by
  have e1 : (es.st x).boxes = [] := by unfold Shape.st Shape.mk'; simp only [he.1]; rfl
  have e2 : (es.st x).rows = [] := by unfold Shape.st Shape.mk'; simp only [he.2]; rfl
  have key : ∀ t : St C.Θ.T, after fe t hin y (es.st x) flat dst = if (flat && !((es.st x).flat fe)) = true then none else match resA [] [] (es.st x).slots with
    | some v => some (t.put dst v)
    | none => none := by
    intro t
    unfold after
    rw [e1, e2, hb, hr]
    simp only [renBs, renRs, newBs, newRs, keysOf, apartKs, boxKs, rowKs, lentBs, lentRs, List.append_nil, List.nil_append, dropBoxes_nil, dropRows_nil, Bool.and_self, if_true]
    split
    · rfl
    · cases resA (T := C.Θ.T) [] [] (es.st x).slots <;> rfl
  rw [key] at h
  split at h <;> try (cases h; done)
  rename_i hc
  split at h <;> try (cases h; done)
  rename_i v hv
  cases h
  exact ⟨v, resA_nil hv, fun t => by rw [key, if_neg hc, hv], rfl⟩
theorem read_step {o : Oper} {k : Kd} (hk : kindOf C o = k) (hk' : k = .P ∨ k = .Q ∨ k = .QC) (h : stepD C s o = some s1) :
    ∃ v, s1 = s.put o.dst v ∧ InA s v ∧ ∀ t, (∀ x ∈ o.op.operands.toList, t.ev x = s.ev x) → MemR k s t o.op.operands.toList → stepD C t o = some (t.put o.dst v) := by
  have hlr0 : litR C.Θ o = false := (kind0 hk (by rcases hk' with rfl | rfl | rfl <;> (intro e; cases e))).2
  obtain ⟨dst, op, ty, pos, after, guard⟩ := o
  have hlr : litR C.Θ ⟨dst, op, ty, pos, after, guard⟩ = false := hlr0
  have main : isMem op = false → (∀ t : St C.Θ.T, stepD C t ⟨dst, op, ty, pos, after, guard⟩ = match plain1 C t ⟨dst, op, ty, pos, after, guard⟩ with
      | some (c, s') => cond c (some s') none
      | none => none) → (∀ r t, opV C.P C.Θ C.eqs s op = some r → (∀ x ∈ op.operands.toList, t.ev x = s.ev x) → MemR k s t op.operands.toList → opV C.P C.Θ C.eqs t op = some r) →
      ∃ v, s1 = s.put dst v ∧ InA s v ∧ ∀ t, (∀ x ∈ op.operands.toList, t.ev x = s.ev x) → MemR k s t op.operands.toList → stepD C t ⟨dst, op, ty, pos, after, guard⟩ = some (t.put dst v) := by
    intro hm hst hop
    have pl : ∀ t : St C.Θ.T, plain1 C t ⟨dst, op, ty, pos, after, guard⟩ = (match opV C.P C.Θ C.eqs t op with | some (c, v) => some (c, t.put dst v) | none => none) := fun t => by
      unfold plain1; rw [if_neg (by rw [hlr]; decide), if_neg (by simp [hm])]; rfl
    rw [hst, pl] at h
    cases ho : opV C.P C.Θ C.eqs s op with
    | none => simp [ho] at h
    | some q =>
      obtain ⟨c, v⟩ := q
      simp only [ho] at h
      cases c with
      | false => cases h
      | true =>
        simp only [cond_true, Option.some.injEq] at h
        refine ⟨v, h.symm, opV_in ho, fun t ht hmr => ?_⟩
        rw [hst, pl, hop _ t ho ht hmr]
        rfl
  rcases hk' with rfl | rfl | rfl
  ·
    have hp : pureOp op = true := kind_P hk
    have mainP := fun (hm : isMem op = false) hst => main hm hst (fun r t hr ht _ => by rw [opV_pure hp ht]; exact hr)
    cases op <;> try (simp [pureOp] at hp; done)
    case pick c x y =>
      have hst : ∀ t : St C.Θ.T, stepD C t ⟨dst, .pick c x y, ty, pos, after, guard⟩ = match t.ev c with
        | .c (.v (.bool b)) => cond b (some (t.put dst (t.ev x))) (some (t.put dst (t.ev y)))
        | _ => none := by intro t; cases c <;> rfl
      rw [hst] at h
      split at h <;> try (cases h; done)
      rename_i b hb
      refine ⟨cond b (s.ev x) (s.ev y), ?_, ?_, fun t ht _ => ?_⟩
      · cases b <;> (cases h; rfl)
      · cases b <;> exact in_ev _
      · rw [hst]
        have h1 := ht c (by simp [Op.operands])
        have h2 := ht x (by simp [Op.operands])
        have h3 := ht y (by simp [Op.operands])
        rw [h1, hb, h2, h3]
        cases b <;> rfl
    case buildSlice lt len parts =>
      have hst : ∀ t : St C.Θ.T, stepD C t ⟨dst, .buildSlice lt len parts, ty, pos, after, guard⟩ = match opA C.P C.Θ t ⟨dst, .buildSlice lt len parts, ty, pos, after, guard⟩ with
        | some (c, s') => cond c (some s') none
        | none => none := fun t => by
          show (match plain1 C t ⟨dst, .buildSlice lt len parts, ty, pos, after, guard⟩ with
            | some (c, s') => cond c (some s') none
            | none => none : Option (St C.Θ.T)) = _
          unfold plain1
          rw [if_neg (by rw [hlr]; decide)]
          rfl
      rw [hst] at h
      cases dst with
      | none => simp [opA] at h
      | some d =>
        have hop : ∀ t : St C.Θ.T, opA C.P C.Θ t ⟨some d, .buildSlice lt len parts, ty, pos, after, guard⟩ = aLit C.P C.Θ t d lt len parts := fun t => rfl
        rw [hop] at h
        cases ha : aLit C.P C.Θ s d lt len parts with
        | none => simp [ha] at h
        | some q =>
        obtain ⟨c, s2⟩ := q
        simp only [ha] at h
        cases c with
        | false => cases h
        | true =>
        simp only [cond_true, Option.some.injEq] at h
        subst h
        unfold aLit at ha
        split at ha <;> try (cases ha; done)
        rename_i e he
        split at ha <;> try (cases ha; done)
        rename_i inf hi
        split at ha <;> try (cases ha; done)
        rename_i hc
        split at ha <;> try (cases ha; done)
        rename_i l hl
        simp only [Option.some.injEq, Prod.mk.injEq, true_and] at ha
        refine ⟨_, ha.symm, ?_, fun t ht _ => ?_⟩
        · split
          · exact in_none ⟨rfl, rfl⟩
          · exact in_none ⟨rfl, rfl⟩
        · rw [hst, hop]
          unfold aLit
          simp only [he, hi, if_pos hc]
          rw [litElems_alike (s := s) e parts.toList 0 (fun p hp => ht p.2 (by
            simp only [Op.operands, List.mem_map]
            exact ⟨p, hp, rfl⟩)), hl]
          rfl
    case call c =>
      obtain ⟨callee, args, ats⟩ := c
      cases callee <;> try (simp [pureOp] at hp; done)
      rename_i b
      cases b <;> try (simp [pureOp] at hp; done)
      all_goals exact mainP rfl fun t => rfl
    all_goals exact mainP rfl fun t => rfl
  ·
    have hp : readOp op = true := kind_Q hk
    have mainQ := fun (hm : isMem op = false) hst => main hm hst (fun r t hr ht hmr => opV_read hp ⟨ht, hmr.1, hmr.2⟩ hr)
    cases op <;> try (simp [readOp] at hp; done)
    case call c =>
      obtain ⟨callee, args, ats⟩ := c
      cases callee <;> try (simp [readOp] at hp; done)
      rename_i b
      cases b <;> try (simp [readOp] at hp; done)
      exact mainQ rfl fun t => rfl
    all_goals exact mainQ rfl fun t => rfl
  ·
    obtain ⟨g, hg, hsp⟩ := kind_QC hk
    obtain ⟨args, ats, e⟩ := callee_of hg
    simp only at e
    subst e
    have hst : ∀ t : St C.Θ.T, stepD C t ⟨dst, .call ⟨.value (.func g), args, ats⟩, ty, pos, after, guard⟩ = match ready (flatE C.Θ) (St.cellsAt C.Θ) C.Γ t g (args.toList.map t.ev) with
      | some r => callK (flatE C.Θ) r dst some
      | none => none := by
      intro t
      have : calleeOf C t (.func g) = some (g, [], []) := rfl
      simp only [stepD, stepC, this, List.nil_append, List.append_nil]
      rfl
    rw [hst] at h
    split at h <;> try (cases h; done)
    rename_i r hr
    have hq : ∀ p ∈ C.Γ, p.1 = g → plainIn p.2.hin = true ∧ (flatOuts (flatE C.Θ) p.2.outs = true ∨ p.2.hin.slots = []) := fun p hp e => by
      have := hsp p hp e
      simp only [okQC, quietSpec, nullSpec, Bool.or_eq_true, Bool.and_eq_true, List.isEmpty_iff] at this
      rcases this with ⟨h1, h2⟩ | ⟨⟨h1, h2, h3⟩, _⟩
      · exact ⟨h2, .inl h1.1.2⟩
      · exact ⟨by simp [plainIn, h1, h2, h3], .inr h1⟩
    obtain ⟨e1, hm, hres⟩ := ready_plain hq hr
    obtain ⟨z, q, x, hF, hmem, e2, haf, hto⟩ := callK_some h
    have hqs := hsp _ hm rfl
    have hqs' : (r.sp.hin.boxes = [] ∧ r.sp.hin.rows = []) ∧ ∀ o ∈ r.sp.outs, o.2.boxes = [] ∧ o.2.rows = [] := by
      simp only [okQC, quietSpec, nullSpec, Bool.or_eq_true, Bool.and_eq_true, List.isEmpty_iff, List.all_eq_true] at hqs
      rcases hqs with ⟨⟨⟨h, _⟩, h4⟩, _⟩ | ⟨⟨_, h⟩, h4⟩
      · exact ⟨h, h4⟩
      · exact ⟨h, h4⟩
    obtain ⟨⟨h2, h3⟩, h4⟩ := hqs'
    obtain ⟨v, hvn, hv, hz⟩ := quiet_after' (h4 q hmem) h2 h3 haf
    refine ⟨v, by rw [hz, e1], in_none hvn, fun t ht hmr => ?_⟩
    · rw [hst]
      have hav : args.toList.map t.ev = args.toList.map s.ev := map_alike _ fun z hz => ht z (by simp [Op.operands, Call.operands] at hz ⊢; exact .inr hz)
      have hsub : ∀ v ∈ args.toList.map s.ev, v ∈ (Op.call ⟨.value (.func g), args, ats⟩).operands.toList.map s.ev := by
        intro v hv
        obtain ⟨z, hz, rfl⟩ := List.mem_map.1 hv
        exact List.mem_map.2 ⟨z, by simp [Op.operands, Call.operands] at hz ⊢; exact .inr hz, rfl⟩
      have hmr' : Shown s t (Op.call ⟨.value (.func g), args, ats⟩ |>.operands.toList.map s.ev) := hmr
      rw [hav, hres t ⟨fun v hv => hmr'.box v (hsub v hv), fun v hv => hmr'.cell v (hsub v hv), fun v hv => hmr'.row v (hsub v hv)⟩]
      simp only
      unfold callK
      simp only [hF, Option.bind_some]
      rw [hto]
      simp only [e2]
      rw [hv t]
structure Tame (L : List Oper) (s : St C.Θ.T) : Prop where
  rb : ∀ p ∈ refsB C s, (∀ B, look s.boxes p.1 = some B → p.2 ≤ B.gen) ∧ (look s.boxes p.1 = none → ∀ o ∈ L, p.1 ∉ bK C o)
  rr : ∀ p ∈ refsR C s, (∀ R, look s.rows p.1 = some R → p.2 ≤ R.gen) ∧ (look s.rows p.1 = none → ∀ o ∈ L, p.1 ∉ aK C o ∧ p.1 ∉ fK C o)
  kb : ∀ o ∈ L, ∀ k ∈ bK C o, look s.boxes k = none
  kf : ∀ o ∈ L, ∀ k ∈ fK C o, look s.rows k = none
theorem Tame.sub {L L' : List Oper} (h : Tame L s) (hs : ∀ o ∈ L', o ∈ L) : Tame L' s :=
  ⟨fun p hp => ⟨(h.rb p hp).1, fun e o ho => (h.rb p hp).2 e o (hs o ho)⟩, fun p hp => ⟨(h.rr p hp).1, fun e o ho => (h.rr p hp).2 e o (hs o ho)⟩, fun o ho => h.kb o (hs o ho), fun o ho => h.kf o (hs o ho)⟩
theorem noB_of {k g : Nat} (h : ∀ p ∈ refsB C s, ¬ (p.1 = k ∧ p.2 = g)) : s.noB k g = true := by
  unfold St.noB
  simp only [Bool.and_eq_true, List.all_eq_true, Bool.not_eq_true']
  have f : ∀ l : List (Nat × Nat), (∀ p ∈ l, p ∈ refsB C s) → has l k g = false := by
    intro l hl
    unfold has
    rw [List.any_eq_false]
    intro p hp hc
    simp at hc
    exact h p (hl p hp) hc
  exact ⟨fun a ha => f _ fun p hp => List.mem_append_left _ (List.mem_flatMap.2 ⟨a, ha, hp⟩), fun b hb c hc => f _ fun p hp => List.mem_append_right _ (List.mem_flatMap.2 ⟨b, hb, List.mem_flatMap.2 ⟨c, hc, hp⟩⟩)⟩
theorem noR_of {k g : Nat} (h : ∀ p ∈ refsR C s, ¬ (p.1 = k ∧ p.2 = g)) : s.noR k g = true := by
  unfold St.noR
  simp only [Bool.and_eq_true, List.all_eq_true, Bool.not_eq_true']
  have f : ∀ l : List (Nat × Nat), (∀ p ∈ l, p ∈ refsR C s) → has l k g = false := by
    intro l hl
    unfold has
    rw [List.any_eq_false]
    intro p hp hc
    simp at hc
    exact h p (hl p hp) hc
  exact ⟨fun a ha => f _ fun p hp => List.mem_append_left _ (List.mem_flatMap.2 ⟨a, ha, hp⟩), fun b hb c hc => f _ fun p hp => List.mem_append_right _ (List.mem_flatMap.2 ⟨b, hb, List.mem_flatMap.2 ⟨c, hc, hp⟩⟩)⟩
theorem Tame.noB {L : List Oper} (h : Tame L s) {o : Oper} (ho : o ∈ L) {k : Nat} (hk : k ∈ bK C o) : s.nextB k = 0 ∧ s.noB k 0 = true := by
  have h0 := h.kb o ho k hk
  refine ⟨by simp only [St.nextB, h0], noB_of fun p hp hc => ?_⟩
  obtain ⟨q, g⟩ := p
  obtain ⟨rfl, rfl⟩ := hc
  exact (h.rb _ hp).2 h0 o ho hk
theorem Tame.noR {L : List Oper} (h : Tame L s) {k : Nat} (hk : (look s.rows k).isSome = true ∨ ∃ o ∈ L, k ∈ aK C o ∨ k ∈ fK C o) : s.noR k (s.nextR k) = true ∧ ∀ p ∈ refsR C s, p.1 = k → p.2 < s.nextR k := by
  have key : ∀ p ∈ refsR C s, p.1 = k → p.2 < s.nextR k := by
    intro p hp e
    obtain ⟨q, g⟩ := p
    simp only at e
    subst e
    cases hl : look s.rows q with
    | some R =>
      have := (h.rr _ hp).1 R hl
      simp only [St.nextR, hl] at this ⊢
      omega
    | none =>
      rcases hk with hk | ⟨o, ho, hk⟩
      · rw [hl] at hk; cases hk
      · have := (h.rr _ hp).2 hl o ho
        rcases hk with hk | hk
        · exact absurd hk this.1
        · exact absurd hk this.2
  refine ⟨noR_of fun p hp hc => ?_, key⟩
  have := key p hp hc.1
  omega
theorem zero_in {ty : TypeId} {cs : List (CV C.Θ.T)} (h : zeroCells C.P ty = some cs) : ∀ c ∈ cs, InC s c := by
  unfold zeroCells at h
  split at h <;> try (cases h; done)
  split at h <;> try (cases h; done)
  exact in_const h
theorem box_step {o : Oper} {d : Nat} (hd : o.dst = some d) (hop : (∃ ty, o.op = .alloc ty) ∨ ∃ ty x, o.op = .box ty x) (h : stepD C s o = some s1) :
    ∃ ty cs, s1 = ⟨s.slots.set d (.c (.box d (s.nextB d) 0)), keep s.boxes d ⟨s.nextB d, ty, cs⟩, s.rows⟩ ∧ (∀ c ∈ cs, InC s c) ∧
      ∀ t : St C.Θ.T, (∀ x ∈ o.op.operands.toList, t.ev x = s.ev x) → t.nextB d = s.nextB d → t.noB d (s.nextB d) = true → stepD C t o = some ⟨t.slots.set d (.c (.box d (s.nextB d) 0)), keep t.boxes d ⟨s.nextB d, ty, cs⟩, t.rows⟩ := by
  obtain ⟨dst, op, ty, pos, after, guard⟩ := o
  simp only at hd hop
  subst hd
  have nb : ∀ {r : St C.Θ.T} {ty' : Nat} {cs : List (CV C.Θ.T)}, s.newBox d ty' cs = some r → r = ⟨s.slots.set d (.c (.box d (s.nextB d) 0)), keep s.boxes d ⟨s.nextB d, ty', cs⟩, s.rows⟩ ∧ ∀ t : St C.Θ.T, t.nextB d = s.nextB d → t.noB d (s.nextB d) = true → t.newBox d ty' cs = some ⟨t.slots.set d (.c (.box d (s.nextB d) 0)), keep t.boxes d ⟨s.nextB d, ty', cs⟩, t.rows⟩ := by
    intro r ty' cs h
    unfold St.newBox at h
    split at h <;> try (cases h; done)
    rename_i hc
    cases h
    simp only [Bool.and_eq_true] at hc
    refine ⟨rfl, fun t h1 h2 => ?_⟩
    unfold St.newBox
    rw [h1, h2, hc.2]
    rfl
  rcases hop with ⟨ty', rfl⟩ | ⟨ty', x, rfl⟩
  · have hst : ∀ t : St C.Θ.T, stepD C t ⟨some d, .alloc ty', ty, pos, after, guard⟩ = match aAlloc C.P t d ty' with
        | some (c, s') => cond c (some s') none
        | none => none := fun t => rfl
    rw [hst] at h
    unfold aAlloc at h
    cases hz : zeroCells (T := C.Θ.T) C.P ty' with
    | none => simp [hz] at h
    | some cs =>
      simp only [hz] at h
      cases hn : s.newBox d ty' cs with
      | none => simp [hn] at h
      | some r =>
        simp only [hn, Option.map_some, cond_true, Option.some.injEq] at h
        subst h
        obtain ⟨e, ht⟩ := nb hn
        refine ⟨ty', cs, e, zero_in hz, fun t _ h1 h2 => ?_⟩
        rw [hst]
        unfold aAlloc
        simp only [hz, ht t h1 h2]
        rfl
  · have hst : ∀ t : St C.Θ.T, stepD C t ⟨some d, .box ty' x, ty, pos, after, guard⟩ = match aBox t d ty' (t.ev x) with
        | some (c, s') => cond c (some s') none
        | none => none := fun t => rfl
    rw [hst] at h
    unfold aBox at h
    cases hz : cellsOfAV (s.ev x) with
    | none => simp [hz] at h
    | some cs =>
      simp only [hz] at h
      by_cases hc : cs.all (fun c => !(has c.mB d (s.nextB d))) = true
      · rw [if_pos hc] at h
        cases hn : s.newBox d ty' cs with
        | none => simp [hn] at h
        | some r =>
          simp only [hn, Option.map_some, cond_true, Option.some.injEq] at h
          subst h
          obtain ⟨e, ht⟩ := nb hn
          refine ⟨ty', cs, e, in_cells hz (in_ev x), fun t hev h1 h2 => ?_⟩
          rw [hst]
          unfold aBox
          rw [hev x (by simp [Op.operands])]
          simp only [hz, h1, if_pos hc, ht t h1 h2]
          rfl
      · rw [if_neg hc] at h; cases h
structure Made (s : St C.Θ.T) (R' : List (Nat × RowS C.Θ.T)) (v : AV C.Θ.T) (N : Nat → Prop) : Prop where
  off : ∀ k, ¬ N k → look R' k = look s.rows k
  on : ∀ k, N k → ∃ R1, look R' k = some R1 ∧ ∀ p ∈ refsR C s, p.1 = k → p.2 < R1.gen
  vb : ∀ p ∈ v.mB, p ∈ refsB C s
  vr : ∀ p ∈ v.mR, p ∈ refsR C s ∨ ∃ R1, look R' p.1 = some R1 ∧ p.2 ≤ R1.gen
theorem newRow_made {L : List Oper} (hT : Tame L s) {d r e : Nat} {l : List (C.Θ.T e)} {s' : St C.Θ.T} (hk : (look s.rows r).isSome = true ∨ ∃ o ∈ L, r ∈ aK C o ∨ r ∈ fK C o) (h : s.newRow C.Θ d r e l = some s') :
    s' = ⟨(s.put (some d) (.c (.row r (s.nextR r)))).slots, s.boxes, keep s.rows r ⟨s.nextR r, e, l⟩⟩ ∧ Made s (keep s.rows r ⟨s.nextR r, e, l⟩) (.c (.row r (s.nextR r))) (fun k => k = r) ∧
      ∀ t : St C.Θ.T, t.rows = s.rows → Tame L t → t.newRow C.Θ d r e l = some ⟨(t.put (some d) (.c (.row r (s.nextR r)))).slots, t.boxes, keep s.rows r ⟨s.nextR r, e, l⟩⟩ := by
  have ht := hT.noR hk
  unfold St.newRow at h
  split at h <;> try (cases h; done)
  rename_i hc
  cases h
  simp only [Bool.and_eq_true] at hc
  refine ⟨rfl, ⟨fun k hk => ?_, fun k hk => ?_, fun p hp => by simp [AV.mB, CV.mB] at hp, fun p hp => .inr ?_⟩, fun t htr htT => ?_⟩
  · rw [look_keep, if_neg (fun e => hk e.symm)]
  · subst hk
    exact ⟨_, by rw [look_keep, if_pos rfl], ht.2⟩
  · simp only [AV.mR, CV.mR, List.mem_singleton] at hp
    subst hp
    exact ⟨⟨s.nextR r, e, l⟩, by rw [look_keep, if_pos rfl], Nat.le_refl _⟩
  · have hn : t.nextR r = s.nextR r := by simp only [St.nextR, htr]
    have := (htT.noR (k := r) (by rw [htr]; exact hk)).1
    unfold St.newRow
    rw [this, hn, hc.2, htr]
    rfl
theorem app_step {L : List Oper} (hT : Tame L s) {o : Oper} (ho : o ∈ L) (hk : kindOf C o = .A) (h : stepD C s o = some s1) :
    ∃ v R' N, s1 = ⟨(s.put o.dst v).slots, s.boxes, R'⟩ ∧ Made s R' v N ∧ (∀ k, N k → k ∈ aK C o ∨ (look s.rows k).isSome = true) ∧
      ∀ t : St C.Θ.T, (∀ x ∈ o.op.operands.toList, t.ev x = s.ev x) → t.rows = s.rows → Tame L t → stepD C t o = some ⟨(t.put o.dst v).slots, t.boxes, R'⟩ := by
  obtain ⟨d, hd, hg, ha⟩ := kind_A hk
  have hak : d ∈ aK C o := by unfold aK; rw [hk, hd]; simp
  obtain ⟨dst, op, ty, pos, after, guard⟩ := o
  simp only at hd ha
  subst hd
  cases op <;> try (simp [appOp] at ha; done)
  rename_i c
  obtain ⟨callee, args, ats⟩ := c
  cases callee <;> try (simp [appOp] at ha; done)
  rename_i b
  cases b <;> try (simp [appOp] at ha; done)
  have hst : ∀ t : St C.Θ.T, stepD C t ⟨some d, .call ⟨.builtin .append, args, ats⟩, ty, pos, after, guard⟩ = match opA C.P C.Θ t ⟨some d, .call ⟨.builtin .append, args, ats⟩, ty, pos, after, guard⟩ with
      | some (c, s') => cond c (some s') none
      | none => none := fun t => rfl
  rw [hst] at h
  cases hoo : opA C.P C.Θ s ⟨some d, .call ⟨.builtin .append, args, ats⟩, ty, pos, after, guard⟩ with
  | none => simp [hoo] at h
  | some q =>
    obtain ⟨c, s2⟩ := q
    simp only [hoo] at h
    cases c with
    | false => cases h
    | true =>
    simp only [cond_true, Option.some.injEq] at h
    subst h
    have haa := hoo
    simp only [opA] at haa
    split at haa <;> try (cases haa; done)
    rename_i x y t1 t2 _ hal htl
    split at haa <;> try (cases haa; done)
    rename_i htt
    have hop : ∀ t : St C.Θ.T, opA C.P C.Θ t ⟨some d, .call ⟨.builtin .append, args, ats⟩, ty, pos, after, guard⟩ = aAppend C.P C.Θ t d t1 (t.ev x) (t.ev y) := fun t => by
      simp only [opA, hal, htl, if_pos htt]
    have fin : ∀ v R', (∀ t : St C.Θ.T, (t.ev x = s.ev x) → (t.ev y = s.ev y) → t.rows = s.rows → Tame L t → aAppend C.P C.Θ t d t1 (t.ev x) (t.ev y) = some (true, ⟨(t.put (some d) v).slots, t.boxes, R'⟩)) →
        ∀ t : St C.Θ.T, (∀ z ∈ (Op.call ⟨.builtin .append, args, ats⟩).operands.toList, t.ev z = s.ev z) → t.rows = s.rows → Tame L t → stepD C t ⟨some d, .call ⟨.builtin .append, args, ats⟩, ty, pos, after, guard⟩ = some ⟨(t.put (some d) v).slots, t.boxes, R'⟩ := by
      intro v R' hh t hev hr htT
      have hmem : ∀ z, z ∈ args.toList → z ∈ (Op.call ⟨.builtin .append, args, ats⟩).operands.toList := fun z hz => by simp [Op.operands, Call.operands] at hz ⊢; exact hz
      rw [hst, hop]
      rw [hh t (hev x (hmem x (by simp [hal]))) (hev y (hmem y (by simp [hal]))) hr htT]
      rfl
    unfold aAppend at haa
    split at haa <;> try (cases haa; done)
    rename_i e he
    split at haa <;> try (cases haa; done)
    rename_i inf hi
    split at haa <;> try (cases haa; done)
    rename_i hc
    split at haa <;> try (cases haa; done)
    rename_i ys hys
    have hys' : ∀ t : St C.Θ.T, t.rows = s.rows → rowOf C.Θ t e (s.ev y) = some ys := fun t ht => by
      rw [← hys]; unfold rowOf; rw [get_rows' ht]
    have own : ∀ (hx : s.ev x = .c .nil ∨ s.ev x = .c .e0), (s.newRow C.Θ d d e ys).map (fun s' => (fitB ys.length inf.bytes, s')) = some (true, s2) → ∃ v R' N, s2 = ⟨(s.put (some d) v).slots, s.boxes, R'⟩ ∧ Made s R' v N ∧ (∀ k, N k → k ∈ aK C ⟨some d, .call ⟨.builtin .append, args, ats⟩, ty, pos, after, guard⟩ ∨ (look s.rows k).isSome = true) ∧
        ∀ t : St C.Θ.T, (t.ev x = s.ev x) → (t.ev y = s.ev y) → t.rows = s.rows → Tame L t → aAppend C.P C.Θ t d t1 (t.ev x) (t.ev y) = some (true, ⟨(t.put (some d) v).slots, t.boxes, R'⟩) := by
      intro hx h
      cases hn : s.newRow C.Θ d d e ys with
      | none => simp [hn] at h
      | some s3 =>
        simp only [hn, Option.map_some, Option.some.injEq, Prod.mk.injEq] at h
        obtain ⟨hf, rfl⟩ := h
        obtain ⟨e1, m, ht⟩ := newRow_made hT (.inr ⟨_, ho, .inl hak⟩) hn
        refine ⟨_, _, _, e1, m, fun k hk => .inl (by rw [hk]; exact hak), fun t h1 h2 hr htT => ?_⟩
        rw [h1, h2]
        unfold aAppend
        simp only [he, hi, if_pos hc, hys' t hr]
        rcases hx with hx | hx <;> simp only [hx, ht t hr htT, Option.map_some, hf]
    split at haa <;> try (cases haa; done)
    · rename_i hx
      obtain ⟨v, R', N, h1, h2, h3, h4⟩ := own (.inl hx) haa
      exact ⟨v, R', N, h1, h2, h3, fin v R' h4⟩
    · rename_i hx
      obtain ⟨v, R', N, h1, h2, h3, h4⟩ := own (.inr hx) haa
      exact ⟨v, R', N, h1, h2, h3, fin v R' h4⟩
    · rename_i r g hx
      split at haa <;> try (cases haa; done)
      rename_i R hR
      split at haa <;> try (cases haa; done)
      rename_i hge
      cases hn : s.newRow C.Θ d r e ((hge.2 ▸ R.l) ++ ys) with
      | none => simp [hn] at haa
      | some s3 =>
        simp only [hn, Option.map_some, Option.some.injEq, Prod.mk.injEq] at haa
        obtain ⟨hf, rfl⟩ := haa
        obtain ⟨e1, m, ht⟩ := newRow_made hT (.inl (by simp [hR])) hn
        refine ⟨_, _, _, e1, m, fun k hk => .inr (by rw [hk, hR]; rfl), fin _ _ fun t h1 h2 hr htT => ?_⟩
        rw [h1, h2]
        unfold aAppend
        simp only [he, hi, if_pos hc, hys' t hr, hx, hr, hR, dif_pos hge, ht t hr htT, Option.map_some, hf]
theorem ren_in {nR : List (Nat × CV C.Θ.T)} (hn : ∀ b ∈ nR, b.2.mB = []) {c c' : CV C.Θ.T} (h : renC [] nR c = some c') : c'.mB = [] ∧ ∀ p ∈ c'.mR, ∃ b ∈ nR, p ∈ b.2.mR := by
  have lk : ∀ {r : Nat} {x : CV C.Θ.T}, look nR r = some x → (r, x) ∈ nR := fun h => mem_of_look h
  cases c <;> simp only [renC] at h
  case row r g =>
    split at h <;> try (cases h; done)
    have := lk h
    exact ⟨hn _ this, fun p hp => ⟨_, this, hp⟩⟩
  case box k g off => split at h <;> simp [look] at h
  case fn f caps =>
    cases caps with
    | nil => simp [renCaps] at h; subst h; exact ⟨rfl, fun p hp => by cases hp⟩
    | cons p r => simp [renCaps, look] at h
  all_goals cases h; exact ⟨rfl, fun p hp => by cases hp⟩
theorem rens_in {nR : List (Nat × CV C.Θ.T)} (hn : ∀ b ∈ nR, b.2.mB = []) : ∀ {cs cs' : List (CV C.Θ.T)}, renCs [] nR cs = some cs' → ∀ c ∈ cs', c.mB = [] ∧ ∀ p ∈ c.mR, ∃ b ∈ nR, p ∈ b.2.mR := by
  intro cs
  induction cs with
  | nil => intro cs' h; cases h; intro c hc; cases hc
  | cons c cs ih =>
    intro cs' h
    simp only [renCs] at h
    split at h <;> try (cases h; done)
    rename_i c' hc
    split at h <;> try (cases h; done)
    rename_i l hl
    cases h
    intro d hd
    rcases List.mem_cons.1 hd with e | e
    · subst e; exact ren_in hn hc
    · exact ih hl d e
theorem mems_in {nR : List (Nat × CV C.Θ.T)} {l : List (CV C.Θ.T)} (h : ∀ c ∈ l, c.mB = [] ∧ ∀ p ∈ c.mR, ∃ b ∈ nR, p ∈ b.2.mR) : l.flatMap CV.mB = [] ∧ ∀ p ∈ l.flatMap CV.mR, ∃ b ∈ nR, p ∈ b.2.mR := by
  constructor
  · rw [List.flatMap_eq_nil_iff]; exact fun c hc => (h c hc).1
  · intro p hp
    obtain ⟨c, hc, hp⟩ := List.mem_flatMap.1 hp
    exact (h c hc).2 p hp
theorem resA_in {nR : List (Nat × CV C.Θ.T)} (hn : ∀ b ∈ nR, b.2.mB = []) {l : List (AV C.Θ.T)} {v : AV C.Θ.T} (h : resA [] nR l = some v) : v.mB = [] ∧ ∀ p ∈ v.mR, ∃ b ∈ nR, p ∈ b.2.mR := by
  have tup : ∀ (l : List (AV C.Θ.T)) (xs : List (CV C.Θ.T ⊕ List (CV C.Θ.T))), renSs [] nR l = some xs → ∀ q ∈ xs, (sumAV q).mB = [] ∧ ∀ p ∈ (sumAV q).mR, ∃ b ∈ nR, p ∈ b.2.mR := by
    intro l
    induction l with
    | nil => intro xs h; cases h; intro q hq; cases hq
    | cons v l ih =>
      intro xs h
      simp only [renSs] at h
      split at h <;> try (cases h; done)
      rename_i x hx
      split at h <;> try (cases h; done)
      rename_i r hr
      cases h
      intro q hq
      rcases List.mem_cons.1 hq with e | e
      · subst e
        cases v <;> simp only [renS] at hx <;> try (cases hx; done)
        case c c =>
          cases hc : renC ([] : List (Nat × Nat × Nat)) nR c with
          | none => simp [hc] at hx
          | some c' => simp [hc] at hx; subst hx; exact ren_in hn hc
        case agg cs =>
          cases hc : renCs ([] : List (Nat × Nat × Nat)) nR cs with
          | none => simp [hc] at hx
          | some c' => simp [hc] at hx; subst hx; exact mems_in (rens_in hn hc)
      · exact ih r hr q e
  have many : ∀ (l : List (AV C.Θ.T)), (renSs [] nR l).map AV.tup = some v → v.mB = [] ∧ ∀ p ∈ v.mR, ∃ b ∈ nR, p ∈ b.2.mR := by
    intro l h
    cases hx : renSs ([] : List (Nat × Nat × Nat)) nR l with
    | none => simp [hx] at h
    | some xs =>
      simp [hx] at h
      subst h
      have := tup l xs hx
      constructor
      · simp only [AV.mB]; rw [List.flatMap_eq_nil_iff]; intro q hq; have := (this q hq).1; cases q <;> exact this
      · intro p hp
        simp only [AV.mR] at hp
        obtain ⟨q, hq, hp⟩ := List.mem_flatMap.1 hp
        have := (this q hq).2 p
        cases q <;> exact this hp
  unfold resA at h
  split at h
  · rename_i w
    cases w <;> simp only [renA] at h <;> try (cases h; done)
    case c c =>
      cases hc : renC ([] : List (Nat × Nat × Nat)) nR c with
      | none => simp [hc] at h
      | some c' => simp [hc] at h; subst h; exact ren_in hn hc
    case agg cs =>
      cases hc : renCs ([] : List (Nat × Nat × Nat)) nR cs with
      | none => simp [hc] at h
      | some c' => simp [hc] at h; subst h; exact mems_in (rens_in hn hc)
    case rel r g i sz off =>
      split at h <;> try (cases h; done)
      split at h <;> try (cases h; done)
      rename_i x hx
      split at h <;> try (cases h; done)
      cases h
      exact ⟨rfl, fun p hp => ⟨_, mem_of_look hx, hp⟩⟩
  · exact many _ h
theorem renRs_fresh {hin : Shape} (hr : hin.rows = []) {bs : List (Nat × CV C.Θ.T)} {d : Nat} : ∀ (l : List (Nat × RowS C.Θ.T)) (nR : List (Nat × CV C.Θ.T)), renRs s hin bs d l = some nR →
    nR = l.map (fun b => (b.1, .row (freshK d b.1) (s.nextR (freshK d b.1)))) ∧ ∀ t : St C.Θ.T, (∀ b ∈ l, t.nextR (freshK d b.1) = s.nextR (freshK d b.1) ∧ t.noR (freshK d b.1) (s.nextR (freshK d b.1)) = true) → renRs t hin bs d l = some nR := by
  have ent : ∀ (t : St C.Θ.T) k, entR t hin bs d k = freshR t d k := fun t k => by
    unfold entR; rw [hr]; simp [keyIn]
  intro l
  induction l with
  | nil => intro nR h; cases h; exact ⟨rfl, fun t _ => rfl⟩
  | cons b l ih =>
    intro nR h
    simp only [renRs] at h
    split at h <;> try (cases h; done)
    rename_i c hc
    split at h <;> try (cases h; done)
    rename_i hg
    split at h <;> try (cases h; done)
    rename_i l' hl
    cases h
    rw [ent] at hc
    obtain ⟨e, ht⟩ := ih l' hl
    unfold freshR at hc
    split at hc <;> try (cases hc; done)
    rename_i hcc
    cases hc
    simp only [Bool.and_eq_true] at hcc
    refine ⟨by rw [e]; rfl, fun t hh => ?_⟩
    obtain ⟨h1, h2⟩ := hh b (by simp)
    simp only [renRs, ent]
    rw [ht t fun b' hb' => hh b' (by simp [hb'])]
    unfold freshR
    rw [h1, h2, hcc.2]
    simp [hg]
theorem newRs_fresh {f : Nat → Nat × Nat} : ∀ (l l0 : List (Nat × RowS C.Θ.T)), (∀ b ∈ l, b ∈ l0) → newRs (l0.map fun b => (b.1, CV.row (T := C.Θ.T) (f b.1).1 (f b.1).2)) l = some (l.map fun b => ((f b.1).1, ⟨(f b.1).2, b.2.e, b.2.l⟩)) := by
  intro l l0
  have lk : ∀ b ∈ l0, look (l0.map fun b => (b.1, CV.row (T := C.Θ.T) (f b.1).1 (f b.1).2)) b.1 = some (CV.row (f b.1).1 (f b.1).2) := by
    clear l
    induction l0 with
    | nil => intro b hb; cases hb
    | cons x l0 ih =>
      intro b hb
      simp only [List.map_cons, look]
      by_cases hx : x.1 = b.1
      · rw [if_pos hx, hx]
      · rw [if_neg hx]
        rcases List.mem_cons.1 hb with e | e
        · exact absurd (by rw [e]) hx
        · exact ih b e
  induction l with
  | nil => intro _; rfl
  | cons b l ih =>
    intro h
    simp only [newRs]
    rw [lk b (h b (by simp)), ih fun b' hb' => h b' (by simp [hb'])]
    rfl
theorem fillRs_keys : ∀ (ts : List (Nat × Nat)) (ps : List (PV C.Θ.T)), ∀ b ∈ fillRs ts ps, ∃ r ∈ ts, b.1 = r.1 := by
  intro ts
  induction ts with
  | nil => intro ps b hb; cases hb
  | cons t ts ih =>
    intro ps b hb
    cases ps with
    | nil => cases hb
    | cons p ps =>
      simp only [fillRs, List.mem_cons] at hb
      rcases hb with e | e
      · exact ⟨t, by simp, by rw [e]⟩
      · obtain ⟨r, hr, e⟩ := ih ps b e; exact ⟨r, by simp [hr], e⟩
theorem mem_freshKeys {d g : Nat} : ∀ (Γ : List (Nat × Go.Den.Spec C.Θ.T)) (p : Nat × Go.Den.Spec C.Θ.T) (q : Ex × Shape) (r : Nat × Nat), p ∈ Γ → p.1 = g → q ∈ p.2.outs → r ∈ q.2.rows → freshK d r.1 ∈ freshKeys C d Γ g := by
  intro Γ
  induction Γ with
  | nil => intro p q r hp; cases hp
  | cons x Γ ih =>
    intro p q r hp hg hq hr
    simp only [freshKeys]
    rcases List.mem_cons.1 hp with e | e
    · subst e
      rw [if_pos (by simp [hg])]
      exact List.mem_append_left _ (List.mem_flatMap.2 ⟨q, hq, List.mem_map.2 ⟨r, hr, rfl⟩⟩)
    · split
      · exact List.mem_append_right _ (ih p q r e hg hq hr)
      · exact ih p q r e hg hq hr
theorem look_append2 {B : Type} (l l' : List (Nat × B)) (k : Nat) : look (l ++ l') k = match look l k with
    | some b => some b
    | none => look l' k := by
  induction l with
  | nil => rfl
  | cons x l ih =>
    simp only [List.cons_append, look]
    split
    · rfl
    · exact ih
theorem look_dropRows' {T : TypeId → Type} (l : List (Nat × RowS T)) (ks : List Nat) (k : Nat) (h : k ∉ ks) : look (dropRows l ks) k = look l k := by
  induction l with
  | nil => rfl
  | cons x l ih =>
    obtain ⟨j, R⟩ := x
    simp only [dropRows]
    split
    · rename_i hj
      rw [ih]
      simp only [look]
      rw [if_neg]
      rintro rfl
      exact h (by simpa using hj)
    · simp only [look]
      rw [ih]
theorem fresh_step {L : List Oper} (hT : Tame L s) {o : Oper} (ho : o ∈ L) (hk : kindOf C o = .F) (h : stepD C s o = some s1) :
    ∃ v R' N, s1 = ⟨(s.put o.dst v).slots, s.boxes, R'⟩ ∧ Made s R' v N ∧ (∀ k, N k → k ∈ fK C o) ∧
      ∀ t : St C.Θ.T, (∀ x ∈ o.op.operands.toList, t.ev x = s.ev x) → t.rows = s.rows → Tame L t → (∀ x ∈ o.op.operands.toList, ∀ p ∈ (s.ev x).mB, look t.boxes p.1 = look s.boxes p.1) → stepD C t o = some ⟨(t.put o.dst v).slots, t.boxes, R'⟩ := by
  obtain ⟨d, hd, hop⟩ := kind_F hk
  have hfk : fK C o = (match calleeC o with
    | some g => freshKeys C d C.Γ g
    | none => [d]) := by unfold fK; rw [hk, hd]
  obtain ⟨dst, op, ty, pos, aft, guard⟩ := o
  simp only at hd hop
  subst hd
  rcases hop with ⟨mt, n, m, rfl⟩ | ⟨g, hcal, hsp⟩
  ·
    have hst : ∀ t : St C.Θ.T, stepD C t ⟨some d, .makeSlice mt n m, ty, pos, aft, guard⟩ = match aMake C.P C.Θ t d mt (t.ev n) (t.ev m) with
      | some (c, s') => cond c (some s') none
      | none => none := fun t => rfl
    have hin : d ∈ fK C ⟨some d, .makeSlice mt n m, ty, pos, aft, guard⟩ := by rw [hfk]; simp [calleeC]
    rw [hst] at h
    cases haa : aMake C.P C.Θ s d mt (s.ev n) (s.ev m) with
    | none => simp [haa] at h
    | some q =>
    obtain ⟨c, s2⟩ := q
    simp only [haa] at h
    cases c with
    | false => cases h
    | true =>
    simp only [cond_true, Option.some.injEq] at h
    subst h
    unfold aMake at haa
    split at haa <;> try (cases haa; done)
    rename_i k1 n' k2 m' hn hm
    split at haa <;> try (cases haa; done)
    rename_i e he
    split at haa <;> try (cases haa; done)
    rename_i inf hi
    split at haa <;> try (cases haa; done)
    rename_i hc
    split at haa <;> try (cases haa; done)
    rename_i y hy
    cases hnr : s.newRow C.Θ d d e (List.replicate n'.toNat y) with
    | none => simp [hnr] at haa
    | some s3 =>
    simp only [hnr, Option.map_some, Option.some.injEq, Prod.mk.injEq] at haa
    obtain ⟨hf, rfl⟩ := haa
    obtain ⟨e1, mm, ht⟩ := newRow_made hT (.inr ⟨_, ho, .inr hin⟩) hnr
    refine ⟨_, _, _, e1, mm, fun k hk => by rw [hk]; exact hin, fun t hev hr htT _ => ?_⟩
    have hz : zeroElem C.P C.Θ t e = some y := by
      rw [← hy]
      unfold zeroElem
      split
      · split
        · rename_i hcc; exact elemOf_plain hcc.2
        · rfl
      · rfl
    rw [hst]
    unfold aMake
    rw [hev n (by simp [Op.operands]), hev m (by simp [Op.operands]), hn, hm]
    simp only [he, hi, if_pos hc, hz, ht t hr htT, Option.map_some, hf]
    rfl
  ·
    rw [hcal] at hfk
    simp only at hfk
    obtain ⟨args, ats, e⟩ := callee_of hcal
    simp only at e
    subst e
    have hst : ∀ t : St C.Θ.T, stepD C t ⟨some d, .call ⟨.value (.func g), args, ats⟩, ty, pos, aft, guard⟩ = match ready (flatE C.Θ) (St.cellsAt C.Θ) C.Γ t g (args.toList.map t.ev) with
      | some r => callK (flatE C.Θ) r (some d) some
      | none => none := by
      intro t
      have : calleeOf C t (.func g) = some (g, [], []) := rfl
      simp only [stepD, stepC, this, List.nil_append, List.append_nil]
      rfl
    rw [hst] at h
    split at h <;> try (cases h; done)
    rename_i r hr
    have hq : ∀ p ∈ C.Γ, p.1 = g → plainIn p.2.hin = true ∧ (flatOuts (flatE C.Θ) p.2.outs = true ∨ p.2.hin.slots = []) := fun p hp e => by
      have := hsp p hp e
      simp only [freshSpec, Bool.and_eq_true] at this
      exact ⟨this.1.1, .inl this.1.2⟩
    obtain ⟨e1, hm, hres⟩ := ready_plain hq hr
    obtain ⟨z, q, x, hF, hmem, e2, haf, hto⟩ := callK_some h
    have hqs := hsp _ hm rfl
    simp only [freshSpec, Bool.and_eq_true, plainIn, List.isEmpty_iff, List.all_eq_true] at hqs
    obtain ⟨⟨⟨⟨h2, h3⟩, _⟩, _⟩, h4⟩ := hqs
    have h5 := (h4 q hmem).1
    have eB : (q.2.st x).boxes = [] := by unfold Shape.st Shape.mk'; simp only [h5]; rfl
    have hkeys : ∀ b ∈ (q.2.st x).rows, freshK d b.1 ∈ fK C ⟨some d, .call ⟨.value (.func g), args, ats⟩, ty, pos, aft, guard⟩ := by
      intro b hb
      obtain ⟨r', hr', e⟩ := fillRs_keys _ _ b hb
      rw [hfk, e]
      exact mem_freshKeys C.Γ _ q r' hm rfl hmem hr'
    have hfresh : ∀ t : St C.Θ.T, Tame L t → t.rows = s.rows → ∀ b ∈ (q.2.st x).rows, t.nextR (freshK d b.1) = s.nextR (freshK d b.1) ∧ t.noR (freshK d b.1) (s.nextR (freshK d b.1)) = true := by
      intro t htT htr b hb
      have e : t.nextR (freshK d b.1) = s.nextR (freshK d b.1) := by simp only [St.nextR, htr]
      refine ⟨e, ?_⟩
      rw [← e]
      exact (htT.noR (.inr ⟨_, ho, .inr (hkeys b hb)⟩)).1
    have hbase : baseOf (some d) r.y.xs = d := rfl
    have key : ∃ (v : AV C.Θ.T) (rs : List (Nat × RowS C.Θ.T)), rs = (q.2.st x).rows.map (fun b => (freshK d b.1, ⟨s.nextR (freshK d b.1), b.2.e, b.2.l⟩)) ∧ (v.mB = [] ∧ ∀ p ∈ v.mR, ∃ b ∈ (q.2.st x).rows, p = (freshK d b.1, s.nextR (freshK d b.1))) ∧
        s1 = ⟨(s.put (some d) v).slots, s.boxes, rs ++ dropRows s.rows (keysOf rs)⟩ ∧
        ∀ t : St C.Θ.T, t.rows = s.rows → Tame L t → Go.Den.after (flatE C.Θ) t r.sp.hin r.y (q.2.st x) (flatOuts (flatE C.Θ) r.sp.outs) (some d) = some ⟨(t.put (some d) v).slots, t.boxes, rs ++ dropRows s.rows (keysOf rs)⟩ := by
      rw [e1] at haf
      unfold Go.Den.after at haf
      rw [eB] at haf
      simp only [renBs, hbase] at haf
      split at haf <;> try (cases haf; done)
      rename_i hfl
      split at haf <;> try (cases haf; done)
      rename_i nR hnR
      obtain ⟨en, ht⟩ := renRs_fresh h3 _ _ hnR
      simp only [newBs] at haf
      have hrs := newRs_fresh (C := C) (f := fun k => (freshK d k, s.nextR (freshK d k))) (q.2.st x).rows (q.2.st x).rows (fun b hb => hb)
      simp only at hrs
      rw [← en] at hrs
      rw [hrs] at haf
      simp only at haf
      split at haf <;> try (cases haf; done)
      rename_i v hv
      split at haf <;> try (cases haf; done)
      rename_i hap
      simp only [h2, h3, lentBs, lentRs, List.append_nil, List.nil_append, keysOf, dropBoxes_nil, Option.some.injEq] at haf
      refine ⟨v, _, rfl, ?_, ?_, fun t htr htT => ?_⟩
      · have hmB : ∀ b ∈ nR, b.2.mB = [] := by
          intro b hb
          rw [en] at hb
          obtain ⟨b', _, rfl⟩ := List.mem_map.1 hb
          rfl
        obtain ⟨g1, g2⟩ := resA_in hmB hv
        refine ⟨g1, fun p hp => ?_⟩
        obtain ⟨b, hb, hpb⟩ := g2 p hp
        rw [en] at hb
        obtain ⟨b', hb', rfl⟩ := List.mem_map.1 hb
        simp only [CV.mR, List.mem_singleton] at hpb
        exact ⟨b', hb', hpb⟩
      · rw [← haf]; rfl
      · unfold Go.Den.after
        rw [eB]
        simp only [renBs, hbase]
        rw [if_neg hfl, ht t (hfresh t htT htr)]
        simp only [newBs]
        rw [hrs]
        simp only
        rw [hv]
        simp only
        rw [if_pos hap]
        simp only [h2, h3, lentBs, lentRs, List.append_nil, List.nil_append, keysOf, dropBoxes_nil, htr]
        rfl
    obtain ⟨v, rs, hrs, ⟨hvB, hvR⟩, es1, hat⟩ := key
    have hrk : ∀ k, k ∈ keysOf rs → ∃ b ∈ (q.2.st x).rows, k = freshK d b.1 := by
      intro k hk
      obtain ⟨R, hR⟩ := of_mem_keysOf hk
      rw [hrs] at hR
      obtain ⟨b, hb, e⟩ := List.mem_map.1 hR
      exact ⟨b, hb, by rw [← (Prod.mk.inj e).1]⟩
    have hlk : ∀ k, k ∈ keysOf rs → ∃ R1, look rs k = some R1 ∧ R1.gen = s.nextR k := by
      intro k hk
      cases hl : look rs k with
      | none => exact absurd hk (look_none_of hl)
      | some R1 =>
        refine ⟨R1, rfl, ?_⟩
        have := mem_of_look hl
        rw [hrs] at this
        obtain ⟨b, hb, e⟩ := List.mem_map.1 this
        obtain ⟨e3, e4⟩ := Prod.mk.inj e
        rw [← e3, ← e4]
    refine ⟨v, _, fun k => k ∈ keysOf rs, es1, ⟨fun k hk => ?_, fun k hk => ?_, fun p hp => (by rw [hvB] at hp; cases hp), fun p hp => .inr ?_⟩, fun k hk => ?_, fun t hev htr htT hbx => ?_⟩
    · rw [look_append2]
      cases hl : look rs k with
      | none => exact look_dropRows' _ _ _ hk
      | some R1 => exact absurd (mem_keysOf (mem_of_look hl)) hk
    · obtain ⟨R1, hl, hgn⟩ := hlk k hk
      refine ⟨R1, by rw [look_append2, hl], ?_⟩
      rw [hgn]
      obtain ⟨b, hb, e⟩ := hrk k hk
      exact (hT.noR (.inr ⟨_, ho, .inr (e ▸ hkeys b hb)⟩)).2
    · obtain ⟨b, hb, e⟩ := hvR p hp
      have hk : p.1 ∈ keysOf rs := by
        rw [e]
        refine mem_keysOf (b := ⟨s.nextR (freshK d b.1), b.2.e, b.2.l⟩) ?_
        rw [hrs]
        exact List.mem_map.2 ⟨b, hb, rfl⟩
      obtain ⟨R1, hl, hgn⟩ := hlk _ hk
      refine ⟨R1, by rw [look_append2, hl], ?_⟩
      rw [hgn, e]
      exact Nat.le_refl _
    · obtain ⟨b, hb, e⟩ := hrk k hk
      rw [e]; exact hkeys b hb
    · rw [hst]
      have hav : args.toList.map t.ev = args.toList.map s.ev := map_alike _ fun z hz => hev z (by simp [Op.operands, Call.operands] at hz ⊢; exact .inr hz)
      have hbx' : ∀ v ∈ args.toList.map s.ev, ∀ p ∈ v.mB, look t.boxes p.1 = look s.boxes p.1 := by
        intro v hv
        obtain ⟨z, hz, rfl⟩ := List.mem_map.1 hv
        exact hbx z (by simp [Op.operands, Call.operands] at hz ⊢; exact .inr hz)
      rw [hav, hres t ⟨hbx', fun _ _ _ _ _ _ _ _ _ _ => by rw [htr], fun _ _ _ _ => by rw [htr]⟩]
      simp only
      unfold callK
      simp only [hF, Option.bind_some]
      rw [hto]
      simp only [e2]
      rw [hat t htr htT]
end
end Go.Den
namespace Go.Den
open Go Go.RowKit
section
variable {C : Cx} {s t s1 : St C.Θ.T} {ops : Array Oper}
structure Looks (ops : Array Oper) (s t : St C.Θ.T) (o : Oper) : Prop where
  ev : ∀ x ∈ o.op.operands.toList, t.ev x = s.ev x
  g : ∀ j w d, o.guard = some (j, w) → (ops[j]?).bind (·.dst) = some d → t.at_ d = s.at_ d
theorem looks_of {o : Oper} (h : ∀ i, i ∈ o.looksAt ops → t.at_ i = s.at_ i) : Looks ops s t o := by
  refine ⟨fun x hx => ?_, fun j w d hg hj => h d ?_⟩
  · cases x with
    | tmp i => exact h i (List.mem_append_left _ (List.mem_filterMap.2 ⟨.tmp i, hx, rfl⟩))
    | _ => rfl
  · unfold Oper.looksAt
    rw [hg]
    simp [hj]
theorem read_guard {o : Oper} {k : Kd} (hk : kindOf C o = k) (hk' : k = .P ∨ k = .Q ∨ k = .QC) (h : guardD C ops s o = some s1) :
    ∃ v, s1 = s.put o.dst v ∧ InA s v ∧ ∀ t, Looks ops s t o → MemR k s t o.op.operands.toList → guardD C ops t o = some (t.put o.dst v) := by
  have skp : InA s (.skip : AV C.Θ.T) := in_none ⟨rfl, rfl⟩
  unfold guardD at h
  split at h
  · rename_i hg
    obtain ⟨v, h1, h2, h3⟩ := read_step hk hk' h
    exact ⟨v, h1, h2, fun t ht hm => by unfold guardD; rw [hg]; exact h3 t ht.ev hm⟩
  · rename_i j w hg
    split at h <;> try (cases h; done)
    rename_i d hj
    split at h <;> try (cases h; done)
    · rename_i b hb
      split at h
      · rename_i hbw
        obtain ⟨v, h1, h2, h3⟩ := read_step hk hk' h
        refine ⟨v, h1, h2, fun t ht hm => ?_⟩
        unfold guardD
        simp only [hg, hj, ht.g j w d hg hj, hb, if_pos hbw]
        exact h3 t ht.ev hm
      · rename_i hbw
        cases h
        refine ⟨.skip, rfl, skp, fun t ht _ => ?_⟩
        unfold guardD
        simp only [hg, hj, ht.g j w d hg hj, hb, if_neg hbw]
    · rename_i hb
      cases h
      refine ⟨.skip, rfl, skp, fun t ht _ => ?_⟩
      unfold guardD
      simp only [hg, hj, ht.g j w d hg hj, hb]
theorem fresh_guard {L : List Oper} (hT : Tame L s) {o : Oper} (ho : o ∈ L) (hk : kindOf C o = .F) (h : guardD C ops s o = some s1) :
    ∃ v R' N, s1 = ⟨(s.put o.dst v).slots, s.boxes, R'⟩ ∧ Made s R' v N ∧ (∀ k, N k → k ∈ fK C o) ∧
      ∀ t : St C.Θ.T, Looks ops s t o → t.rows = s.rows → Tame L t → (∀ x ∈ o.op.operands.toList, ∀ p ∈ (s.ev x).mB, look t.boxes p.1 = look s.boxes p.1) → guardD C ops t o = some ⟨(t.put o.dst v).slots, t.boxes, R'⟩ := by
  have skp : Made s s.rows (.skip : AV C.Θ.T) (fun _ => False) := ⟨fun _ _ => rfl, fun _ h => h.elim, fun p hp => (by simp [AV.mB] at hp), fun p hp => (by simp [AV.mR] at hp)⟩
  have put_eq : ∀ t : St C.Θ.T, t.put o.dst .skip = ⟨(t.put o.dst .skip).slots, t.boxes, t.rows⟩ := fun t => by cases o.dst <;> rfl
  unfold guardD at h
  split at h
  · rename_i hg
    obtain ⟨v, R', N, h1, h2, h3, h4⟩ := fresh_step hT ho hk h
    exact ⟨v, R', N, h1, h2, h3, fun t ht hr htT hb => by unfold guardD; rw [hg]; exact h4 t ht.ev hr htT hb⟩
  · rename_i j w hg
    split at h <;> try (cases h; done)
    rename_i d hj
    split at h <;> try (cases h; done)
    · rename_i b hb
      split at h
      · rename_i hbw
        obtain ⟨v, R', N, h1, h2, h3, h4⟩ := fresh_step hT ho hk h
        refine ⟨v, R', N, h1, h2, h3, fun t ht hr htT hbx => ?_⟩
        unfold guardD
        simp only [hg, hj, ht.g j w d hg hj, hb, if_pos hbw]
        exact h4 t ht.ev hr htT hbx
      · rename_i hbw
        cases h
        refine ⟨.skip, s.rows, fun _ => False, put_eq s, skp, fun _ h => h.elim, fun t ht hr _ _ => ?_⟩
        unfold guardD
        simp only [hg, hj, ht.g j w d hg hj, hb, if_neg hbw]
        rw [← hr, ← put_eq]
    · rename_i hb
      cases h
      refine ⟨.skip, s.rows, fun _ => False, put_eq s, skp, fun _ h => h.elim, fun t ht hr _ _ => ?_⟩
      unfold guardD
      simp only [hg, hj, ht.g j w d hg hj, hb]
      rw [← hr, ← put_eq]
structure Eff (C : Cx) where
  v : AV C.Θ.T
  fB : List (Nat × BoxS C.Θ.T) → List (Nat × BoxS C.Θ.T)
  fR : List (Nat × RowS C.Θ.T) → List (Nat × RowS C.Θ.T)
def Eff.on (e : Eff C) (d : Option Nat) (s : St C.Θ.T) : St C.Θ.T := ⟨(s.put d e.v).slots, e.fB s.boxes, e.fR s.rows⟩
def MemK (L : List Oper) (k : Kd) (s t : St C.Θ.T) (l : List Operand) : Prop := match k with
  | .B => Tame L t
  | .A => t.rows = s.rows ∧ Tame L t
  | .F => (t.rows = s.rows ∧ Tame L t) ∧ ∀ x ∈ l, ∀ p ∈ (s.ev x).mB, look t.boxes p.1 = look s.boxes p.1
  | k => MemR k s t l
structure Info (k : Kd) (s s1 : St C.Θ.T) : Prop where
  b : ∀ p ∈ refsB C s, look s1.boxes p.1 = look s.boxes p.1
  r : ∀ p ∈ refsR C s, look s1.rows p.1 = look s.rows p.1 ∨ (k = .A ∧ ∀ R1, look s1.rows p.1 = some R1 → p.2 < R1.gen)
  eb : k ≠ .B → s1.boxes = s.boxes
  er : k ≠ .A → k ≠ .F → s1.rows = s.rows
theorem eff_put {d : Option Nat} {v : AV C.Θ.T} : s.put d v = Eff.on ⟨v, id, id⟩ d s := by
  cases d <;> rfl
theorem step_any {o : Oper} {k : Kd} {L : List Oper} (hk : kindOf C o = k) (hn : k ≠ .no) (hT : k.grow = true → Tame L s ∧ o ∈ L) (h : guardD C ops s o = some s1) :
    ∃ e : Eff C, s1 = e.on o.dst s ∧ (k = .B → ∃ d b, o.dst = some d ∧ e.fB = fun l => keep l d b) ∧ (k ≠ .B → e.fB = id) ∧ (k ≠ .A → k ≠ .F → e.fR = id) ∧ Info k s s1 ∧
      ∀ t, Looks ops s t o → MemK L k s t o.op.operands.toList → guardD C ops t o = some (e.on o.dst t) := by
  have rd : (k = .P ∨ k = .Q ∨ k = .QC) → ∃ e : Eff C, s1 = e.on o.dst s ∧ (k = .B → ∃ d b, o.dst = some d ∧ e.fB = fun l => keep l d b) ∧ (k ≠ .B → e.fB = id) ∧ (k ≠ .A → k ≠ .F → e.fR = id) ∧ Info k s s1 ∧
      ∀ t, Looks ops s t o → MemK L k s t o.op.operands.toList → guardD C ops t o = some (e.on o.dst t) := by
    intro hk'
    obtain ⟨v, h1, h2, h3⟩ := read_guard hk hk' h
    refine ⟨⟨v, id, id⟩, by rw [h1, eff_put], fun e => (by rcases hk' with rfl | rfl | rfl <;> cases e), fun _ => rfl, fun _ _ => rfl, ?_, fun t ht hm => ?_⟩
    · rw [h1]
      exact ⟨fun p _ => by rw [put_boxes], fun p _ => .inl (by rw [put_rows]), fun _ => put_boxes _ _ _, fun _ _ => put_rows _ _ _⟩
    · rw [← eff_put]
      refine h3 t ht ?_
      rcases hk' with rfl | rfl | rfl <;> exact hm
  cases k with
  | P => exact rd (.inl rfl)
  | Q => exact rd (.inr (.inl rfl))
  | QC => exact rd (.inr (.inr rfl))
  | no => exact absurd rfl hn
  | B =>
    obtain ⟨hTm, ho⟩ := hT rfl
    obtain ⟨d, hd, hg, hop⟩ := kind_B hk
    have hbk : d ∈ bK C o := by unfold bK; rw [hk, hd]; simp
    have hgd : ∀ t : St C.Θ.T, guardD C ops t o = stepD C t o := fun t => by unfold guardD; rw [hg]
    rw [hgd] at h
    obtain ⟨ty, cs, h1, h2, h3⟩ := box_step hd hop h
    have hnb := hTm.noB ho hbk
    refine ⟨⟨.c (.box d (s.nextB d) 0), fun B => keep B d ⟨s.nextB d, ty, cs⟩, id⟩, ?_, fun _ => ⟨d, _, hd, rfl⟩, fun hc => absurd rfl hc, fun _ _ => rfl, ?_, fun t ht hm => ?_⟩
    · rw [h1, hd]; rfl
    · rw [h1]
      refine ⟨fun p hp => ?_, fun p hp => .inl rfl, fun hc => absurd rfl hc, fun _ _ => rfl⟩
      simp only
      rw [look_keep, if_neg]
      intro e
      exact (hTm.rb p hp).2 (by rw [← e]; exact hTm.kb o ho d hbk) o ho (e ▸ hbk)
    · have hm' : Tame L t := hm
      have := hm'.noB ho hbk
      rw [hgd, h3 t ht.ev (by rw [this.1, hnb.1]) (by rw [hnb.1]; exact this.2), hd]
      rfl
  | A =>
    obtain ⟨hTm, ho⟩ := hT rfl
    obtain ⟨d, hd, hg, _⟩ := kind_A hk
    have hgd : ∀ t : St C.Θ.T, guardD C ops t o = stepD C t o := fun t => by unfold guardD; rw [hg]
    rw [hgd] at h
    obtain ⟨v, R', N, h1, h2, h3, h4⟩ := app_step hTm ho hk h
    refine ⟨⟨v, id, fun _ => R'⟩, by rw [h1]; rfl, fun e => (by cases e), fun _ => rfl, fun hc _ => absurd rfl hc, ?_, fun t ht hm => ?_⟩
    · rw [h1]
      refine ⟨fun p hp => rfl, fun p hp => ?_, fun _ => rfl, fun hc _ => absurd rfl hc⟩
      by_cases hN : N p.1
      · right
        refine ⟨rfl, fun R1 hR1 => ?_⟩
        obtain ⟨R2, hR2, hlt⟩ := h2.on _ hN
        simp only at hR1
        rw [hR2] at hR1
        cases hR1
        exact hlt p hp rfl
      · exact .inl (h2.off _ hN)
    · rw [hgd, h4 t ht.ev hm.1 hm.2]; rfl
  | F =>
    obtain ⟨hTm, ho⟩ := hT rfl
    obtain ⟨v, R', N, h1, h2, h3, h4⟩ := fresh_guard hTm ho hk h
    refine ⟨⟨v, id, fun _ => R'⟩, by rw [h1]; rfl, fun e => (by cases e), fun _ => rfl, fun _ hc => absurd rfl hc, ?_, fun t ht hm => ?_⟩
    · rw [h1]
      refine ⟨fun p hp => rfl, fun p hp => .inl ?_, fun _ => rfl, fun _ hc => absurd rfl hc⟩
      refine h2.off _ fun hN => ?_
      have := h3 _ hN
      exact ((hTm.rr p hp).2 (hTm.kf o ho _ this) o ho).2 this
    · rw [h4 t ht hm.1.1 hm.1.2 hm.2]; rfl
structure KApart (C : Cx) (o o' : Oper) : Prop where
  b : ∀ k ∈ bK C o, k ∉ bK C o'
  f : ∀ k ∈ fK C o, k ∉ fK C o'
  a : ∀ k ∈ aK C o, k ∉ fK C o'
  a' : ∀ k ∈ aK C o', k ∉ fK C o
theorem KApart.symm {o o' : Oper} (h : KApart C o o') : KApart C o' o :=
  ⟨fun k hk hk' => h.b k hk' hk, fun k hk hk' => h.f k hk' hk, h.a', h.a⟩
theorem refs_put {d : Option Nat} {v : AV C.Θ.T} {B : List (Nat × BoxS C.Θ.T)} {R : List (Nat × RowS C.Θ.T)} : (∀ p ∈ refsB C (⟨(s.put d v).slots, B, R⟩ : St C.Θ.T), p ∈ s.slots.flatMap AV.mB ∨ p ∈ v.mB ∨ p ∈ B.flatMap fun b => b.2.cells.flatMap CV.mB) ∧
    ∀ p ∈ refsR C (⟨(s.put d v).slots, B, R⟩ : St C.Θ.T), p ∈ s.slots.flatMap AV.mR ∨ p ∈ v.mR ∨ p ∈ B.flatMap fun b => b.2.cells.flatMap CV.mR := by
  have sl : ∀ {X : Type} (f : AV C.Θ.T → List X), ∀ p ∈ (s.put d v).slots.flatMap f, p ∈ s.slots.flatMap f ∨ p ∈ f v := by
    intro X f p hp
    cases d with
    | none => exact .inl hp
    | some d =>
      obtain ⟨a, ha, hpa⟩ := List.mem_flatMap.1 hp
      rcases List.mem_or_eq_of_mem_set ha with h | h
      · exact .inl (List.mem_flatMap.2 ⟨a, h, hpa⟩)
      · rw [h] at hpa; exact .inr hpa
  constructor
  · intro p hp
    rcases List.mem_append.1 hp with h | h
    · exact (sl AV.mB p h).imp id .inl
    · exact .inr (.inr h)
  · intro p hp
    rcases List.mem_append.1 hp with h | h
    · exact (sl AV.mR p h).imp id .inl
    · exact .inr (.inr h)
theorem mem_keep {B : Type} : ∀ (l : List (Nat × B)) (k : Nat) (b : B), ∀ x ∈ keep l k b, x = (k, b) ∨ x ∈ l := by
  intro l
  induction l with
  | nil => intro k b x hx; simp [keep] at hx; exact .inl hx
  | cons y l ih =>
    intro k b x hx
    obtain ⟨j, c⟩ := y
    simp only [keep] at hx
    split at hx
    · rename_i e
      rcases List.mem_cons.1 hx with h | h
      · left; rw [h, e]
      · right; simp [h]
    · split at hx
      · rcases List.mem_cons.1 hx with h | h
        · exact .inl h
        · exact .inr h
      · rcases List.mem_cons.1 hx with h | h
        · right; simp [h]
        · rcases ih k b x h with h | h
          · exact .inl h
          · right; simp [h]
theorem step_tame {o : Oper} {L L' : List Oper} (hn : kindOf C o ≠ .no) (hT : Tame L s) (ho : (kindOf C o).grow = true → o ∈ L) (h : guardD C ops s o = some s1) (hs : ∀ q ∈ L', q ∈ L) (ha : ∀ q ∈ L', KApart C o q) : Tame L' s1 := by
  have rd : (kindOf C o = .P ∨ kindOf C o = .Q ∨ kindOf C o = .QC) → Tame L' s1 := by
    intro hk
    obtain ⟨v, h1, h2, _⟩ := read_guard rfl hk h
    have h1' : s1 = ⟨(s.put o.dst v).slots, s.boxes, s.rows⟩ := by
      rw [h1]; cases o.dst <;> rfl
    obtain ⟨rB, rR⟩ := refs_put (s := s) (d := o.dst) (v := v) (B := s.boxes) (R := s.rows)
    rw [h1']
    refine ⟨fun p hp => ?_, fun p hp => ?_, fun q hq => hT.kb q (hs q hq), fun q hq => hT.kf q (hs q hq)⟩
    · have : p ∈ refsB C s := by
        rcases rB p hp with h | h | h
        · exact List.mem_append_left _ h
        · exact h2.1 p h
        · exact List.mem_append_right _ h
      exact ⟨(hT.rb p this).1, fun e q hq => (hT.rb p this).2 e q (hs q hq)⟩
    · have : p ∈ refsR C s := by
        rcases rR p hp with h | h | h
        · exact List.mem_append_left _ h
        · exact h2.2 p h
        · exact List.mem_append_right _ h
      exact ⟨(hT.rr p this).1, fun e q hq => (hT.rr p this).2 e q (hs q hq)⟩
  have rows : ∀ (v : AV C.Θ.T) (R' : List (Nat × RowS C.Θ.T)) (N : Nat → Prop), s1 = ⟨(s.put o.dst v).slots, s.boxes, R'⟩ → Made s R' v N → (∀ k, N k → k ∈ fK C o ∨ k ∈ aK C o ∨ (look s.rows k).isSome = true) → Tame L' s1 := by
    intro v R' N h1 hm hN
    obtain ⟨rB, rR⟩ := refs_put (s := s) (d := o.dst) (v := v) (B := s.boxes) (R := R')
    rw [h1]
    refine ⟨fun p hp => ?_, fun p hp => ?_, fun q hq => hT.kb q (hs q hq), fun q hq k hk => ?_⟩
    · have : p ∈ refsB C s := by
        rcases rB p hp with h | h | h
        · exact List.mem_append_left _ h
        · exact hm.vb p h
        · exact List.mem_append_right _ h
      exact ⟨(hT.rb p this).1, fun e q hq => (hT.rb p this).2 e q (hs q hq)⟩
    · have old : p ∈ refsR C s → (∀ R, look R' p.1 = some R → p.2 ≤ R.gen) ∧ (look R' p.1 = none → ∀ q ∈ L', p.1 ∉ aK C q ∧ p.1 ∉ fK C q) := by
        intro this
        by_cases hNp : N p.1
        · obtain ⟨R1, hR1, hlt⟩ := hm.on _ hNp
          refine ⟨fun R hR => ?_, fun e => by rw [hR1] at e; cases e⟩
          rw [hR1] at hR
          cases hR
          have := hlt p this rfl
          omega
        · rw [hm.off _ hNp]
          exact ⟨(hT.rr p this).1, fun e q hq => (hT.rr p this).2 e q (hs q hq)⟩
      rcases rR p hp with h | h | h
      · exact old (List.mem_append_left _ h)
      · rcases hm.vr p h with h | ⟨R1, hR1, hle⟩
        · exact old h
        · refine ⟨fun R hR => ?_, fun e => by rw [hR1] at e; cases e⟩
          rw [hR1] at hR
          cases hR
          exact hle
      · exact old (List.mem_append_right _ h)
    · have h0 := hT.kf q (hs q hq) k hk
      simp only
      by_cases hNk : N k
      · exfalso
        rcases hN k hNk with h | h | h
        · exact (ha q hq).f k h hk
        · exact (ha q hq).a k h hk
        · rw [h0] at h; cases h
      · rw [hm.off _ hNk]; exact h0
  cases hk : kindOf C o with
  | P => exact rd (.inl hk)
  | Q => exact rd (.inr (.inl hk))
  | QC => exact rd (.inr (.inr hk))
  | no => exact absurd hk hn
  | B =>
    rw [hk] at ho
    have ho := ho rfl
    obtain ⟨d, hd, hg, hop⟩ := kind_B hk
    have hbk : d ∈ bK C o := by unfold bK; rw [hk, hd]; simp
    have hgd : guardD C ops s o = stepD C s o := by unfold guardD; rw [hg]
    rw [hgd] at h
    obtain ⟨ty, cs, h1, h2, _⟩ := box_step hd hop h
    have hnb := hT.noB ho hbk
    have h0 := hT.kb o ho d hbk
    have h1' : s1 = ⟨(s.put (some d) (.c (.box d (s.nextB d) 0))).slots, keep s.boxes d ⟨s.nextB d, ty, cs⟩, s.rows⟩ := h1
    obtain ⟨rB, rR⟩ := refs_put (s := s) (d := some d) (v := .c (.box d (s.nextB d) 0)) (B := keep s.boxes d ⟨s.nextB d, ty, cs⟩) (R := s.rows)
    rw [h1']
    refine ⟨fun p hp => ?_, fun p hp => ?_, fun q hq k hk' => ?_, fun q hq => hT.kf q (hs q hq)⟩
    · have old : p ∈ refsB C s → (∀ B, look (keep s.boxes d ⟨s.nextB d, ty, cs⟩) p.1 = some B → p.2 ≤ B.gen) ∧ (look (keep s.boxes d ⟨s.nextB d, ty, cs⟩) p.1 = none → ∀ q ∈ L', p.1 ∉ bK C q) := by
        intro this
        have hne : d ≠ p.1 := fun e => (hT.rb p this).2 (by rw [← e]; exact h0) o ho (e ▸ hbk)
        rw [look_keep, if_neg hne]
        exact ⟨(hT.rb p this).1, fun e q hq => (hT.rb p this).2 e q (hs q hq)⟩
      rcases rB p hp with h | h | h
      · exact old (List.mem_append_left _ h)
      · simp only [AV.mB, CV.mB, List.mem_singleton] at h
        subst h
        simp only
        rw [look_keep, if_pos rfl]
        exact ⟨fun B hB => by cases hB; exact Nat.le_refl _, fun e => by cases e⟩
      · obtain ⟨b, hb, hp⟩ := List.mem_flatMap.1 h
        rcases mem_keep _ _ _ b hb with e | e
        · subst e
          obtain ⟨c, hc, hp⟩ := List.mem_flatMap.1 hp
          exact old ((h2 c hc).1 p hp)
        · exact old (List.mem_append_right _ (List.mem_flatMap.2 ⟨b, e, hp⟩))
    · have : p ∈ refsR C s := by
        rcases rR p hp with h | h | h
        · exact List.mem_append_left _ h
        · simp [AV.mR, CV.mR] at h
        · obtain ⟨b, hb, hp⟩ := List.mem_flatMap.1 h
          rcases mem_keep _ _ _ b hb with e | e
          · subst e
            obtain ⟨c, hc, hp⟩ := List.mem_flatMap.1 hp
            exact (h2 c hc).2 p hp
          · exact List.mem_append_right _ (List.mem_flatMap.2 ⟨b, e, hp⟩)
      exact ⟨(hT.rr p this).1, fun e q hq => (hT.rr p this).2 e q (hs q hq)⟩
    · have hne : d ≠ k := fun e => (ha q hq).b d hbk (e ▸ hk')
      simp only
      rw [look_keep, if_neg hne]
      exact hT.kb q (hs q hq) k hk'
  | A =>
    rw [hk] at ho
    obtain ⟨d, hd, hg, _⟩ := kind_A hk
    have hgd : guardD C ops s o = stepD C s o := by unfold guardD; rw [hg]
    rw [hgd] at h
    obtain ⟨v, R', N, h1, h2, h3, _⟩ := app_step hT (ho rfl) hk h
    exact rows v R' N h1 h2 fun k hk => .inr (h3 k hk)
  | F =>
    rw [hk] at ho
    obtain ⟨v, R', N, h1, h2, h3, _⟩ := fresh_guard hT (ho rfl) hk h
    exact rows v R' N h1 h2 fun k hk => .inl (h3 k hk)
theorem swap2 {s2 : St C.Θ.T} {x y : Oper} (hc : (kindOf C x).comm (kindOf C y) = true) (hap : Oper.apart ops x y = true) (hka : KApart C x y) (hT : ((kindOf C x).grow || (kindOf C y).grow) = true → Tame [x, y] s) (h1 : guardD C ops s x = some s1) (h2 : guardD C ops s1 y = some s2) :
    ∃ s1', guardD C ops s y = some s1' ∧ guardD C ops s1' x = some s2 := by
  obtain ⟨a1, a2, a3⟩ := Oper.apart_spec hap
  have hnx : kindOf C x ≠ .no := fun e => by rw [e] at hc; simp [Kd.comm] at hc
  have hny : kindOf C y ≠ .no := fun e => by rw [e] at hc; cases hx : kindOf C x <;> simp [hx, Kd.comm] at hc
  have hTx : (kindOf C x).grow = true → Tame [x] s ∧ x ∈ [x] := fun h => ⟨(hT (by simp [h])).sub (by simp), by simp⟩
  have hTy : (kindOf C y).grow = true → Tame [y] s ∧ y ∈ [y] := fun h => ⟨(hT (by simp [h])).sub (by simp), by simp⟩
  obtain ⟨ex, e1, xK, xB, xR, xI, xt⟩ := step_any (L := [x]) rfl hnx hTx h1
  have hTy1 : (kindOf C y).grow = true → Tame [y] s1 ∧ y ∈ [y] := fun h => ⟨step_tame hnx (hT (by simp [h])) (fun _ => by simp) h1 (by simp) (by simp [hka]), by simp⟩
  obtain ⟨ey, e2, yK, yB, yR, yI, yt⟩ := step_any (L := [y]) rfl hny hTy1 h2
  have at1 : ∀ i, x.dst ≠ some i → s1.at_ i = s.at_ i := fun i hi => by
    rw [e1]; exact at_put s x.dst ex.v i hi
  have l1 : Looks ops s1 s y := looks_of fun i hi => (at1 i fun e => a1 i e hi).symm
  have ev1 : ∀ z ∈ y.op.operands.toList, s1.ev z = s.ev z := fun z hz => (l1.ev z hz).symm
  have m1 : MemK [y] (kindOf C y) s1 s y.op.operands.toList := by
    cases hy : kindOf C y with
    | P => exact trivial
    | Q =>
      refine ⟨fun z hz p hp B hB hg => ?_, fun z hz p hp R hR hg => ?_⟩
      · rw [ev1 z hz] at hp
        rw [← xI.b p ((in_ev z).1 p hp)]; exact hB
      · rw [ev1 z hz] at hp
        rcases xI.r p ((in_ev z).2 p hp) with h | ⟨_, h⟩
        · rw [← h]; exact hR
        · have := h R hR; omega
    | QC =>
      have rr : ∀ p ∈ refsR C s, look s.rows p.1 = look s1.rows p.1 := fun p hp => by
        rcases xI.r p hp with h | ⟨hA, _⟩
        · exact h.symm
        · rw [hA, hy] at hc; simp [Kd.comm] at hc
      refine ⟨fun v hv p hp => ?_, fun v hv p hp B hB c hcm q hq => ?_, fun v hv p hp => ?_⟩
      all_goals
        obtain ⟨z, hz, rfl⟩ := List.mem_map.1 hv
        rw [ev1 z hz] at hp
      · exact (xI.b p ((in_ev z).1 p hp)).symm
      · rw [xI.b p ((in_ev z).1 p hp)] at hB
        exact rr q (List.mem_append_right _ (List.mem_flatMap.2 ⟨_, mem_of_look hB, List.mem_flatMap.2 ⟨c, hcm, hq⟩⟩))
      · exact rr p ((in_ev z).2 p hp)
    | B => exact (hTy (by rw [hy]; rfl)).1
    | A =>
      refine ⟨(xI.er ?_ ?_).symm, (hTy (by rw [hy]; rfl)).1⟩ <;> (intro e; rw [e, hy] at hc; simp [Kd.comm] at hc)
    | F =>
      refine ⟨⟨(xI.er ?_ ?_).symm, (hTy (by rw [hy]; rfl)).1⟩, fun z hz p hp => ?_⟩
      · intro e; rw [e, hy] at hc; simp [Kd.comm] at hc
      · intro e; rw [e, hy] at hc; simp [Kd.comm] at hc
      · rw [ev1 z hz] at hp
        exact (xI.b p ((in_ev z).1 p hp)).symm
    | no => exact absurd hy hny
  have k1 := yt s l1 m1
  refine ⟨_, k1, ?_⟩
  obtain ⟨_, _, _, _, _, yI', _⟩ := step_any (L := [y]) rfl hny hTy k1
  have l2 : Looks ops s (ey.on y.dst s) x := looks_of fun i hi => at_put s y.dst ey.v i fun e => a3 i e hi
  have m2 : MemK [x] (kindOf C x) s (ey.on y.dst s) x.op.operands.toList := by
    have tx : (kindOf C x).grow = true → Tame [x] (ey.on y.dst s) := fun h => step_tame hny (hT (by simp [h])) (fun _ => by simp) k1 (by simp) (by simp [hka.symm])
    cases hx : kindOf C x with
    | P => exact trivial
    | Q =>
      refine ⟨fun z hz p hp B hB hg => ?_, fun z hz p hp R hR hg => ?_⟩
      · rw [yI'.b p ((in_ev z).1 p hp)]; exact hB
      · rcases yI'.r p ((in_ev z).2 p hp) with h | ⟨hA, _⟩
        · rw [h]; exact hR
        · rw [hA, hx] at hc; simp [Kd.comm] at hc
    | QC =>
      have rr : ∀ p ∈ refsR C s, look (ey.on y.dst s).rows p.1 = look s.rows p.1 := fun p hp => by
        rcases yI'.r p hp with h | ⟨hA, _⟩
        · exact h
        · rw [hA, hx] at hc; simp [Kd.comm] at hc
      refine ⟨fun v hv p hp => ?_, fun v hv p hp B hB c hcm q hq => ?_, fun v hv p hp => ?_⟩
      all_goals obtain ⟨z, hz, rfl⟩ := List.mem_map.1 hv
      · exact yI'.b p ((in_ev z).1 p hp)
      · exact rr q (List.mem_append_right _ (List.mem_flatMap.2 ⟨_, mem_of_look hB, List.mem_flatMap.2 ⟨c, hcm, hq⟩⟩))
      · exact rr p ((in_ev z).2 p hp)
    | B => exact tx (by rw [hx]; rfl)
    | A =>
      refine ⟨yI'.er ?_ ?_, tx (by rw [hx]; rfl)⟩ <;> (intro e; rw [e, hx] at hc; simp [Kd.comm] at hc)
    | F =>
      refine ⟨⟨yI'.er ?_ ?_, tx (by rw [hx]; rfl)⟩, fun z hz p hp => yI'.b p ((in_ev z).1 p hp)⟩ <;> (intro e; rw [e, hx] at hc; simp [Kd.comm] at hc)
    | no => exact absurd hx hnx
  rw [xt _ l2 m2, e2, e1]
  have hsl : (((ey.on y.dst s).put x.dst ex.v).slots) = ((ex.on x.dst s).put y.dst ey.v).slots := by
    have := put_comm s x.dst y.dst ex.v ey.v a2
    have q1 : ((ex.on x.dst s).put y.dst ey.v).slots = ((s.put x.dst ex.v).put y.dst ey.v).slots := by
      cases y.dst <;> rfl
    have q2 : ((ey.on y.dst s).put x.dst ex.v).slots = ((s.put y.dst ey.v).put x.dst ex.v).slots := by
      cases x.dst <;> rfl
    rw [q1, q2, this]
  have hB : ex.fB (ey.fB s.boxes) = ey.fB (ex.fB s.boxes) := by
    by_cases hx : kindOf C x = .B
    · by_cases hy : kindOf C y = .B
      · obtain ⟨dx, bx, hdx, efx⟩ := xK hx
        obtain ⟨dy, by_, hdy, efy⟩ := yK hy
        rw [efx, efy]
        exact keep_comm _ _ _ _ _ (fun e => a2 dx hdx (by rw [hdy, e]))
      · rw [yB hy]; rfl
    · rw [xB hx]; rfl
  have hR : ex.fR (ey.fR s.rows) = ey.fR (ex.fR s.rows) := by
    by_cases hx : kindOf C x = .A ∨ kindOf C x = .F
    · have hy : kindOf C y ≠ .A ∧ kindOf C y ≠ .F := by
        constructor <;> (intro e; rcases hx with hx | hx <;> (rw [hx, e] at hc; simp [Kd.comm] at hc))
      rw [yR hy.1 hy.2]; rfl
    · rw [xR (fun e => hx (.inl e)) (fun e => hx (.inr e))]; rfl
  simp only [Eff.on] at hsl ⊢
  rw [hsl]
  rw [hB, hR]
end
end Go.Den
namespace Go.Den
open Go Go.RowKit
section
variable {C : Cx}
theorem front2 {ops : Array Oper} {o : Oper} : ∀ (l1 l2 : List Oper) (s s' : St C.Θ.T), (∀ k ∈ l1, (kindOf C k).comm (kindOf C o) = true ∧ Oper.apart ops k o = true) → (l1 ++ o :: l2).Pairwise (KApart C) →
    ((∃ q ∈ l1 ++ o :: l2, (kindOf C q).grow = true) → Tame (l1 ++ o :: l2) s) → opsD C ops (l1 ++ o :: l2) s = some s' →
    ∃ s1, guardD C ops s o = some s1 ∧ opsD C ops (l1 ++ l2) s1 = some s' := by
  intro l1
  induction l1 with
  | nil =>
    intro l2 s s' _ _ _ h
    simp only [List.nil_append, opsD] at h
    split at h <;> try (cases h; done)
    rename_i s1 h1
    exact ⟨s1, h1, h⟩
  | cons k l1 ih =>
    intro l2 s s' hk hPW hT h
    simp only [List.cons_append, opsD] at h
    split at h <;> try (cases h; done)
    rename_i s1 h1
    rw [List.cons_append, List.pairwise_cons] at hPW
    obtain ⟨q1, q2⟩ := hk k (by simp)
    have hnk : kindOf C k ≠ .no := fun e => by rw [e] at q1; simp [Kd.comm] at q1
    obtain ⟨s2, h2, h3⟩ := ih l2 s1 s' (fun k hk' => hk k (by simp [hk'])) hPW.2 (fun ⟨q, hq, hg⟩ => step_tame hnk (hT ⟨q, by simp at hq ⊢; exact .inr hq, hg⟩) (fun _ => by simp) h1 (fun z hz => by simp at hz ⊢; exact .inr hz) (fun z hz => hPW.1 z hz)) h
    obtain ⟨s1', g1, g2⟩ := swap2 q1 q2 (hPW.1 o (by simp)) (fun hg => by
      simp only [Bool.or_eq_true] at hg
      have hTT : Tame (k :: l1 ++ o :: l2) s := by
        rcases hg with hg | hg
        · exact hT ⟨k, by simp, hg⟩
        · exact hT ⟨o, by simp, hg⟩
      exact hTT.sub fun z hz => by
        simp only [List.mem_cons, List.not_mem_nil, or_false] at hz
        rcases hz with rfl | rfl <;> simp) h1 h2
    refine ⟨s1', g1, ?_⟩
    simp only [List.cons_append, opsD, g2]
    exact h3
theorem mem_newBK : ∀ (l : List Oper) (k : Nat), (∃ o ∈ l, k ∈ bK C o) → k ∈ newBK C l := by
  intro l
  induction l with
  | nil => rintro k ⟨o, ho, _⟩; cases ho
  | cons x l ih =>
    rintro k ⟨o, ho, hk⟩
    simp only [newBK]
    rcases List.mem_cons.1 ho with e | e
    · subst e
      unfold bK at hk
      split at hk
      · rename_i d h1 h2
        try simp only [h1, h2]
        simp at hk; simp [hk]
      · cases hk
    · have := ih k ⟨o, e, hk⟩
      split
      · exact List.mem_cons_of_mem _ this
      · exact this
theorem mem_newAK : ∀ (l : List Oper) (k : Nat), (∃ o ∈ l, k ∈ aK C o) → k ∈ newAK C l := by
  intro l
  induction l with
  | nil => rintro k ⟨o, ho, _⟩; cases ho
  | cons x l ih =>
    rintro k ⟨o, ho, hk⟩
    simp only [newAK]
    rcases List.mem_cons.1 ho with e | e
    · subst e
      unfold aK at hk
      split at hk
      · rename_i d h1 h2
        try simp only [h1, h2]
        simp at hk; simp [hk]
      · cases hk
    · have := ih k ⟨o, e, hk⟩
      split
      · exact List.mem_cons_of_mem _ this
      · exact this
theorem mem_newFK : ∀ (l : List Oper) (k : Nat), (∃ o ∈ l, k ∈ fK C o) → k ∈ newFK C l := by
  intro l
  induction l with
  | nil => rintro k ⟨o, ho, _⟩; cases ho
  | cons x l ih =>
    rintro k ⟨o, ho, hk⟩
    simp only [newFK]
    rcases List.mem_cons.1 ho with e | e
    · subst e
      unfold fK at hk
      split at hk
      · rename_i d h1 h2
        try simp only [h1, h2]
        exact List.mem_append_left _ hk
      · cases hk
    · have := ih k ⟨o, e, hk⟩
      split
      · exact List.mem_append_right _ this
      · exact this
theorem mem_growDs : ∀ (l : List Oper) (d : Nat), (∃ o ∈ l, (kindOf C o).grow = true ∧ o.dst = some d) → d ∈ growDs C l := by
  intro l
  induction l with
  | nil => rintro k ⟨o, ho, _⟩; cases ho
  | cons x l ih =>
    rintro d ⟨o, ho, hk, hd⟩
    simp only [growDs]
    rcases List.mem_cons.1 ho with e | e
    · subst e
      simp only [hk, hd]
      simp
    · have := ih d ⟨o, e, hk, hd⟩
      split
      · exact List.mem_cons_of_mem _ this
      · exact this
theorem fresh_range {d g : Nat} : ∀ (Γ : List (Nat × Go.Den.Spec C.Θ.T)), (∀ p ∈ Γ, p.1 = g → freshSpec C p.2 = true) → ∀ k ∈ freshKeys C d Γ g, 10000 + 100 * d ≤ k ∧ k < 10000 + 100 * d + 100 := by
  intro Γ
  induction Γ with
  | nil => intro _ k hk; cases hk
  | cons x Γ ih =>
    intro h k hk
    simp only [freshKeys] at hk
    have rest := ih (fun p hp => h p (by simp [hp])) k
    split at hk
    · rename_i hg
      rcases List.mem_append.1 hk with hk | hk
      · obtain ⟨q, hq, hk⟩ := List.mem_flatMap.1 hk
        obtain ⟨r, hr, rfl⟩ := List.mem_map.1 hk
        have := h x (by simp) (by simpa using hg)
        simp only [freshSpec, Bool.and_eq_true, List.all_eq_true] at this
        have := (this.2 q hq).2 r hr
        rw [Nat.blt_eq] at this
        unfold freshK
        omega
      · exact rest hk
    · exact rest hk
theorem key_range {o : Oper} : (∀ k ∈ bK C o, o.dst = some k ∧ (kindOf C o).grow = true) ∧ (∀ k ∈ aK C o, o.dst = some k ∧ (kindOf C o).grow = true) ∧ ∀ k ∈ fK C o, ∃ d : Nat, o.dst = some d ∧ (kindOf C o).grow = true ∧ (k = d ∨ (10000 + 100 * d ≤ k ∧ k < 10000 + 100 * d + 100)) := by
  refine ⟨fun k hk => ?_, fun k hk => ?_, fun k hk => ?_⟩
  · unfold bK at hk
    split at hk <;> try (cases hk; done)
    rename_i d h1 h2
    simp at hk
    exact ⟨by rw [h2, hk], by rw [h1]; rfl⟩
  · unfold aK at hk
    split at hk <;> try (cases hk; done)
    rename_i d h1 h2
    simp at hk
    exact ⟨by rw [h2, hk], by rw [h1]; rfl⟩
  · unfold fK at hk
    split at hk <;> try (cases hk; done)
    rename_i d h1 h2
    refine ⟨d, h2, by rw [h1]; rfl, ?_⟩
    split at hk
    · rename_i g hg
      obtain ⟨_, _, hop⟩ := kind_F h1
      rcases hop with ⟨ty, n, m, e⟩ | ⟨g', hg', hsp⟩
      · unfold calleeC at hg; rw [e] at hg; simp at hg
      · rw [hg] at hg'
        cases hg'
        exact .inr (fresh_range _ hsp k hk)
    · simp at hk; exact .inl hk
theorem pw_of : ∀ (l : List Oper), apartKs (growDs C l) = true → (∀ d ∈ growDs C l, d < 10000) → l.Pairwise (KApart C) := by
  intro l
  induction l with
  | nil => intro _ _; exact .nil
  | cons x l ih =>
    intro h hlt
    have sub : ∀ d ∈ growDs C l, d ∈ growDs C (x :: l) := fun d hd => by
      simp only [growDs]
      split
      · exact List.mem_cons_of_mem _ hd
      · exact hd
    have h' : apartKs (growDs C l) = true := by
      simp only [growDs] at h
      split at h
      · simp only [apartKs, Bool.and_eq_true] at h; exact h.2
      · exact h
    refine List.pairwise_cons.2 ⟨fun y hy => ?_, ih h' fun d hd => hlt d (sub d hd)⟩
    have ne : ∀ d d' : Nat, x.dst = some d → (kindOf C x).grow = true → y.dst = some d' → (kindOf C y).grow = true → d ≠ d' ∧ d < 10000 ∧ d' < 10000 := by
      intro d d' h1 h2 h3 h4
      have m := mem_growDs (C := C) l d' ⟨y, hy, h4, h3⟩
      refine ⟨?_, hlt d (mem_growDs _ _ ⟨x, by simp, h2, h1⟩), hlt d' (sub d' m)⟩
      rintro rfl
      simp only [growDs, h2, h1, apartKs, Bool.and_eq_true, Bool.not_eq_true'] at h
      have := h.1
      rw [List.contains_iff_mem.2 m] at this
      cases this
    obtain ⟨xb, xa, xf⟩ := key_range (C := C) (o := x)
    obtain ⟨yb, ya, yf⟩ := key_range (C := C) (o := y)
    refine ⟨fun k hk hk' => ?_, fun k hk hk' => ?_, fun k hk hk' => ?_, fun k hk hk' => ?_⟩
    · obtain ⟨h1, h2⟩ := xb k hk
      obtain ⟨h3, h4⟩ := yb k hk'
      exact (ne k k h1 h2 h3 h4).1 rfl
    · obtain ⟨d, h1, h2, h5⟩ := xf k hk
      obtain ⟨d', h3, h4, h6⟩ := yf k hk'
      obtain ⟨n1, n2, n3⟩ := ne d d' h1 h2 h3 h4
      omega
    · obtain ⟨h1, h2⟩ := xa k hk
      obtain ⟨d', h3, h4, h6⟩ := yf k hk'
      obtain ⟨n1, n2, n3⟩ := ne k d' h1 h2 h3 h4
      omega
    · obtain ⟨h3, h4⟩ := ya k hk
      obtain ⟨d, h1, h2, h5⟩ := xf k hk'
      obtain ⟨n1, n2, n3⟩ := ne d k h1 h2 h3 h4
      omega
theorem keyIn_false {B : Type} {l : List (Nat × B)} {k : Nat} (h : keyIn l k = false) : look l k = none := by
  induction l with
  | nil => rfl
  | cons x l ih =>
    obtain ⟨j, b⟩ := x
    simp only [keyIn, Bool.or_eq_false_iff, beq_eq_false_iff_ne] at h
    simp only [look]
    rw [if_neg h.1]
    exact ih h.2
theorem tame_of {s : St C.Θ.T} {l : List Oper} (h : tameOk C s l = true) : l.Pairwise (KApart C) ∧ Tame l s := by
  unfold tameOk at h
  simp only [Bool.and_eq_true, List.all_eq_true] at h
  obtain ⟨⟨h1, h2⟩, ⟨h3, h4⟩, h5, h6⟩ := h
  refine ⟨pw_of l h5 fun d hd => by have := h6 d hd; rwa [Nat.blt_eq] at this, ⟨fun p hp => ?_, fun p hp => ?_, fun o ho k hk => ?_, fun o ho k hk => ?_⟩⟩
  · have := h1 p hp
    split at this
    · rename_i B hB
      rw [Nat.ble_eq] at this
      exact ⟨fun B' hB' => (by rw [hB] at hB'; cases hB'; exact this), fun e => (by rw [hB] at e; cases e)⟩
    · rename_i hn
      refine ⟨fun B' hB' => (by rw [hn] at hB'; cases hB'), fun _ o ho hk => ?_⟩
      simp only [Bool.not_eq_true', List.contains_eq_mem, decide_eq_false_iff_not] at this
      exact this (mem_newBK l _ ⟨o, ho, hk⟩)
  · have := h2 p hp
    split at this
    · rename_i B hB
      rw [Nat.ble_eq] at this
      exact ⟨fun B' hB' => (by rw [hB] at hB'; cases hB'; exact this), fun e => (by rw [hB] at e; cases e)⟩
    · rename_i hn
      refine ⟨fun B' hB' => (by rw [hn] at hB'; cases hB'), fun _ o ho => ?_⟩
      simp only [Bool.not_eq_true', List.contains_eq_mem, decide_eq_false_iff_not] at this
      exact ⟨fun hk => this (List.mem_append_left _ (mem_newAK l _ ⟨o, ho, hk⟩)), fun hk => this (List.mem_append_right _ (mem_newFK l _ ⟨o, ho, hk⟩))⟩
  · have := h3 k (mem_newBK l k ⟨o, ho, hk⟩)
    exact keyIn_false (by simpa using this)
  · have := h4 k (mem_newFK l k ⟨o, ho, hk⟩)
    exact keyIn_false (by simpa using this)
end
end Go.Den
namespace Go.Den
open Go Go.RowKit
section
variable {C : Cx} {ops : Array Oper} {s s1 : St C.Θ.T}
inductive Way where
  | id
  | fr (ks : List Nat)
def Way.on (w : Way) (s : St C.Θ.T) : St C.Θ.T := match w with
  | .id => s
  | .fr ks => s.freeze ks
def Way.av (w : Way) (s : St C.Θ.T) (v : AV C.Θ.T) : AV C.Θ.T := match w with
  | .id => v
  | .fr ks => frA s ks v
theorem frA_rows {ks : List Nat} (hr : s1.rows = s.rows) (v : AV C.Θ.T) : frA s1 ks v = frA s ks v := frA_congr v fun p _ => by rw [hr]
theorem freeze_parts {ks : List Nat} (hb : s1.boxes = s.boxes) (hr : s1.rows = s.rows) : (s1.freeze ks).boxes = (s.freeze ks).boxes ∧ (s1.freeze ks).rows = (s.freeze ks).rows := by
  unfold St.freeze
  refine ⟨?_, by rw [hr]⟩
  simp only [hb]
  refine List.map_congr_left fun b _ => ?_
  have : b.2.cells.map (frC s1 ks) = b.2.cells.map (frC s ks) := List.map_congr_left fun c _ => frC_congr c fun p _ => by rw [hr]
  rw [this]
theorem ready_alike {g : Nat} {avs : List (AV C.Θ.T)} {r : Ready C.Θ.T} (hb : s1.boxes = s.boxes) (hr : s1.rows = s.rows) (h : ready (flatE C.Θ) (St.cellsAt C.Θ) C.Γ s1 g avs = some r) :
    ∃ w : Way, r.s = w.on s1 ∧ (g, r.sp) ∈ C.Γ ∧ ready (flatE C.Θ) (St.cellsAt C.Θ) C.Γ s g avs = some ⟨w.on s, r.sp, r.avs, r.y⟩ := by
  have hfind : findSpec (flatE C.Θ) (St.cellsAt C.Θ) C.Γ g s avs = findSpec (flatE C.Θ) (St.cellsAt C.Θ) C.Γ g s1 avs := by
    refine find_congr _ fun p hp hg => ?_
    unfold entryOf
    rw [lendAs_congr (s := s1) (t := s) ⟨fun _ _ _ _ => by rw [hb], fun _ _ _ _ _ _ _ _ _ _ => by rw [hr], fun _ _ _ _ => by rw [hr]⟩ _ _ _ fun _ h => h, hb, hr]
  have hmem := (ready_ok h).1
  unfold ready at h ⊢
  rw [hfind]
  split at h <;> try (cases h; done)
  rename_i hit hh
  split at h
  · rename_i hf
    cases h
    exact ⟨.id, rfl, hmem, by rw [if_pos hf]; rfl⟩
  · rename_i hf
    rw [if_neg hf]
    obtain ⟨e1, e2⟩ := freeze_parts (ks := rowsIn hit.y.hs) hb hr
    have e3 : avs.map (frA s1 (rowsIn hit.y.hs)) = avs.map (frA s (rowsIn hit.y.hs)) := List.map_congr_left fun v _ => frA_rows hr v
    rw [e1, e2, e3] at h
    split at h <;> try (cases h; done)
    rename_i y hy
    split at h <;> try (cases h; done)
    rename_i hn
    cases h
    refine ⟨.fr (rowsIn hit.y.hs), rfl, hmem, ?_⟩
    rw [if_pos hn]
    rfl
theorem way_put (w : Way) (d : Option Nat) (v : AV C.Θ.T) : w.on (s.put d v) = (w.on s).put d (w.av s v) := by
  cases w with
  | id => rfl
  | fr ks =>
    simp only [Way.on, Way.av]
    cases d with
    | none => rfl
    | some d =>
      have hf : ∀ u : AV C.Θ.T, frA (⟨s.slots.set d v, s.boxes, s.rows⟩ : St C.Θ.T) ks u = frA s ks u := fun u => frA_rows (s := s) (s1 := ⟨s.slots.set d v, s.boxes, s.rows⟩) rfl u
      have hp := freeze_parts (s := s) (s1 := (⟨s.slots.set d v, s.boxes, s.rows⟩ : St C.Θ.T)) (ks := ks) rfl rfl
      unfold St.put
      simp only
      have hs : ((⟨s.slots.set d v, s.boxes, s.rows⟩ : St C.Θ.T).freeze ks).slots = (s.freeze ks).slots.set d (frA s ks v) := by
        unfold St.freeze
        simp only
        rw [List.map_set]
        rw [hf v, List.map_congr_left (g := frA s ks) fun u _ => hf u]
      cases hq : (⟨s.slots.set d v, s.boxes, s.rows⟩ : St C.Θ.T).freeze ks with
      | mk a b c =>
        rw [hq] at hs hp
        obtain ⟨h1, h2⟩ := hp
        simp only at hs h1 h2
        rw [hs, h1, h2]
theorem way_at (w : Way) (i : Nat) : (w.on s).at_ i = w.av s (s.at_ i) := by
  cases w with
  | id => rfl
  | fr ks =>
    simp only [Way.on, Way.av, St.at_, St.freeze, List.getD_eq_getElem?_getD, List.getElem?_map]
    cases s.slots[i]? <;> rfl
theorem way_ev (w : Way) (x : Operand) : (w.on s).ev x = w.av s (s.ev x) := by
  cases x with
  | tmp i => exact way_at w i
  | const v =>
    cases w with
    | id => rfl
    | fr ks =>
      simp only [St.ev, Way.av]
      cases hc : cvConst (T := C.Θ.T) v with
      | none => rfl
      | some c =>
        unfold cvConst at hc
        split at hc <;> (cases hc; try rfl)
  | func f => cases w <;> rfl
  | global g => cases w <;> rfl
theorem way_bool (w : Way) {v : AV C.Θ.T} {b : Bool} (h : v = .c (.v (.bool b))) : w.av s v = .c (.v (.bool b)) := by subst h; cases w <;> rfl
theorem way_skip (w : Way) : w.av s .skip = .skip := by cases w <;> rfl
theorem move_guard {C : Cx} {ops : Array Oper} {s s1 : St C.Θ.T} {k : Oper} (hk : moveOp k = true) (h : guardD C ops s k = some s1) :
    (∃ x, k.op.operands.toList = [x] ∧ s1 = s.put k.dst (s.ev x) ∧ ∀ (w : Way) (t : St C.Θ.T), Looks ops (w.on s) t k → guardD C ops t k = some (t.put k.dst (w.av s (s.ev x)))) ∨
    (s1 = s.put k.dst .skip ∧ ∀ (w : Way) (t : St C.Θ.T), Looks ops (w.on s) t k → guardD C ops t k = some (t.put k.dst .skip)) := by
  obtain ⟨dst, op, ty, pos, aft, grd⟩ := k
  have hop : ∃ x, op.operands.toList = [x] ∧ ∀ t : St C.Θ.T, stepD C t ⟨dst, op, ty, pos, aft, grd⟩ = some (t.put dst (t.ev x)) := by
    unfold moveOp at hk
    simp only at hk
    split at hk <;> try (cases hk; done)
    · rename_i x; exact ⟨x, rfl, fun t => rfl⟩
    · rename_i x; exact ⟨x, rfl, fun t => rfl⟩
  obtain ⟨x, hx, hst⟩ := hop
  have ev_eq : ∀ (w : Way) (t : St C.Θ.T), Looks ops (w.on s) t ⟨dst, op, ty, pos, aft, grd⟩ → t.ev x = w.av s (s.ev x) := fun w t ht => by
    rw [ht.ev x (by simp only; rw [hx]; simp), way_ev]
  cases grd with
  | none =>
    have h : stepD C s ⟨dst, op, ty, pos, aft, none⟩ = some s1 := h
    rw [hst] at h
    cases h
    refine .inl ⟨x, hx, rfl, fun w t ht => ?_⟩
    show stepD C t ⟨dst, op, ty, pos, aft, none⟩ = _
    rw [hst, ev_eq w t ht]
  | some jw =>
    obtain ⟨j, want⟩ := jw
    unfold guardD at h
    simp only at h
    split at h <;> try (cases h; done)
    rename_i d hj
    have gd : ∀ (w : Way) (t : St C.Θ.T), Looks ops (w.on s) t ⟨dst, op, ty, pos, aft, some (j, want)⟩ → t.at_ d = w.av s (s.at_ d) := fun w t ht => by
      rw [ht.g j want d rfl hj, way_at]
    split at h <;> try (cases h; done)
    · rename_i b hb
      split at h
      · rename_i hbw
        rw [hst] at h
        cases h
        refine .inl ⟨x, hx, rfl, fun w t ht => ?_⟩
        unfold guardD
        simp only [hj, gd w t ht, way_bool w hb, if_pos hbw]
        rw [hst, ev_eq w t ht]
      · rename_i hbw
        cases h
        refine .inr ⟨rfl, fun w t ht => ?_⟩
        unfold guardD
        simp only [hj, gd w t ht, way_bool w hb, if_neg hbw]
    · rename_i hb
      cases h
      refine .inr ⟨rfl, fun w t ht => ?_⟩
      unfold guardD
      simp only [hj, gd w t ht, hb, way_skip]
theorem callN_guard {o : Oper} (ho : callN C o = true) {s s2 : St C.Θ.T} {d : Option Nat} {v : AV C.Θ.T} (hd : ∀ i, d = some i → i ∉ o.looksAt ops) (h : guardD C ops (s.put d v) o = some s2) :
    ∃ (w : Way) (u : AV C.Θ.T), s2 = (w.on (s.put d v)).put o.dst u ∧ guardD C ops s o = some ((w.on s).put o.dst u) := by
  have lk : Looks ops s (s.put d v) o := looks_of fun i hi => at_put s d v i fun e => hd i e hi
  obtain ⟨dst, op, ty, pos, aft, grd⟩ := o
  have hop : ∃ g args ats, op = .call ⟨.value (.func g), args, ats⟩ ∧ ∀ p ∈ C.Γ, p.1 = g → plainIn p.2.hin = true ∧ ∀ o ∈ p.2.outs, o.2.boxes = [] ∧ o.2.rows = [] := by
    unfold callN at ho
    split at ho <;> try (cases ho; done)
    rename_i g hg
    obtain ⟨args, ats, e⟩ := callee_of hg
    refine ⟨g, args, ats, e, fun p hp e => ?_⟩
    have := List.all_eq_true.1 ho p hp
    simp only [e, beq_self_eq_true, Bool.not_true, Bool.false_or, Bool.and_eq_true, List.all_eq_true, List.isEmpty_iff] at this
    exact this
  obtain ⟨g, args, ats, rfl, hsp⟩ := hop
  have hst : ∀ t : St C.Θ.T, stepD C t ⟨dst, .call ⟨.value (.func g), args, ats⟩, ty, pos, aft, grd⟩ = match ready (flatE C.Θ) (St.cellsAt C.Θ) C.Γ t g (args.toList.map t.ev) with
    | some r => callK (flatE C.Θ) r dst some
    | none => none := by
    intro t
    have : calleeOf C t (.func g) = some (g, [], []) := rfl
    simp only [stepD, stepC, this, List.nil_append, List.append_nil]
    rfl
  have step : ∀ s2, stepD C (s.put d v) ⟨dst, .call ⟨.value (.func g), args, ats⟩, ty, pos, aft, grd⟩ = some s2 → ∃ (w : Way) (u : AV C.Θ.T), s2 = (w.on (s.put d v)).put dst u ∧ stepD C s ⟨dst, .call ⟨.value (.func g), args, ats⟩, ty, pos, aft, grd⟩ = some ((w.on s).put dst u) := by
    intro s2 h
    rw [hst] at h
    split at h <;> try (cases h; done)
    rename_i r hr
    obtain ⟨w, e1, hm, hr'⟩ := ready_alike (s := s) (put_boxes s d v) (put_rows s d v) hr
    obtain ⟨z, q, x, hF, hmem, e2, haf, hto⟩ := callK_some h
    obtain ⟨hpl, hout⟩ := hsp _ hm rfl
    simp only [plainIn, Bool.and_eq_true, List.isEmpty_iff] at hpl
    obtain ⟨u, _, hu, hz⟩ := quiet_after' (hout q hmem) hpl.1.1 hpl.1.2 haf
    refine ⟨w, u, by rw [hz, e1], ?_⟩
    have hav : args.toList.map (s.put d v).ev = args.toList.map s.ev := map_alike _ fun z hz => lk.ev z (by simp [Op.operands, Call.operands] at hz ⊢; exact .inr hz)
    rw [hst, ← hav, hr']
    simp only
    unfold callK
    simp only [hF, Option.bind_some]
    rw [hto]
    simp only [e2]
    rw [hu (w.on s)]
  cases grd with
  | none => exact step s2 h
  | some jw =>
    obtain ⟨j, want⟩ := jw
    unfold guardD at h ⊢
    simp only at h ⊢
    split at h <;> try (cases h; done)
    rename_i d' hj
    have := lk.g j want d' rfl hj
    rw [this] at h
    split at h <;> try (cases h; done)
    · rename_i b hb
      split at h
      · rename_i hbw
        obtain ⟨w, u, h1, h2⟩ := step s2 h
        exact ⟨w, u, h1, by rw [if_pos hbw]; exact h2⟩
      · rename_i hbw
        cases h
        exact ⟨.id, .skip, rfl, by rw [if_neg hbw]; rfl⟩
    · rename_i hb
      cases h
      exact ⟨.id, .skip, rfl, rfl⟩
theorem swapMN {s2 : St C.Θ.T} {k o : Oper} (hk : moveOp k = true) (ho : callN C o = true) (hap : Oper.apart ops k o = true) (h1 : guardD C ops s k = some s1) (h2 : guardD C ops s1 o = some s2) :
    ∃ t, guardD C ops s o = some t ∧ guardD C ops t k = some s2 := by
  obtain ⟨a1, a2, a3⟩ := Oper.apart_spec hap
  have look : ∀ (w : Way) (u : AV C.Θ.T), Looks ops (w.on s) ((w.on s).put o.dst u) k := fun w u => looks_of fun i hi => at_put _ o.dst u i fun e => a3 i e hi
  rcases move_guard hk h1 with ⟨x, _, e, hk'⟩ | ⟨e, hk'⟩
  · subst e
    obtain ⟨w, u, e2, h3⟩ := callN_guard ho a1 h2
    refine ⟨_, h3, ?_⟩
    rw [hk' w _ (look w u), e2, way_put, put_comm _ k.dst o.dst _ _ a2]
  · subst e
    obtain ⟨w, u, e2, h3⟩ := callN_guard ho a1 h2
    refine ⟨_, h3, ?_⟩
    rw [hk' w _ (look w u), e2, way_put, way_skip, put_comm _ k.dst o.dst _ _ a2]
theorem frontMN {o : Oper} (ho : callN C o = true) : ∀ (l1 l2 : List Oper) (s s' : St C.Θ.T), (∀ k ∈ l1, moveOp k = true ∧ Oper.apart ops k o = true) → opsD C ops (l1 ++ o :: l2) s = some s' →
    ∃ s1, guardD C ops s o = some s1 ∧ opsD C ops (l1 ++ l2) s1 = some s' := by
  intro l1
  induction l1 with
  | nil =>
    intro l2 s s' _ h
    simp only [List.nil_append, opsD] at h
    split at h <;> try (cases h; done)
    rename_i s1 h1
    exact ⟨s1, h1, h⟩
  | cons k l1 ih =>
    intro l2 s s' hk h
    simp only [List.cons_append, opsD] at h
    split at h <;> try (cases h; done)
    rename_i s1 h1
    obtain ⟨q1, q2⟩ := hk k (by simp)
    obtain ⟨s2, h2, h3⟩ := ih l2 s1 s' (fun k hk' => hk k (by simp [hk'])) h
    obtain ⟨t, g1, g2⟩ := swapMN q1 ho q2 h1 h2
    refine ⟨t, g1, ?_⟩
    simp only [List.cons_append, opsD, g2]
    exact h3
def Way.c (w : Way) (s : St C.Θ.T) (c : CV C.Θ.T) : CV C.Θ.T := match w with
  | .id => c
  | .fr ks => frC s ks c
theorem way_c (w : Way) (x : CV C.Θ.T) : w.av s (.c x) = .c (w.c s x) := by cases w <;> rfl
theorem way_agg (w : Way) (cs : List (CV C.Θ.T)) : w.av s (.agg cs) = .agg (cs.map (w.c s)) := by
  cases w with
  | id => simp only [Way.av]; congr 1; exact (List.map_id' cs).symm
  | fr ks => rfl
theorem way_box (w : Way) (k : Nat) : look (w.on s).boxes k = (look s.boxes k).map fun B => ⟨B.gen, B.ty, B.cells.map (w.c s)⟩ := by
  cases w with
  | id =>
    simp only [Way.on]
    cases look s.boxes k with
    | none => rfl
    | some B =>
      have e : B.cells.map ((Way.id).c s) = B.cells := List.map_id' B.cells
      simp only [Option.map_some, e]
  | fr ks => exact look_map (fun B => (⟨B.gen, B.ty, B.cells.map (frC s ks)⟩ : BoxS C.Θ.T)) s.boxes k
theorem way_row (w : Way) {k : Nat} {R : RowS C.Θ.T} (h : look (w.on s).rows k = some R) : look s.rows k = some R := by
  cases w with
  | id => exact h
  | fr ks => exact (look_dropRows h).1
theorem wc_box (w : Way) {x : CV C.Θ.T} {k g off : Nat} (h : w.c s x = .box k g off) : x = .box k g off := by
  cases w with
  | id => exact h
  | fr ks =>
    simp only [Way.c] at h
    unfold frC at h
    split at h
    · split at h
      · split at h
        · split at h <;> cases h
        · cases h
      · cases h
    · exact h
theorem cells_way (w : Way) {v : AV C.Θ.T} {cs : List (CV C.Θ.T)} (h : (w.on s).cellsAt C.Θ (w.av s v) = some cs) : ∃ cs0, s.cellsAt C.Θ v = some cs0 ∧ cs = cs0.map (w.c s) := by
  have cv : ∀ l : List (PV C.Θ.T), (l.map (CV.v (T := C.Θ.T))).map (w.c s) = l.map .v := fun l => by
    rw [List.map_map]; exact List.map_congr_left fun p _ => by cases w <;> rfl
  cases v with
  | c x =>
    rw [way_c] at h
    cases hx : w.c s x <;> rw [hx] at h <;> simp only [St.cellsAt] at h <;> try (cases h; done)
    rename_i k g off
    have := wc_box w hx
    subst this
    rw [way_box] at h
    cases hl : look s.boxes k with
    | none => rw [hl] at h; cases h
    | some B =>
      rw [hl] at h
      simp only [Option.map_some] at h
      split at h <;> try (cases h; done)
      rename_i hg
      cases h
      exact ⟨B.cells.drop off, by simp only [St.cellsAt, hl, if_pos hg], by rw [List.map_drop]⟩
  | cel xs =>
    have e : w.av s (.cel xs) = .cel xs := by cases w <;> rfl
    rw [e] at h
    simp only [St.cellsAt, Option.some.injEq] at h
    exact ⟨xs.map .v, rfl, by rw [cv, h]⟩
  | rel r g i sz off =>
    have e : w.av s (.rel r g i sz off) = .rel r g i sz off := by cases w <;> rfl
    rw [e] at h
    simp only [St.cellsAt] at h
    split at h <;> try (cases h; done)
    rename_i R hR
    split at h <;> try (cases h; done)
    rename_i hg
    split at h <;> try (cases h; done)
    rename_i hz
    cases h
    exact ⟨_, by simp only [St.cellsAt, way_row w hR, if_pos hg, if_pos hz], (cv _).symm⟩
  | agg cs => rw [way_agg] at h; cases h
  | _ => cases w <;> cases h
theorem ofCells_way (w : Way) {t : TypeId} {cs : List (CV C.Θ.T)} {v : AV C.Θ.T} (h : ofCells C.P t (cs.map (w.c s)) = some v) : ∃ v0, ofCells C.P t cs = some v0 ∧ v = w.av s v0 := by
  rcases ofCells_ok h with ⟨h1, rfl⟩ | ⟨h1, c, hc, rfl⟩
  · exact ⟨.agg cs, by unfold ofCells; rw [h1], (way_agg w cs).symm⟩
  · cases cs with
    | nil => simp at hc
    | cons a l =>
      cases l with
      | cons b l => simp at hc
      | nil =>
        simp at hc
        exact ⟨.c a, by unfold ofCells; rw [h1], by rw [way_c, hc]⟩
theorem moved_way (w : Way) {n : Nat} {x v : AV C.Θ.T} (h : moved n (w.av s x) = some v) : ∃ v0, moved n x = some v0 ∧ v = w.av s v0 := by
  cases x with
  | c x =>
    rw [way_c] at h
    cases hx : w.c s x <;> rw [hx] at h <;> simp only [moved] at h <;> try (cases h; done)
    have := wc_box w hx
    subst this
    cases h
    exact ⟨_, rfl, by cases w <;> rfl⟩
  | cel xs => cases w <;> (cases h; exact ⟨_, rfl, rfl⟩)
  | rel r g i sz off => cases w <;> (cases h; exact ⟨_, rfl, rfl⟩)
  | agg cs => rw [way_agg] at h; cases h
  | _ => cases w <;> cases h
theorem nat_op (w : Way) {o : Oper} (ho : natOp o = true) {t : St C.Θ.T} (hm : ∀ lt x, o.op = .load lt x → t.cellsAt C.Θ (t.ev x) = (w.on s).cellsAt C.Θ (t.ev x)) (he : ∀ x ∈ o.op.operands.toList, t.ev x = (w.on s).ev x) {s2 : St C.Θ.T} (h : stepD C t o = some s2) :
    ∃ v0, stepD C s o = some (s.put o.dst v0) ∧ s2 = t.put o.dst (w.av s v0) := by
  obtain ⟨dst, op, ty, pos, aft, grd⟩ := o
  unfold natOp at ho
  simp only at ho he
  split at ho <;> try (cases ho; done)
  · rename_i x
    have h' : some (t.put dst (t.ev x)) = some s2 := h
    cases h'
    exact ⟨s.ev x, rfl, by rw [he x (by simp [Op.operands]), way_ev]⟩
  · rename_i x
    have h' : some (t.put dst (t.ev x)) = some s2 := h
    cases h'
    exact ⟨s.ev x, rfl, by rw [he x (by simp [Op.operands]), way_ev]⟩
  · rename_i lt x
    have hst : ∀ t : St C.Θ.T, stepD C t ⟨dst, .load lt x, ty, pos, aft, grd⟩ = match vLoad C.P C.Θ t lt (t.ev x) with
      | some (c, v) => cond c (some (t.put dst v)) none
      | none => none := fun t => by
        show (match (match vLoad C.P C.Θ t lt (t.ev x) with
          | some (c, v) => some (c, t.put dst v)
          | none => none : Option (Bool × St C.Θ.T)) with
          | some (c, s') => cond c (some s') none
          | none => none) = _
        cases vLoad C.P C.Θ t lt (t.ev x) with
        | none => rfl
        | some q => rfl
    rw [hst] at h
    have hv : vLoad C.P C.Θ t lt (t.ev x) = vLoad C.P C.Θ (w.on s) lt (w.av s (s.ev x)) := by
      have h1 := hm lt x rfl
      rw [he x (by simp [Op.operands]), way_ev] at h1 ⊢
      unfold vLoad
      rw [h1]
    rw [hv] at h
    cases hq : vLoad C.P C.Θ (w.on s) lt (w.av s (s.ev x)) with
    | none => rw [hq] at h; cases h
    | some q =>
    obtain ⟨c, v⟩ := q
    rw [hq] at h
    unfold vLoad at hq
    split at hq <;> try (cases hq; done)
    rename_i n hn
    split at hq <;> try (cases hq; done)
    rename_i cs hcs
    obtain ⟨cs0, h0, rfl⟩ := cells_way w hcs
    split at hq <;> try (cases hq; done)
    rename_i hle
    rw [List.length_map] at hle
    rw [← List.map_take] at hq
    cases ho2 : ofCells C.P lt ((cs0.take n).map (w.c s)) with
    | none => rw [ho2] at hq; cases hq
    | some v1 =>
    rw [ho2] at hq
    simp only [Option.map_some, Option.some.injEq, Prod.mk.injEq] at hq
    obtain ⟨rfl, rfl⟩ := hq
    obtain ⟨v0, g1, g2⟩ := ofCells_way w ho2
    simp only [cond_true, Option.some.injEq] at h
    refine ⟨v0, ?_, by rw [← h, g2]⟩
    rw [hst]
    unfold vLoad
    simp only [hn, h0, if_pos hle, g1, Option.map_some, cond_true]
  · rename_i ft x f
    have hst : ∀ t : St C.Θ.T, stepD C t ⟨dst, .fieldAddr ft x f, ty, pos, aft, grd⟩ = match vFieldAddr C.P ft f (t.ev x) with
      | some (c, v) => cond c (some (t.put dst v)) none
      | none => none := fun t => by
        show (match (match vFieldAddr C.P ft f (t.ev x) with
          | some (c, v) => some (c, t.put dst v)
          | none => none : Option (Bool × St C.Θ.T)) with
          | some (c, s') => cond c (some s') none
          | none => none) = _
        cases vFieldAddr C.P ft f (t.ev x) with
        | none => rfl
        | some q => rfl
    rw [hst, he x (by simp [Op.operands]), way_ev] at h
    cases hq : vFieldAddr C.P ft f (w.av s (s.ev x)) with
    | none => rw [hq] at h; cases h
    | some q =>
    obtain ⟨c, v⟩ := q
    rw [hq] at h
    unfold vFieldAddr at hq
    split at hq <;> try (cases hq; done)
    rename_i off _ _ hf
    cases hm : moved off (w.av s (s.ev x)) with
    | none => rw [hm] at hq; cases hq
    | some v1 =>
    rw [hm] at hq
    simp only [Option.map_some, Option.some.injEq, Prod.mk.injEq] at hq
    obtain ⟨rfl, rfl⟩ := hq
    obtain ⟨v0, g1, g2⟩ := moved_way w hm
    simp only [cond_true, Option.some.injEq] at h
    refine ⟨v0, ?_, by rw [← h, g2]⟩
    rw [hst]
    unfold vFieldAddr
    simp only [hf, g1, Option.map_some, cond_true]
theorem way_bool_inv (w : Way) {v : AV C.Θ.T} {b : Bool} (h : w.av s v = .c (.v (.bool b))) : v = .c (.v (.bool b)) := by
  cases w with
  | id => exact h
  | fr ks =>
    simp only [Way.av] at h
    cases v <;> simp only [frA] at h <;> try (cases h; done)
    rename_i x
    injection h with h
    unfold frC at h
    split at h
    · split at h
      · split at h
        · split at h <;> cases h
        · cases h
      · cases h
    · rw [h]
theorem way_skip_inv (w : Way) {v : AV C.Θ.T} (h : w.av s v = .skip) : v = .skip := by
  cases w with
  | id => exact h
  | fr ks =>
    simp only [Way.av] at h
    cases v <;> first | rfl | (simp only [frA] at h; cases h; done)
theorem nat_guard (w : Way) {o : Oper} (ho : natOp o = true) {t : St C.Θ.T} (hm : ∀ lt x, o.op = .load lt x → t.cellsAt C.Θ (t.ev x) = (w.on s).cellsAt C.Θ (t.ev x)) (hl : Looks ops (w.on s) t o) {s2 : St C.Θ.T} (h : guardD C ops t o = some s2) :
    ∃ v0, guardD C ops s o = some (s.put o.dst v0) ∧ s2 = t.put o.dst (w.av s v0) := by
  obtain ⟨dst, op, ty, pos, aft, grd⟩ := o
  cases grd with
  | none => exact nat_op w ho hm hl.ev h
  | some jw =>
    obtain ⟨j, want⟩ := jw
    unfold guardD at h ⊢
    simp only at h ⊢
    split at h <;> try (cases h; done)
    rename_i d hj
    have hg := hl.g j want d rfl hj
    rw [way_at] at hg
    split at h <;> try (cases h; done)
    · rename_i b hbq
      rw [hbq] at hg
      have hs := way_bool_inv w hg.symm
      split at h
      · rename_i hbw
        obtain ⟨v0, h1, h2⟩ := nat_op w ho hm hl.ev h
        refine ⟨v0, ?_, h2⟩
        rw [hs]
        simp only
        rw [if_pos hbw]
        exact h1
      · rename_i hbw
        cases h
        refine ⟨.skip, ?_, by rw [way_skip]⟩
        rw [hs]
        simp only
        rw [if_neg hbw]
    · rename_i hbq
      rw [hbq] at hg
      have hs := way_skip_inv w hg.symm
      cases h
      refine ⟨.skip, ?_, by rw [way_skip]⟩
      rw [hs]
def backV (s : St C.Θ.T) (d : Option Nat) : AV C.Θ.T := match d with
  | some i => s.at_ i
  | none => .undef
theorem put_back (s : St C.Θ.T) (d : Option Nat) (v : AV C.Θ.T) : (s.put d v).put d (backV s d) = s := by
  cases d with
  | none => rfl
  | some i =>
    unfold St.put backV St.at_
    simp only [List.set_set]
    have : s.slots.set i (s.slots.getD i .undef) = s.slots := by
      apply List.ext_getElem?
      intro k
      rw [List.getElem?_set]
      split
      · rename_i e
        subst e
        split
        · rename_i hlt; simp [List.getD_eq_getElem?_getD, List.getElem?_eq_getElem hlt]
        · rename_i hlt; rw [List.getElem?_eq_none (by omega)]
      · rfl
    rw [this]
theorem swapNM {s2 : St C.Θ.T} {k o : Oper} (hk : callN C k = true) (ho : natOp o = true) (hap : Oper.apart ops k o = true) (h1 : guardD C ops s k = some s1) (h2 : guardD C ops s1 o = some s2) :
    ∃ t, guardD C ops s o = some t ∧ guardD C ops t k = some s2 := by
  obtain ⟨a1, a2, a3⟩ := Oper.apart_spec hap
  have one : ∀ v : AV C.Θ.T, ∃ (w : Way) (u : AV C.Θ.T), s1 = (w.on s).put k.dst u ∧ guardD C ops (s.put o.dst v) k = some ((w.on (s.put o.dst v)).put k.dst u) := fun v => by
    have := callN_guard (s := s.put o.dst v) (d := o.dst) (v := backV s o.dst) hk a3 (by rw [put_back]; exact h1)
    rw [put_back] at this
    exact this
  have nat : ∀ (w : Way) (u : AV C.Θ.T), s1 = (w.on s).put k.dst u → ∃ v0, guardD C ops s o = some (s.put o.dst v0) ∧ s2 = s1.put o.dst (w.av s v0) := fun w u e => by
    refine nat_guard w ho (fun lt x _ => cellsAt_alike (by rw [e, put_boxes]) (by rw [e, put_rows]) _) ?_ h2
    rw [e]
    exact looks_of fun i hi => at_put _ k.dst u i fun e => a1 i e hi
  obtain ⟨w0, u0, e0, _⟩ := one .undef
  obtain ⟨v0, g1, _⟩ := nat w0 u0 e0
  obtain ⟨w, u, e1, g2⟩ := one v0
  obtain ⟨v1, g3, e2⟩ := nat w u e1
  refine ⟨_, g3, ?_⟩
  obtain ⟨w', u', e1', g2'⟩ := one v1
  obtain ⟨v2, g3', e2'⟩ := nat w' u' e1'
  have hp : s.put o.dst v2 = s.put o.dst v1 := by rw [g3] at g3'; exact (Option.some.inj g3').symm
  rw [g2', way_put, ← put_comm _ k.dst o.dst _ _ a2, ← e1', e2']
  have hq : (w'.on s).put o.dst (w'.av s v2) = (w'.on s).put o.dst (w'.av s v1) := by rw [← way_put, ← way_put, hp]
  rw [e1', put_comm _ k.dst o.dst _ _ a2, put_comm _ k.dst o.dst _ _ a2, hq]
theorem front3 {o : Oper} : ∀ (l1 l2 : List Oper) (s s' : St C.Θ.T), (∀ k ∈ l1, ((kindOf C k).comm (kindOf C o) = true ∨ (kindOf C k = .no ∧ callN C k = true ∧ natOp o = true)) ∧ Oper.apart ops k o = true) → (l1 ++ o :: l2).Pairwise (KApart C) →
    (l1 ++ o :: l2).Pairwise (fun a b => kindOf C a = .no → (kindOf C b).grow = false) →
    ((∃ q ∈ l1 ++ o :: l2, (kindOf C q).grow = true) → Tame (l1 ++ o :: l2) s) → opsD C ops (l1 ++ o :: l2) s = some s' →
    ∃ s1, guardD C ops s o = some s1 ∧ opsD C ops (l1 ++ l2) s1 = some s' := by
  intro l1
  induction l1 with
  | nil =>
    intro l2 s s' _ _ _ _ h
    simp only [List.nil_append, opsD] at h
    split at h <;> try (cases h; done)
    rename_i s1 h1
    exact ⟨s1, h1, h⟩
  | cons k l1 ih =>
    intro l2 s s' hk hPW hNG hT h
    simp only [List.cons_append, opsD] at h
    split at h <;> try (cases h; done)
    rename_i s1 h1
    rw [List.cons_append, List.pairwise_cons] at hPW hNG
    obtain ⟨q1, q2⟩ := hk k (by simp)
    obtain ⟨s2, h2, h3⟩ := ih l2 s1 s' (fun k hk' => hk k (by simp [hk'])) hPW.2 hNG.2 (fun ⟨q, hq, hg⟩ => by
      by_cases hnk : kindOf C k = .no
      · have := hNG.1 q hq hnk
        rw [this] at hg; cases hg
      · exact step_tame hnk (hT ⟨q, by simp at hq ⊢; exact .inr hq, hg⟩) (fun _ => by simp) h1 (fun z hz => by simp at hz ⊢; exact .inr hz) (fun z hz => hPW.1 z hz)) h
    obtain ⟨s1', g1, g2⟩ : ∃ t, guardD C ops s o = some t ∧ guardD C ops t k = some s2 := by
      rcases q1 with q1 | ⟨_, q1, q3⟩
      · exact swap2 q1 q2 (hPW.1 o (by simp)) (fun hg => by
          simp only [Bool.or_eq_true] at hg
          have hTT : Tame (k :: l1 ++ o :: l2) s := by
            rcases hg with hg | hg
            · exact hT ⟨k, by simp, hg⟩
            · exact hT ⟨o, by simp, hg⟩
          exact hTT.sub fun z hz => by
            simp only [List.mem_cons, List.not_mem_nil, or_false] at hz
            rcases hz with rfl | rfl <;> simp) h1 h2
      · exact swapNM q1 q3 q2 h1 h2
    refine ⟨s1', g1, ?_⟩
    simp only [List.cons_append, opsD, g2]
    exact h3
end
end Go.Den
namespace Go.Den
open Go Go.RowKit
section
variable {C : Cx} {ops : Array Oper} {s s1 : St C.Θ.T}
theorem fillBs_keys2 {T : TypeId → Type} : ∀ (ts : List (Nat × Nat × List CT)) (ps : List (PV T)), keysOf (fillBs ts ps).1 = keysOf ts := by
  intro ts
  induction ts with
  | nil => intro ps; rfl
  | cons t ts ih => intro ps; simp only [fillBs, keysOf, ih]
theorem keyIn_of_mem {B : Type} {l : List (Nat × B)} {k : Nat} (h : k ∈ keysOf l) : keyIn l k = true := by
  induction l with
  | nil => cases h
  | cons x l ih =>
    obtain ⟨j, b⟩ := x
    simp only [keysOf, List.mem_cons] at h
    simp only [keyIn, Bool.or_eq_true, beq_iff_eq]
    rcases h with h | h
    · exact .inl h.symm
    · exact .inr (ih h)
theorem mem_of_keyIn {B : Type} {l : List (Nat × B)} {k : Nat} (h : keyIn l k = true) : k ∈ keysOf l := by
  induction l with
  | nil => cases h
  | cons x l ih =>
    obtain ⟨j, b⟩ := x
    simp only [keyIn, Bool.or_eq_true, beq_iff_eq] at h
    simp only [keysOf, List.mem_cons]
    rcases h with h | h
    · exact .inl h.symm
    · exact .inr (ih h)
theorem renBs_lent {T : TypeId → Type} {s t : St T} {hin : Shape} {xs : List (Nat × Nat × Nat)} {base : Nat} : ∀ (l : List (Nat × BoxS T)), (∀ k ∈ keysOf l, keyIn hin.boxes k = true) → renBs t hin xs base l = renBs s hin xs base l := by
  intro l
  induction l with
  | nil => intro _; rfl
  | cons b l ih =>
    intro h
    simp only [renBs]
    rw [ih fun k hk => h k (by simp only [keysOf, List.mem_cons]; exact .inr hk)]
    have : keyIn hin.boxes b.1 = true := h b.1 (by simp only [keysOf, List.mem_cons]; exact .inl trivial)
    unfold entB
    rw [if_pos this, if_pos this]
theorem renRs_lent {T : TypeId → Type} {s t : St T} {hin : Shape} {xs : List (Nat × CV T)} {base : Nat} : ∀ (l : List (Nat × RowS T)), (∀ k ∈ keysOf l, keyIn hin.rows k = true) → renRs t hin xs base l = renRs s hin xs base l := by
  intro l
  induction l with
  | nil => intro _; rfl
  | cons b l ih =>
    intro h
    simp only [renRs]
    rw [ih fun k hk => h k (by simp only [keysOf, List.mem_cons]; exact .inr hk)]
    have : keyIn hin.rows b.1 = true := h b.1 (by simp only [keysOf, List.mem_cons]; exact .inl trivial)
    unfold entR
    rw [if_pos this, if_pos this]
theorem newBs_keys {T : TypeId → Type} {nB : List (Nat × Nat × Nat)} {nR : List (Nat × CV T)} : ∀ (l : List (Nat × BoxS T)) (bs : List (Nat × BoxS T)), newBs nB nR l = some bs → ∀ k ∈ keysOf bs, ∃ j g, look nB j = some (k, g) ∧ j ∈ keysOf l := by
  intro l
  induction l with
  | nil => intro bs h k hk; cases h; cases hk
  | cons b l ih =>
    intro bs h k hk
    simp only [newBs] at h
    split at h <;> try (cases h; done)
    rename_i kg hkg
    split at h <;> try (cases h; done)
    split at h <;> try (cases h; done)
    rename_i l' hl'
    cases h
    simp only [keysOf, List.mem_cons] at hk
    rcases hk with rfl | hk
    · exact ⟨b.1, kg.2, hkg, by simp only [keysOf, List.mem_cons]; exact .inl trivial⟩
    · obtain ⟨j, g, h1, h2⟩ := ih l' hl' k hk
      exact ⟨j, g, h1, by simp only [keysOf, List.mem_cons]; exact .inr h2⟩
theorem after_lent {T : TypeId → Type} {fe : TypeId → Bool} {hin : Shape} {y : Ext T hin} {t : St T} {flat : Bool} {dst : Option Nat} (hb : ∀ k ∈ keysOf t.boxes, keyIn hin.boxes k = true) (hr : ∀ k ∈ keysOf t.rows, keyIn hin.rows k = true)
    {s s' : St T} (h : after fe s hin y t flat dst = some s') :
    ∃ (u : AV T) (fB : List (Nat × BoxS T) → List (Nat × BoxS T)) (fR : List (Nat × RowS T) → List (Nat × RowS T)), (∀ s0 : St T, after fe s0 hin y t flat dst = some (St.put ⟨s0.slots, fB s0.boxes, fR s0.rows⟩ dst u)) ∧ ∀ (l : List (Nat × BoxS T)) k, k ∉ lentBs y.xs hin.boxes → look (fB l) k = look l k := by
  unfold after at h
  split at h <;> try (cases h; done)
  rename_i hfl
  split at h <;> try (cases h; done)
  rename_i nB hnB
  split at h <;> try (cases h; done)
  rename_i nR hnR
  split at h <;> try (cases h; done)
  rename_i bs hbs
  split at h <;> try (cases h; done)
  rename_i rs hrs
  split at h <;> try (cases h; done)
  rename_i v hv
  split at h <;> try (cases h; done)
  rename_i hap
  refine ⟨v, fun l => bs ++ dropBoxes l (keysOf bs ++ lentBs y.xs hin.boxes), fun l => rs ++ dropRows l (keysOf rs ++ lentRs y.bs hin.rows), fun s0 => ?_, fun l k hk => ?_⟩
  · unfold after
    rw [if_neg hfl, renBs_lent (s := s) _ hb, hnB]
    simp only
    rw [renRs_lent (s := s) _ hr, hnR]
    simp only [hbs, hrs, hv]
    rw [if_pos hap]
  · have hnk : k ∉ keysOf bs := by
      intro hkb
      obtain ⟨j, g, h1, h2⟩ := newBs_keys _ _ hbs k hkb
      obtain ⟨k1, _, k3⟩ := renBs_spec _ _ hnB
      have := k3 (j, (k, g)) (mem_of_look h1)
      unfold entB at this
      rw [if_pos (hb j h2)] at this
      exact hk (lentBs_mem (mem_of_keyIn (hb j h2)) this)
    rw [look_append2]
    cases hlb : look bs k with
    | some b => exact absurd (mem_keysOf (mem_of_look hlb)) hnk
    | none =>
      simp only
      have : k ∉ keysOf bs ++ lentBs y.xs hin.boxes := by simp [hnk, hk]
      generalize keysOf bs ++ lentBs y.xs hin.boxes = ks at this
      induction l with
      | nil => rfl
      | cons x l ih =>
        obtain ⟨j, R⟩ := x
        simp only [dropBoxes]
        split
        · rename_i hj
          rw [ih]
          simp only [look]
          rw [if_neg]
          rintro rfl
          exact this (by simpa using hj)
        · simp only [look]
          rw [ih]
theorem memW (w : Way) {t : St C.Θ.T} (hb : t.boxes = s.boxes) (hr : t.rows = s.rows) : (w.on t).boxes = (w.on s).boxes ∧ (w.on t).rows = (w.on s).rows := by
  cases w with
  | id => exact ⟨hb, hr⟩
  | fr ks => exact freeze_parts hb hr
theorem ready_two {t : St C.Θ.T} {g : Nat} {avs : List (AV C.Θ.T)} {r : Ready C.Θ.T} (h : ready (flatE C.Θ) (St.cellsAt C.Θ) C.Γ s g avs = some r) :
    ∃ w : Way, r.s = w.on s ∧ (g, r.sp) ∈ C.Γ ∧ ∀ t : St C.Θ.T, t.boxes = s.boxes → t.rows = s.rows → ready (flatE C.Θ) (St.cellsAt C.Θ) C.Γ t g avs = some ⟨w.on t, r.sp, r.avs, r.y⟩ := by
  have hmem := (ready_ok h).1
  unfold ready at h
  split at h <;> try (cases h; done)
  rename_i hit hh
  have hf0 : ∀ t : St C.Θ.T, t.boxes = s.boxes → t.rows = s.rows → findSpec (flatE C.Θ) (St.cellsAt C.Θ) C.Γ g t avs = some hit := fun t hb hr => by
    rw [← hh]
    refine find_congr _ fun p hp hg => ?_
    unfold entryOf
    rw [lendAs_congr (s := s) (t := t) ⟨fun _ _ _ _ => by rw [hb], fun _ _ _ _ _ _ _ _ _ _ => by rw [hr], fun _ _ _ _ => by rw [hr]⟩ _ _ _ fun _ h => h, hb, hr]
  split at h
  · rename_i hf
    cases h
    refine ⟨.id, rfl, hmem, fun t hb hr => ?_⟩
    unfold ready
    rw [hf0 t hb hr]
    simp only [hf, if_true]
    rfl
  · rename_i hf
    split at h <;> try (cases h; done)
    rename_i y hy
    split at h <;> try (cases h; done)
    rename_i hn
    cases h
    refine ⟨.fr (rowsIn hit.y.hs), rfl, hmem, fun t hb hr => ?_⟩
    obtain ⟨e1, e2⟩ := freeze_parts (ks := rowsIn hit.y.hs) hb hr
    have e3 : avs.map (frA t (rowsIn hit.y.hs)) = avs.map (frA s (rowsIn hit.y.hs)) := List.map_congr_left fun v _ => frA_rows hr v
    unfold ready
    rw [hf0 t hb hr]
    simp only
    rw [if_neg hf, e1, e2, e3, hy]
    simp only
    rw [if_pos hn]
    rfl
theorem noW_no {o : Oper} (h : noW C o = true) : (callW C o = true ∨ storeS o = true) ∧ kindOf C o = .no := by
  unfold noW at h
  simp only [Bool.and_eq_true, Bool.or_eq_true] at h
  refine ⟨h.1, ?_⟩
  have := h.2
  cases hk : kindOf C o <;> first | rfl | (rw [hk] at this; cases this)
theorem storeS_op {o : Oper} (h : storeS o = true) : ∃ t x y, o.op = .store t x y ∧ o.guard = none ∧ o.dst = none := by
  unfold storeS at h
  simp only [Bool.and_eq_true] at h
  obtain ⟨h1, h2, h3⟩ := h
  split at h1 <;> try (cases h1; done)
  rename_i t x y e
  split at h2 <;> try (cases h2; done)
  rename_i e2
  split at h3 <;> try (cases h3; done)
  rename_i e3
  exact ⟨t, x, y, e, e2, e3⟩
theorem elemOf_rows {t : St C.Θ.T} (hr : t.rows = s.rows) (e : TypeId) (cs : List (CV C.Θ.T)) : t.elemOf C.Θ e cs = s.elemOf C.Θ e cs := by
  unfold St.elemOf
  rw [htget_congr (g := s.get)]
  intro l c hc
  cases c <;> first | rfl | (unfold St.get; simp only [hr])
theorem store_all {o : Oper} (ho : storeS o = true) {s2 : St C.Θ.T} (h : guardD C ops s o = some s2) : s2.slots = s.slots ∧ (∀ k, k ∉ lendK C s o → look s2.boxes k = look s.boxes k) ∧
    ∀ t : St C.Θ.T, t.boxes = s.boxes → t.rows = s.rows → Looks ops s t o → guardD C ops t o = some ⟨t.slots, s2.boxes, s2.rows⟩ := by
  obtain ⟨ty, x, y, e1, e2, e3⟩ := storeS_op ho
  obtain ⟨dst, op, oty, pos, aft, grd⟩ := o
  simp only at e1 e2 e3
  subst e1 e2 e3
  have hst : ∀ t : St C.Θ.T, guardD C ops t ⟨none, .store ty x y, oty, pos, aft, none⟩ = match aStore C.P C.Θ t ty (t.ev x) (t.ev y) with
    | some (c, s') => cond c (some s') none
    | none => none := fun t => rfl
  rw [hst] at h
  have hlk : lendK C s ⟨none, .store ty x y, oty, pos, aft, none⟩ = match s.ev x with
    | .c (.box k _ _) => [k]
    | _ => [] := rfl
  rw [hlk]
  have hev : ∀ t : St C.Θ.T, Looks ops s t ⟨none, .store ty x y, oty, pos, aft, none⟩ → t.ev x = s.ev x ∧ t.ev y = s.ev y := fun t hl => ⟨hl.ev x (by simp [Op.operands]), hl.ev y (by simp [Op.operands])⟩
  unfold aStore at h
  split at h <;> try (cases h; done)
  rename_i c s' hq
  split at hq <;> try (cases hq; done)
  rename_i n vs hn hv
  split at hq <;> try (cases hq; done)
  rename_i hlen
  split at hq <;> try (cases hq; done)
  · rename_i k g off hx
    cases hw : s.writeBox k g off vs with
    | none => simp [hw] at hq
    | some s1 =>
      simp only [hw, Option.map_some, Option.some.injEq, Prod.mk.injEq] at hq
      obtain ⟨rfl, rfl⟩ := hq
      simp only [cond_true, Option.some.injEq] at h
      subst h
      have hw0 := hw
      unfold St.writeBox at hw
      split at hw <;> try (cases hw; done)
      rename_i B hB
      split at hw <;> try (cases hw; done)
      rename_i hc
      cases hw
      refine ⟨rfl, fun j hj => ?_, fun t hb hr hl => ?_⟩
      · rw [hx] at hj
        simp only [List.mem_singleton] at hj
        show look (keep s.boxes k _) j = _
        rw [look_keep, if_neg (fun e => hj e.symm)]
      · obtain ⟨h1, h2⟩ := hev t hl
        rw [hst]
        unfold aStore
        simp only [h1, h2, hn, hv, if_pos hlen, hx]
        unfold St.writeBox
        rw [hb, hB]
        simp only [if_pos hc, Option.map_some, cond_true, hr]
  · rename_i r g i sz off hx
    cases hw : s.writeRow C.Θ r g i sz off vs with
    | none => simp [hw] at hq
    | some s1 =>
      simp only [hw, Option.map_some, Option.some.injEq, Prod.mk.injEq] at hq
      obtain ⟨rfl, rfl⟩ := hq
      simp only [cond_true, Option.some.injEq] at h
      subst h
      unfold St.writeRow at hw
      split at hw <;> try (cases hw; done)
      rename_i R hR
      split at hw <;> try (cases hw; done)
      rename_i hc
      split at hw <;> try (cases hw; done)
      rename_i z hz
      cases hw
      refine ⟨rfl, fun j _ => rfl, fun t hb hr hl => ?_⟩
      obtain ⟨h1, h2⟩ := hev t hl
      rw [hst]
      unfold aStore
      simp only [h1, h2, hn, hv, if_pos hlen, hx]
      unfold St.writeRow
      rw [hr, hR]
      simp only [if_pos hc, elemOf_rows hr, hz, Option.map_some, cond_true, hb]
theorem callW_all {o : Oper} (ho : noW C o = true) {s2 : St C.Θ.T} (h : guardD C ops s o = some s2) :
    ∃ (w : Way) (u : AV C.Θ.T) (fB : List (Nat × BoxS C.Θ.T) → List (Nat × BoxS C.Θ.T)) (fR : List (Nat × RowS C.Θ.T) → List (Nat × RowS C.Θ.T)), (∀ l k, k ∉ lendK C s o → look (fB l) k = look l k) ∧
      ∀ t : St C.Θ.T, t.boxes = s.boxes → t.rows = s.rows → Looks ops s t o → guardD C ops t o = some (St.put ⟨(w.on t).slots, fB (w.on t).boxes, fR (w.on t).rows⟩ o.dst u) := by
  obtain ⟨hc, hno⟩ := noW_no ho
  rcases hc with hc | hc
  rotate_left
  · obtain ⟨h1, h2, h3⟩ := store_all hc h
    obtain ⟨_, _, _, _, _, hd⟩ := storeS_op hc
    classical
    refine ⟨.id, .skip, fun l => if l = s.boxes then s2.boxes else l, fun l => if l = s.rows then s2.rows else l, fun l k hk => ?_, fun t hb hr hl => ?_⟩
    · by_cases e : l = s.boxes
      · simp only [if_pos e]; rw [e]; exact h2 k hk
      · simp only [if_neg e]
    · rw [h3 t hb hr hl, hd]
      have e1 : ((Way.id).on t) = t := rfl
      rw [e1, hb, hr]
      simp [St.put]
  obtain ⟨dst, op, ty, pos, aft, grd⟩ := o
  have hop : ∃ g args ats, op = .call ⟨.value (.func g), args, ats⟩ ∧ ∀ p ∈ C.Γ, p.1 = g → ∀ o ∈ p.2.outs, (∀ b ∈ o.2.boxes, keyIn p.2.hin.boxes b.1 = true) ∧ ∀ b ∈ o.2.rows, keyIn p.2.hin.rows b.1 = true := by
    unfold callW at hc
    split at hc <;> try (cases hc; done)
    rename_i g hg
    obtain ⟨args, ats, e⟩ := callee_of hg
    refine ⟨g, args, ats, e, fun p hp e => ?_⟩
    have := List.all_eq_true.1 hc p hp
    simp only [e, beq_self_eq_true, Bool.not_true, Bool.false_or, List.all_eq_true, Bool.and_eq_true] at this
    exact this
  obtain ⟨g, args, ats, rfl, hsp⟩ := hop
  have hst : ∀ t : St C.Θ.T, stepD C t ⟨dst, .call ⟨.value (.func g), args, ats⟩, ty, pos, aft, grd⟩ = match ready (flatE C.Θ) (St.cellsAt C.Θ) C.Γ t g (args.toList.map t.ev) with
    | some r => callK (flatE C.Θ) r dst some
    | none => none := by
    intro t
    have : calleeOf C t (.func g) = some (g, [], []) := rfl
    simp only [stepD, stepC, this, List.nil_append, List.append_nil]
    rfl
  have step : ∀ s2, stepD C s ⟨dst, .call ⟨.value (.func g), args, ats⟩, ty, pos, aft, grd⟩ = some s2 → ∃ (w : Way) (u : AV C.Θ.T) (fB : List (Nat × BoxS C.Θ.T) → List (Nat × BoxS C.Θ.T)) (fR : List (Nat × RowS C.Θ.T) → List (Nat × RowS C.Θ.T)),
      (∀ l k, k ∉ lendK C s ⟨dst, .call ⟨.value (.func g), args, ats⟩, ty, pos, aft, grd⟩ → look (fB l) k = look l k) ∧
      ∀ t : St C.Θ.T, t.boxes = s.boxes → t.rows = s.rows → Looks ops s t ⟨dst, .call ⟨.value (.func g), args, ats⟩, ty, pos, aft, grd⟩ → stepD C t ⟨dst, .call ⟨.value (.func g), args, ats⟩, ty, pos, aft, grd⟩ = some (St.put ⟨(w.on t).slots, fB (w.on t).boxes, fR (w.on t).rows⟩ dst u) := by
    intro s2 h
    rw [hst] at h
    split at h <;> try (cases h; done)
    rename_i r hr
    obtain ⟨w, e1, hm, hr'⟩ := ready_two (t := s) hr
    obtain ⟨z, q, x, hF, hmem, e2, haf, hto⟩ := callK_some h
    obtain ⟨hbx, hrw⟩ := hsp _ hm rfl q hmem
    have kb : ∀ k ∈ keysOf (q.2.st x).boxes, keyIn r.sp.hin.boxes k = true := fun k hk => by
      have : (q.2.st x).boxes = (fillBs q.2.boxes (fillAs q.2.slots (HT.list Leaf.mk q.2.hs x)).2).1 := rfl
      rw [this, fillBs_keys2] at hk
      obtain ⟨b, hb⟩ := of_mem_keysOf hk
      exact hbx _ hb
    have kr : ∀ k ∈ keysOf (q.2.st x).rows, keyIn r.sp.hin.rows k = true := fun k hk => by
      obtain ⟨b, hb⟩ := of_mem_keysOf hk
      obtain ⟨r0, hr0, e⟩ := fillRs_keys _ _ _ hb
      rw [show k = r0.1 from e]
      exact hrw _ hr0
    obtain ⟨u, fB, fR, ha, hk⟩ := after_lent kb kr haf
    refine ⟨w, u, fB, fR, fun l k hn => hk l k ?_, fun t hb hr2 hl => ?_⟩
    · intro hmm
      apply hn
      unfold lendK
      simp only [calleeC, hno, Kd.isNo, if_true, hr]
      exact hmm
    · have hav : args.toList.map t.ev = args.toList.map s.ev := map_alike _ fun z hz => hl.ev z (by simp [Op.operands, Call.operands] at hz ⊢; exact .inr hz)
      rw [hst, hav, hr' t hb hr2]
      simp only
      unfold callK
      simp only [hF, Option.bind_some]
      rw [hto]
      simp only [e2]
      rw [ha (w.on t)]
  have skp : ∃ (w : Way) (u : AV C.Θ.T) (fB : List (Nat × BoxS C.Θ.T) → List (Nat × BoxS C.Θ.T)) (fR : List (Nat × RowS C.Θ.T) → List (Nat × RowS C.Θ.T)), (∀ l k, k ∉ lendK C s ⟨dst, .call ⟨.value (.func g), args, ats⟩, ty, pos, aft, grd⟩ → look (fB l) k = look l k) ∧
      ∀ t : St C.Θ.T, t.boxes = s.boxes → t.rows = s.rows → Looks ops s t ⟨dst, .call ⟨.value (.func g), args, ats⟩, ty, pos, aft, grd⟩ → some (t.put dst .skip) = some (St.put ⟨(w.on t).slots, fB (w.on t).boxes, fR (w.on t).rows⟩ dst u) :=
    ⟨.id, .skip, id, id, fun _ _ _ => rfl, fun t _ _ _ => rfl⟩
  cases grd with
  | none => exact step s2 h
  | some jw =>
    obtain ⟨j, want⟩ := jw
    unfold guardD at h
    simp only at h
    split at h <;> try (cases h; done)
    rename_i d' hj
    split at h <;> try (cases h; done)
    · rename_i b hb
      split at h
      · rename_i hbw
        obtain ⟨w, u, fB, fR, h1, h2⟩ := step s2 h
        refine ⟨w, u, fB, fR, h1, fun t ht hr hl => ?_⟩
        unfold guardD
        simp only [hj, hl.g j want d' rfl hj, hb, if_pos hbw]
        exact h2 t ht hr hl
      · rename_i hbw
        obtain ⟨w, u, fB, fR, h1, h2⟩ := skp
        refine ⟨w, u, fB, fR, h1, fun t ht hr hl => ?_⟩
        unfold guardD
        simp only [hj, hl.g j want d' rfl hj, hb, if_neg hbw]
        exact h2 t ht hr hl
    · rename_i hb
      obtain ⟨w, u, fB, fR, h1, h2⟩ := skp
      refine ⟨w, u, fB, fR, h1, fun t ht hr hl => ?_⟩
      unfold guardD
      simp only [hj, hl.g j want d' rfl hj, hb]
      exact h2 t ht hr hl
theorem way_box_c (w : Way) (k g off : Nat) : w.c s (.box k g off) = .box k g off := by cases w <;> rfl
theorem addr_way (w : Way) (v : AV C.Θ.T) : addrK (w.av s v) = addrK v := by
  cases w with
  | id => rfl
  | fr ks =>
    cases v <;> try rfl
    rename_i x
    simp only [Way.av, frA]
    cases x <;> try rfl
    rename_i r g
    simp only [frC]
    split
    · split
      · split <;> rfl
      · rfl
    · rfl
theorem addr_cells {t : St C.Θ.T} {v : AV C.Θ.T} {ks : List Nat} (h : addrK v = some ks) (hk : ∀ k ∈ ks, look t.boxes k = look s.boxes k) : t.cellsAt C.Θ v = s.cellsAt C.Θ v := by
  cases v <;> try (cases h; done)
  · rename_i x
    cases x <;> try (cases h; done)
    rename_i k g off
    cases h
    simp only [St.cellsAt]
    rw [hk k (by simp)]
  · rfl
  · rfl
theorem loadK_eq (N : List (Option Nat)) (o : Oper) : loadK C N s o = match o.op with
    | .load _ x => if memD N o.dst then addrK (s.ev x) else some []
    | _ => some [] := by
  obtain ⟨dst, op, ty, pos, aft, grd⟩ := o
  cases op <;> rfl
theorem loadK_alike {N : List (Option Nat)} {o : Oper} (w : Way) {t : St C.Θ.T} (he : ∀ x ∈ o.op.operands.toList, t.ev x = w.av s (s.ev x)) : loadK C N t o = loadK C N s o := by
  rw [loadK_eq, loadK_eq]
  split
  · rename_i a x e
    rw [he x (by rw [e]; simp [Op.operands]), addr_way]
  · rfl
theorem held_addr {N : List (Option Nat)} {o : Oper} (hh : heldW N o = true) {ks : List Nat} (h : loadK C N s o = some ks) : ∀ lt x, o.op = .load lt x → addrK (s.ev x) = some ks := by
  intro lt x e
  rw [loadK_eq, e] at h
  unfold heldW loadOp at hh
  rw [e] at hh
  simp only [Bool.not_true, Bool.false_or] at hh
  simp only [hh, if_true] at h
  exact h
theorem cells_fwd (w : Way) {v : AV C.Θ.T} {ks : List Nat} (ha : addrK v = some ks) {cs : List (CV C.Θ.T)} (h : s.cellsAt C.Θ v = some cs) : (w.on s).cellsAt C.Θ (w.av s v) = some (cs.map (w.c s)) := by
  cases v <;> try (cases ha; done)
  · rename_i x
    cases x <;> try (cases ha; done)
    rename_i k g off
    rw [way_c, way_box_c]
    simp only [St.cellsAt] at h ⊢
    rw [way_box]
    cases hl : look s.boxes k with
    | none => rw [hl] at h; cases h
    | some B =>
      rw [hl] at h
      simp only at h
      split at h <;> try (cases h; done)
      rename_i hg
      cases h
      simp only [Option.map_some]
      rw [if_pos hg, List.map_drop]
  · rename_i xs
    have e : w.av s (.cel xs) = .cel xs := by cases w <;> rfl
    rw [e]
    simp only [St.cellsAt, Option.some.injEq] at h ⊢
    subst h
    rw [List.map_map]
    exact List.map_congr_left fun p _ => by cases w <;> rfl
  · simp only [St.cellsAt] at h; cases h
theorem ofCells_fwd (w : Way) {t : TypeId} {cs : List (CV C.Θ.T)} {v : AV C.Θ.T} (h : ofCells C.P t cs = some v) : ofCells C.P t (cs.map (w.c s)) = some (w.av s v) := by
  rcases ofCells_ok h with ⟨h1, rfl⟩ | ⟨h1, c, hc, rfl⟩
  · unfold ofCells; rw [h1, way_agg]
  · subst hc
    unfold ofCells; rw [h1, way_c]; rfl
theorem moved_fwd (w : Way) {n : Nat} {x v : AV C.Θ.T} (h : moved n x = some v) : moved n (w.av s x) = some (w.av s v) := by
  cases x with
  | c x =>
    cases x <;> simp only [moved] at h <;> try (cases h; done)
    cases h
    rw [way_c, way_box_c, way_c, way_box_c]
    rfl
  | cel xs => cases w <;> (cases h; rfl)
  | rel r g i sz off => cases w <;> (cases h; rfl)
  | _ => cases h
theorem nat_fwd (w : Way) {o : Oper} (ho : natOp o = true) {t : St C.Θ.T} {ks : List Nat} (ha : ∀ lt x, o.op = .load lt x → addrK (s.ev x) = some ks) (hm : ∀ lt x, o.op = .load lt x → t.cellsAt C.Θ (t.ev x) = (w.on s).cellsAt C.Θ (t.ev x)) (he : ∀ x ∈ o.op.operands.toList, t.ev x = (w.on s).ev x) {s2 : St C.Θ.T} (h : stepD C s o = some s2) :
    ∃ v0, s2 = s.put o.dst v0 ∧ stepD C t o = some (t.put o.dst (w.av s v0)) := by
  obtain ⟨dst, op, ty, pos, aft, grd⟩ := o
  unfold natOp at ho
  simp only at ho he
  split at ho <;> try (cases ho; done)
  · rename_i x
    have h' : some (s.put dst (s.ev x)) = some s2 := h
    cases h'
    exact ⟨s.ev x, rfl, by show some (t.put dst (t.ev x)) = _; rw [he x (by simp [Op.operands]), way_ev]⟩
  · rename_i x
    have h' : some (s.put dst (s.ev x)) = some s2 := h
    cases h'
    exact ⟨s.ev x, rfl, by show some (t.put dst (t.ev x)) = _; rw [he x (by simp [Op.operands]), way_ev]⟩
  · rename_i lt x
    have hst : ∀ t : St C.Θ.T, stepD C t ⟨dst, .load lt x, ty, pos, aft, grd⟩ = match vLoad C.P C.Θ t lt (t.ev x) with
      | some (c, v) => cond c (some (t.put dst v)) none
      | none => none := fun t => by
        show (match (match vLoad C.P C.Θ t lt (t.ev x) with
          | some (c, v) => some (c, t.put dst v)
          | none => none : Option (Bool × St C.Θ.T)) with
          | some (c, s') => cond c (some s') none
          | none => none) = _
        cases vLoad C.P C.Θ t lt (t.ev x) with
        | none => rfl
        | some q => rfl
    rw [hst] at h
    cases hq : vLoad C.P C.Θ s lt (s.ev x) with
    | none => rw [hq] at h; cases h
    | some q =>
    obtain ⟨c, v⟩ := q
    rw [hq] at h
    unfold vLoad at hq
    split at hq <;> try (cases hq; done)
    rename_i n hn
    split at hq <;> try (cases hq; done)
    rename_i cs hcs
    split at hq <;> try (cases hq; done)
    rename_i hle
    cases ho2 : ofCells C.P lt (cs.take n) with
    | none => rw [ho2] at hq; cases hq
    | some v1 =>
    rw [ho2] at hq
    simp only [Option.map_some, Option.some.injEq, Prod.mk.injEq] at hq
    obtain ⟨rfl, rfl⟩ := hq
    simp only [cond_true, Option.some.injEq] at h
    refine ⟨v1, h.symm, ?_⟩
    rw [hst]
    unfold vLoad
    have h1 := hm lt x rfl
    rw [he x (by simp [Op.operands]), way_ev] at h1 ⊢
    rw [h1, cells_fwd w (ha lt x rfl) hcs]
    simp only [hn, List.length_map, if_pos hle]
    rw [← List.map_take, ofCells_fwd w ho2]
    simp only [Option.map_some, cond_true]
  · rename_i ft x f
    have hst : ∀ t : St C.Θ.T, stepD C t ⟨dst, .fieldAddr ft x f, ty, pos, aft, grd⟩ = match vFieldAddr C.P ft f (t.ev x) with
      | some (c, v) => cond c (some (t.put dst v)) none
      | none => none := fun t => by
        show (match (match vFieldAddr C.P ft f (t.ev x) with
          | some (c, v) => some (c, t.put dst v)
          | none => none : Option (Bool × St C.Θ.T)) with
          | some (c, s') => cond c (some s') none
          | none => none) = _
        cases vFieldAddr C.P ft f (t.ev x) with
        | none => rfl
        | some q => rfl
    rw [hst] at h
    cases hq : vFieldAddr C.P ft f (s.ev x) with
    | none => rw [hq] at h; cases h
    | some q =>
    obtain ⟨c, v⟩ := q
    rw [hq] at h
    unfold vFieldAddr at hq
    split at hq <;> try (cases hq; done)
    rename_i off _ _ hf
    cases hmv : moved off (s.ev x) with
    | none => rw [hmv] at hq; cases hq
    | some v1 =>
    rw [hmv] at hq
    simp only [Option.map_some, Option.some.injEq, Prod.mk.injEq] at hq
    obtain ⟨rfl, rfl⟩ := hq
    simp only [cond_true, Option.some.injEq] at h
    refine ⟨v1, h.symm, ?_⟩
    rw [hst, he x (by simp [Op.operands]), way_ev]
    unfold vFieldAddr
    simp only [hf, moved_fwd w hmv, Option.map_some, cond_true]
theorem nat_guard_fwd (w : Way) {o : Oper} (ho : natOp o = true) {t : St C.Θ.T} {ks : List Nat} (ha : ∀ lt x, o.op = .load lt x → addrK (s.ev x) = some ks) (hm : ∀ lt x, o.op = .load lt x → t.cellsAt C.Θ (t.ev x) = (w.on s).cellsAt C.Θ (t.ev x)) (hl : Looks ops (w.on s) t o) {s2 : St C.Θ.T} (h : guardD C ops s o = some s2) :
    ∃ v0, s2 = s.put o.dst v0 ∧ guardD C ops t o = some (t.put o.dst (w.av s v0)) := by
  obtain ⟨dst, op, ty, pos, aft, grd⟩ := o
  cases grd with
  | none => exact nat_fwd w ho ha hm hl.ev h
  | some jw =>
    obtain ⟨j, want⟩ := jw
    unfold guardD at h ⊢
    simp only at h ⊢
    split at h <;> try (cases h; done)
    rename_i d hj
    have hg := hl.g j want d rfl hj
    rw [way_at] at hg
    split at h <;> try (cases h; done)
    · rename_i b hbq
      rw [hg, way_bool w hbq]
      split at h
      · rename_i hbw
        obtain ⟨v0, h1, h2⟩ := nat_fwd w ho ha hm hl.ev h
        refine ⟨v0, h1, ?_⟩
        simp only
        rw [if_pos hbw]
        exact h2
      · rename_i hbw
        cases h
        refine ⟨.skip, rfl, ?_⟩
        simp only
        rw [if_neg hbw, way_skip]
    · rename_i hbq
      rw [hg, hbq, way_skip]
      cases h
      exact ⟨.skip, rfl, by rw [way_skip]⟩
theorem put_mk (t : St C.Θ.T) (d : Option Nat) (v : AV C.Θ.T) (B : List (Nat × BoxS C.Θ.T)) (R : List (Nat × RowS C.Θ.T)) : (St.put ⟨t.slots, B, R⟩ d v : St C.Θ.T) = ⟨(t.put d v).slots, B, R⟩ := by
  cases d <;> rfl
theorem way_two (w : Way) (d k : Option Nat) (v u : AV C.Θ.T) (B : List (Nat × BoxS C.Θ.T)) (R : List (Nat × RowS C.Θ.T)) (h : ∀ i, d = some i → k ≠ some i) :
    (St.put ⟨(w.on (s.put d v)).slots, B, R⟩ k u : St C.Θ.T) = (St.put ⟨(w.on s).slots, B, R⟩ k u).put d (w.av s v) := by
  rw [congrArg St.slots (way_put w d v), ← put_mk, put_comm _ d k _ _ h]
theorem mk_at (t : St C.Θ.T) (B : List (Nat × BoxS C.Θ.T)) (R : List (Nat × RowS C.Θ.T)) (i : Nat) : (⟨t.slots, B, R⟩ : St C.Θ.T).at_ i = t.at_ i := rfl
theorem lendK_alike {o : Oper} {t : St C.Θ.T} (hb : t.boxes = s.boxes) (hr : t.rows = s.rows) (hl : Looks ops s t o) : lendK C t o = lendK C s o := by
  unfold lendK
  split
  · rename_i g c hg hc
    split
    · have hav : c.args.toList.map t.ev = c.args.toList.map s.ev := map_alike _ fun z hz => hl.ev z (by rw [hc]; simp [Op.operands, Call.operands] at hz ⊢; exact .inr hz)
      rw [hav]
      cases h1 : ready (flatE C.Θ) (St.cellsAt C.Θ) C.Γ s g (c.args.toList.map s.ev) with
      | some r =>
        obtain ⟨w, _, _, h2⟩ := ready_two (t := t) h1
        rw [h2 t hb hr]
      | none =>
        cases h2 : ready (flatE C.Θ) (St.cellsAt C.Θ) C.Γ t g (c.args.toList.map s.ev) with
        | none => rfl
        | some r =>
          obtain ⟨w, _, _, h3⟩ := ready_two (t := s) h2
          rw [h3 s hb.symm hr.symm] at h1
          cases h1
    · rfl
  · rename_i ty x y hg hc
    rw [hl.ev x (by rw [hc]; simp [Op.operands])]
  · rfl
theorem swapNW {s2 : St C.Θ.T} {N : List (Option Nat)} {k o : Oper} (hk : noW C k = true) (ho : natOp o = true) (hh : heldW N o = true) (hap : Oper.apart ops k o = true) (h1 : guardD C ops s k = some s1) (h2 : guardD C ops s1 o = some s2)
    {ks : List Nat} (hA : loadK C N s1 o = some ks) (hd : ∀ j ∈ ks, j ∉ lendK C s k) :
    ∃ v0, guardD C ops s o = some (s.put o.dst v0) ∧ guardD C ops (s.put o.dst v0) k = some s2 ∧ loadK C N s o = some ks ∧ lendK C (s.put o.dst v0) k = lendK C s k := by
  obtain ⟨a1, a2, a3⟩ := Oper.apart_spec hap
  obtain ⟨w, u, fB, fR, hf, hall⟩ := callW_all hk h1
  have e1 := hall s rfl rfl ⟨fun _ _ => rfl, fun _ _ _ _ _ => rfl⟩
  rw [h1] at e1
  have e1 := Option.some.inj e1
  have hlk : Looks ops (w.on s) s1 o := by
    rw [e1]
    refine looks_of fun i hi => ?_
    rw [at_put _ k.dst u i fun e => a1 i e hi]
    rfl
  have hev : ∀ x ∈ o.op.operands.toList, s1.ev x = w.av s (s.ev x) := fun x hx => by rw [hlk.ev x hx, way_ev]
  have hcell : ∀ lt x, o.op = .load lt x → s1.cellsAt C.Θ (s1.ev x) = (w.on s).cellsAt C.Θ (s1.ev x) := fun lt x e => by
    refine addr_cells (held_addr hh hA lt x e) fun j hj => ?_
    rw [e1, put_boxes]
    exact hf _ j (hd j hj)
  obtain ⟨v0, g1, g2⟩ := nat_guard w ho hcell hlk h2
  have lk : Looks ops s (s.put o.dst v0) k := looks_of fun i hi => at_put s o.dst v0 i fun e => a3 i e hi
  refine ⟨v0, g1, ?_, by rw [← loadK_alike w hev]; exact hA, lendK_alike (put_boxes _ _ _) (put_rows _ _ _) lk⟩
  rw [hall _ (put_boxes _ _ _) (put_rows _ _ _) lk, g2, e1]
  obtain ⟨m1, m2⟩ := memW (s := s) w (t := s.put o.dst v0) (put_boxes _ _ _) (put_rows _ _ _)
  rw [m1, m2, way_two w _ _ _ _ _ _ fun d hd e => a2 d e hd]
theorem swapWN {s2 : St C.Θ.T} {N : List (Option Nat)} {k o : Oper} (hk : natOp k = true) (hh : heldW N k = true) (ho : noW C o = true) (hap : Oper.apart ops k o = true) (h1 : guardD C ops s k = some s1) (h2 : guardD C ops s1 o = some s2)
    {ks : List Nat} (hA : loadK C N s k = some ks) (hd : ∀ j ∈ ks, j ∉ lendK C s1 o) :
    ∃ (t : St C.Θ.T) (w : Way) (v : AV C.Θ.T), guardD C ops s o = some t ∧ guardD C ops t k = some s2 ∧ s2 = t.put k.dst v ∧ (∀ i, o.dst ≠ some i → t.at_ i = w.av s (s.at_ i)) ∧ loadK C N t k = some ks ∧ lendK C s o = lendK C s1 o := by
  obtain ⟨a1, a2, a3⟩ := Oper.apart_spec hap
  obtain ⟨v0, e1, _⟩ := nat_guard_fwd (ops := ops) (s := s) (t := s) .id hk (held_addr hh hA) (fun _ _ _ => rfl) ⟨fun _ _ => rfl, fun _ _ _ _ _ => rfl⟩ h1
  have hb1 : s.boxes = s1.boxes := by rw [e1, put_boxes]
  have hr1 : s.rows = s1.rows := by rw [e1, put_rows]
  have lk1 : Looks ops s1 s o := looks_of fun i hi => by rw [e1]; exact (at_put s k.dst v0 i fun e => a1 i e hi).symm
  obtain ⟨w, u, fB, fR, hf, hall⟩ := callW_all ho h2
  have e2 := hall s1 rfl rfl ⟨fun _ _ => rfl, fun _ _ _ _ _ => rfl⟩
  rw [h2] at e2
  have e2 := Option.some.inj e2
  have e3 := hall s hb1 hr1 lk1
  obtain ⟨m1, m2⟩ := memW (s := s1) w (t := s) hb1 hr1
  have hlk : Looks ops (w.on s) (St.put ⟨(w.on s).slots, fB (w.on s).boxes, fR (w.on s).rows⟩ o.dst u) k := by
    refine looks_of fun i hi => ?_
    rw [at_put _ o.dst u i fun e => a3 i e hi]
    rfl
  have hev : ∀ x ∈ k.op.operands.toList, (St.put ⟨(w.on s).slots, fB (w.on s).boxes, fR (w.on s).rows⟩ o.dst u : St C.Θ.T).ev x = w.av s (s.ev x) := fun x hx => by rw [hlk.ev x hx, way_ev]
  have hlK := loadK_alike (N := N) (o := k) w hev
  have hcell : ∀ lt x, k.op = .load lt x → (St.put ⟨(w.on s).slots, fB (w.on s).boxes, fR (w.on s).rows⟩ o.dst u : St C.Θ.T).cellsAt C.Θ ((St.put ⟨(w.on s).slots, fB (w.on s).boxes, fR (w.on s).rows⟩ o.dst u : St C.Θ.T).ev x) = (w.on s).cellsAt C.Θ ((St.put ⟨(w.on s).slots, fB (w.on s).boxes, fR (w.on s).rows⟩ o.dst u : St C.Θ.T).ev x) := fun lt x e => by
    refine addr_cells (held_addr hh (by rw [hlK]; exact hA) lt x e) fun j hj => ?_
    rw [put_boxes]
    exact hf _ j (hd j hj)
  obtain ⟨v1, g1, g2⟩ := nat_guard_fwd w hk (held_addr hh hA) hcell hlk h1
  have hput : s2 = (St.put ⟨(w.on s).slots, fB (w.on s).boxes, fR (w.on s).rows⟩ o.dst u : St C.Θ.T).put k.dst (w.av s v1) := by
    rw [e2, g1]
    obtain ⟨m3, m4⟩ := memW (s := s) w (t := s.put k.dst v1) (put_boxes _ _ _) (put_rows _ _ _)
    rw [m3, m4, way_two w _ _ _ _ _ _ a2]
  refine ⟨_, w, _, e3, by rw [g2, hput], hput, fun i hi => ?_, by rw [hlK]; exact hA, lendK_alike hb1 hr1 lk1⟩
  rw [at_put _ o.dst u i hi, mk_at, way_at]
def Clean (l : List Oper) (s : St C.Θ.T) : Prop := ∀ k ∈ l, natP C k = true → ∀ d, k.dst = some d → s.at_ d = .undef
def GoodW (l : List Oper) (s : St C.Θ.T) : Prop := (∃ q ∈ l, (kindOf C q).grow = true) → Tame l s ∧ Clean l s
inductive RunW (C : Cx) (ops : Array Oper) (N : List (Option Nat)) (A B : List Nat) : List Oper → St C.Θ.T → St C.Θ.T → Prop
  | nil (s : St C.Θ.T) : RunW C ops N A B [] s s
  | cons {o : Oper} {rest : List Oper} {s s1 s' : St C.Θ.T} (g : guardD C ops s o = some s1) (hl : ∃ ks, loadK C N s o = some ks ∧ ∀ k ∈ ks, k ∈ A) (hb : exN N o = false → ∀ k ∈ lendK C s o, k ∈ B) (ht : kindOf C o = .no → GoodW rest s1) (hf : callNo C o = true → memD N o.dst = true → noFrz C s o = true) (r : RunW C ops N A B rest s1 s') : RunW C ops N A B (o :: rest) s s'
theorem nat_kind {o : Oper} (hn : natOp o = true) : kindOf C o = .P ∨ kindOf C o = .Q := by
  have hlr : litR C.Θ o = false := by
    unfold natOp at hn
    unfold litR
    split at hn <;> first | (rename_i e; rw [e]) | cases hn
  unfold kindOf
  rw [hlr]
  simp only [Bool.false_eq_true, if_false]
  unfold kindOf0
  by_cases hp : pureOp o.op = true
  · rw [if_pos hp]; exact .inl rfl
  · rw [if_neg hp]
    have hor : pureOp o.op = true ∨ readOp o.op = true := by
      unfold natOp at hn
      split at hn <;> first | (rename_i e; rw [e]; exact .inl rfl) | (rename_i e; rw [e]; exact .inr rfl) | cases hn
    rw [if_pos (hor.resolve_left hp)]
    exact .inr rfl
theorem natP_kind {o : Oper} (hn : natP C o = true) : kindOf C o = .P ∨ kindOf C o = .Q := by
  unfold natP at hn
  rw [Bool.or_eq_true] at hn
  rcases hn with h | h
  · exact nat_kind h
  · cases hk : kindOf C o <;> first | exact .inl rfl | (rw [hk] at h; cases h)
theorem natP_of {o : Oper} (hn : natOp o = true) : natP C o = true := by unfold natP; rw [hn]; rfl
theorem isP_eq {k : Kd} (h : k.isP = true) : k = .P := by cases k <;> first | rfl | cases h
theorem nat_no {o : Oper} (hn : natOp o = true) : kindOf C o ≠ .no := by
  rcases nat_kind (C := C) hn with h | h <;> (rw [h]; intro e; cases e)
theorem nat_grow {o : Oper} (hn : natOp o = true) : (kindOf C o).grow = false := by
  rcases nat_kind (C := C) hn with h | h <;> (rw [h]; rfl)
theorem store_kind {o : Oper} {ty : TypeId} {x y : Operand} (h : o.op = .store ty x y) : kindOf C o = .no := by
  obtain ⟨dst, op, oty, pos, aft, grd⟩ := o
  simp only at h
  subst h
  unfold kindOf
  split
  · rfl
  · cases dst <;> cases grd <;> rfl
theorem lend_nil {o : Oper} (h : kindOf C o ≠ .no) : lendK C s o = [] := by
  unfold lendK
  split
  rotate_left
  · rename_i ty x y hg hc
    exact absurd (store_kind hc) h
  · rfl
  · rw [if_neg]
    intro e
    apply h
    cases hk : kindOf C o <;> first | rfl | (rw [hk] at e; cases e)
theorem step_slots {o : Oper} {L : List Oper} (hn : kindOf C o ≠ .no) (hT : (kindOf C o).grow = true → Tame L s ∧ o ∈ L) (h : guardD C ops s o = some s1) (i : Nat) (hi : o.dst ≠ some i) : s1.at_ i = s.at_ i := by
  obtain ⟨e, e1, _⟩ := step_any (L := L) rfl hn hT h
  rw [e1]
  exact at_put s o.dst e.v i hi
def DApart (a b : Oper) : Prop := ∀ d, a.dst = some d → b.dst ≠ some d
theorem DApart.symm {a b : Oper} (h : DApart a b) : DApart b a := fun d hb ha => h d ha hb
theorem good_step {L L' : List Oper} {o : Oper} (hn : kindOf C o ≠ .no) (hG : GoodW L s) (ho : o ∈ L) (h : guardD C ops s o = some s1) (hs : ∀ q ∈ L', q ∈ L) (ha : ∀ q ∈ L', KApart C o q) (hd : ∀ q ∈ L', DApart o q) : GoodW L' s1 := by
  rintro ⟨q, hq, hg⟩
  obtain ⟨hT, hC⟩ := hG ⟨q, hs q hq, hg⟩
  refine ⟨step_tame hn hT (fun _ => ho) h hs ha, fun k hk hnk d hkd => ?_⟩
  rw [step_slots (L := L) hn (fun _ => ⟨hT, ho⟩) h d fun e => hd k hk d e hkd]
  exact hC k (hs k hk) hnk d hkd
theorem at_undef_refs {t : St C.Θ.T} {d : Option Nat} {v : AV C.Θ.T} (hu : ∀ i, d = some i → t.at_ i = .undef) : (∀ p ∈ refsB C t, p ∈ refsB C (t.put d v)) ∧ ∀ p ∈ refsR C t, p ∈ refsR C (t.put d v) := by
  cases d with
  | none => exact ⟨fun p h => h, fun p h => h⟩
  | some i =>
    have key : ∀ x ∈ t.slots, x = .undef ∨ x ∈ t.slots.set i v := by
      intro x hx
      obtain ⟨j, hj, rfl⟩ := List.getElem_of_mem hx
      by_cases e : i = j
      · subst e
        left
        have := hu i rfl
        simpa [St.at_, List.getD_eq_getElem?_getD, hj] using this
      · right
        refine List.mem_iff_getElem.2 ⟨j, by simpa using hj, ?_⟩
        rw [List.getElem_set_ne e]
    refine ⟨fun p hp => ?_, fun p hp => ?_⟩
    · unfold refsB at hp ⊢
      rcases List.mem_append.1 hp with hp | hp
      · obtain ⟨x, hx, hpx⟩ := List.mem_flatMap.1 hp
        rcases key x hx with rfl | hx
        · cases hpx
        · exact List.mem_append_left _ (List.mem_flatMap.2 ⟨x, hx, hpx⟩)
      · exact List.mem_append_right _ hp
    · unfold refsR at hp ⊢
      rcases List.mem_append.1 hp with hp | hp
      · obtain ⟨x, hx, hpx⟩ := List.mem_flatMap.1 hp
        rcases key x hx with rfl | hx
        · cases hpx
        · exact List.mem_append_left _ (List.mem_flatMap.2 ⟨x, hx, hpx⟩)
      · exact List.mem_append_right _ hp
theorem tame_back {t : St C.Θ.T} {k : Oper} (hk : natP C k = true) {L : List Oper} {v : AV C.Θ.T} (hu : ∀ i, k.dst = some i → t.at_ i = .undef) (h : Tame L (t.put k.dst v)) : Tame (k :: L) t := by
  obtain ⟨rB, rR⟩ := at_undef_refs (v := v) hu
  have nk : bK C k = [] ∧ aK C k = [] ∧ fK C k = [] := by
    unfold bK aK fK
    rcases natP_kind (C := C) hk with h | h <;> (rw [h]; exact ⟨rfl, rfl, rfl⟩)
  refine ⟨fun p hp => ?_, fun p hp => ?_, fun o ho => ?_, fun o ho => ?_⟩
  · have := h.rb p (rB p hp)
    rw [put_boxes] at this
    refine ⟨this.1, fun e o ho => ?_⟩
    rcases List.mem_cons.1 ho with rfl | ho
    · rw [nk.1]; simp
    · exact this.2 e o ho
  · have := h.rr p (rR p hp)
    rw [put_rows] at this
    refine ⟨this.1, fun e o ho => ?_⟩
    rcases List.mem_cons.1 ho with rfl | ho
    · rw [nk.2.1, nk.2.2]; simp
    · exact this.2 e o ho
  · rcases List.mem_cons.1 ho with rfl | ho
    · rw [nk.1]; intro k hk; cases hk
    · have := h.kb o ho; rwa [put_boxes] at this
  · rcases List.mem_cons.1 ho with rfl | ho
    · rw [nk.2.2]; intro k hk; cases hk
    · have := h.kf o ho; rwa [put_rows] at this
theorem callNo_no {o : Oper} (h : callNo C o = true) : callN C o = true ∧ kindOf C o = .no := by
  unfold callNo at h
  rw [Bool.and_eq_true] at h
  refine ⟨h.1, ?_⟩
  have := h.2
  cases hk : kindOf C o <;> first | rfl | (rw [hk] at this; cases this)
theorem callNo_of {o : Oper} (h : kindOf C o ≠ .no) : callNo C o = true → False := fun e => h (callNo_no e).2
theorem noFrz_alike {o : Oper} {t : St C.Θ.T} (hc : callN C o = true) (hl : ∀ x ∈ o.op.operands.toList, t.ev x = s.ev x) (hs : Shown s t (o.op.operands.toList.map s.ev)) : noFrz C t o = noFrz C s o := by
  obtain ⟨dst, op, ty, pos, aft, grd⟩ := o
  unfold callN at hc
  split at hc <;> try (cases hc; done)
  rename_i g hg
  obtain ⟨args, ats, e⟩ := callee_of hg
  have e : op = .call ⟨.value (.func g), args, ats⟩ := e
  subst e
  have hnf : ∀ u : St C.Θ.T, noFrz C u ⟨dst, .call ⟨.value (.func g), args, ats⟩, ty, pos, aft, grd⟩ = (match findSpec (flatE C.Θ) (St.cellsAt C.Θ) C.Γ g u (args.toList.map u.ev) with
    | some hit => hit.y.hs.all notRow
    | none => true) := fun _ => by
    unfold noFrz
    rw [hg]
    rfl
  rw [hnf, hnf]
  have hav : args.toList.map t.ev = args.toList.map s.ev := map_alike _ fun z hz => hl z (by simp [Op.operands, Call.operands] at hz ⊢; exact .inr hz)
  have hsub : ∀ v ∈ args.toList.map s.ev, v ∈ (Op.call ⟨.value (.func g), args, ats⟩).operands.toList.map s.ev := by
    intro v hv
    obtain ⟨z, hz, rfl⟩ := List.mem_map.1 hv
    exact List.mem_map.2 ⟨z, by simp [Op.operands, Call.operands] at hz ⊢; exact .inr hz, rfl⟩
  have hs' : Shown s t (args.toList.map s.ev) := ⟨fun v hv => hs.box v (hsub v hv), fun v hv => hs.cell v (hsub v hv), fun v hv => hs.row v (hsub v hv)⟩
  have hq : ∀ p ∈ C.Γ, p.1 = g → plainIn p.2.hin = true := fun p hp e => by
    have := List.all_eq_true.1 hc p hp
    simp only [e, beq_self_eq_true, Bool.not_true, Bool.false_or, Bool.and_eq_true] at this
    exact this.1
  have : findSpec (flatE C.Θ) (St.cellsAt C.Θ) C.Γ g t (args.toList.map s.ev) = findSpec (flatE C.Θ) (St.cellsAt C.Θ) C.Γ g s (args.toList.map s.ev) := by
    refine find_congr _ fun p hp hg => ?_
    unfold entryOf
    rw [lendAs_congr hs' _ _ _ fun _ h => h]
    rw [ext_plain (hq p hp hg) (B := s.boxes) (R := s.rows) (B' := t.boxes) (R' := t.rows) hs'.row]
  rw [hav, this]
theorem callN_read {o : Oper} (ho : callNo C o = true) (hn : noFrz C s o = true) (h : guardD C ops s o = some s1) :
    ∃ v, s1 = s.put o.dst v ∧ (v.mB = [] ∧ v.mR = []) ∧ ∀ t, Looks ops s t o → Shown s t (o.op.operands.toList.map s.ev) → guardD C ops t o = some (t.put o.dst v) := by
  obtain ⟨hc, hno⟩ := callNo_no ho
  obtain ⟨dst, op, ty, pos, aft, grd⟩ := o
  obtain ⟨g, args, ats, e, hsp⟩ : ∃ g args ats, op = .call ⟨.value (.func g), args, ats⟩ ∧ ∀ p ∈ C.Γ, p.1 = g → plainIn p.2.hin = true ∧ ∀ o ∈ p.2.outs, o.2.boxes = [] ∧ o.2.rows = [] := by
    unfold callN at hc
    split at hc <;> try (cases hc; done)
    rename_i g hg
    obtain ⟨args, ats, e⟩ := callee_of hg
    refine ⟨g, args, ats, e, fun p hp e => ?_⟩
    have := List.all_eq_true.1 hc p hp
    simp only [e, beq_self_eq_true, Bool.not_true, Bool.false_or, Bool.and_eq_true, List.all_eq_true, List.isEmpty_iff] at this
    exact this
  subst e
  have hst : ∀ t : St C.Θ.T, stepD C t ⟨dst, .call ⟨.value (.func g), args, ats⟩, ty, pos, aft, grd⟩ = match ready (flatE C.Θ) (St.cellsAt C.Θ) C.Γ t g (args.toList.map t.ev) with
    | some r => callK (flatE C.Θ) r dst some
    | none => none := by
    intro t
    have : calleeOf C t (.func g) = some (g, [], []) := rfl
    simp only [stepD, stepC, this, List.nil_append, List.append_nil]
    rfl
  have hsub : ∀ v ∈ args.toList.map s.ev, v ∈ (Op.call ⟨.value (.func g), args, ats⟩).operands.toList.map s.ev := by
    intro v hv
    obtain ⟨z, hz, rfl⟩ := List.mem_map.1 hv
    exact List.mem_map.2 ⟨z, by simp [Op.operands, Call.operands] at hz ⊢; exact .inr hz, rfl⟩
  have step : ∀ s1, stepD C s ⟨dst, .call ⟨.value (.func g), args, ats⟩, ty, pos, aft, grd⟩ = some s1 → ∃ v : AV C.Θ.T, s1 = s.put dst v ∧ (v.mB = [] ∧ v.mR = []) ∧ ∀ t : St C.Θ.T, (∀ x ∈ (Op.call ⟨.value (.func g), args, ats⟩).operands.toList, t.ev x = s.ev x) → Shown s t ((Op.call ⟨.value (.func g), args, ats⟩).operands.toList.map s.ev) →
      stepD C t ⟨dst, .call ⟨.value (.func g), args, ats⟩, ty, pos, aft, grd⟩ = some (t.put dst v) := by
    intro s1 h
    rw [hst] at h
    split at h <;> try (cases h; done)
    rename_i r hr
    unfold ready at hr
    split at hr <;> try (cases hr; done)
    rename_i hit hh
    have hm : (g, hit.sp) ∈ C.Γ := find_mem _ _ hh
    have hnr : hit.y.hs.all notRow = true := by
      unfold noFrz at hn
      simp only [calleeC, hh] at hn
      exact hn
    have hf : (flatOuts (flatE C.Θ) hit.sp.outs || hit.y.hs.all notRow) = true := by rw [hnr]; simp
    rw [if_pos hf] at hr
    cases hr
    obtain ⟨z, q, x, hF, hmem, e2, haf, hto⟩ := callK_some h
    obtain ⟨hpl, hou⟩ := hsp _ hm rfl
    have hpl' := hpl
    simp only [plainIn, Bool.and_eq_true, List.isEmpty_iff] at hpl'
    obtain ⟨v, hvn, hv, hz⟩ := quiet_after' (hou q hmem) hpl'.1.1 hpl'.1.2 haf
    refine ⟨v, hz, hvn, fun t ht hs => ?_⟩
    have hav : args.toList.map t.ev = args.toList.map s.ev := map_alike _ fun z hz => ht z (by simp [Op.operands, Call.operands] at hz ⊢; exact .inr hz)
    have hs' : Shown s t (args.toList.map s.ev) := ⟨fun v hv => hs.box v (hsub v hv), fun v hv => hs.cell v (hsub v hv), fun v hv => hs.row v (hsub v hv)⟩
    have hfs : findSpec (flatE C.Θ) (St.cellsAt C.Θ) C.Γ g t (args.toList.map s.ev) = findSpec (flatE C.Θ) (St.cellsAt C.Θ) C.Γ g s (args.toList.map s.ev) := by
      refine find_congr _ fun p hp hg => ?_
      unfold entryOf
      rw [lendAs_congr hs' _ _ _ fun _ h => h]
      rw [ext_plain (hsp p hp hg).1 (B := s.boxes) (R := s.rows) (B' := t.boxes) (R' := t.rows) hs'.row]
    rw [hst, hav]
    unfold ready
    rw [hfs, hh]
    simp only
    rw [if_pos hf]
    have hF' : hit.sp.F hit.y.x = some z := hF
    have hto' : ∀ {B : Type} (g : Ex → Shape → St C.Θ.T → B), outTo hit.sp.outs g z = g q.1 q.2 (q.2.st x) := hto
    simp only [callK, hF', Option.bind_some]
    rw [hto']
    simp only [e2]
    rw [hv t]
  cases grd with
  | none =>
    obtain ⟨v, h1, h2, h3⟩ := step s1 h
    exact ⟨v, h1, h2, fun t hl hs => h3 t hl.ev hs⟩
  | some jw =>
    obtain ⟨j, want⟩ := jw
    unfold guardD at h
    simp only at h
    split at h <;> try (cases h; done)
    rename_i d' hj
    split at h <;> try (cases h; done)
    · rename_i b hb
      split at h
      · rename_i hbw
        obtain ⟨v, h1, h2, h3⟩ := step s1 h
        refine ⟨v, h1, h2, fun t hl hs => ?_⟩
        unfold guardD
        simp only [hj, hl.g j want d' rfl hj, hb, if_pos hbw]
        exact h3 t hl.ev hs
      · rename_i hbw
        cases h
        refine ⟨.skip, rfl, ⟨rfl, rfl⟩, fun t hl hs => ?_⟩
        unfold guardD
        simp only [hj, hl.g j want d' rfl hj, hb, if_neg hbw]
    · rename_i hb
      cases h
      refine ⟨.skip, rfl, ⟨rfl, rfl⟩, fun t hl hs => ?_⟩
      unfold guardD
      simp only [hj, hl.g j want d' rfl hj, hb]
theorem lend_callN {o : Oper} (ho : callN C o = true) : lendK C s o = [] := by
  unfold callN at ho
  unfold lendK
  split at ho <;> try (cases ho; done)
  rename_i g hg
  obtain ⟨args, ats, e⟩ := callee_of hg
  rw [hg, e]
  simp only
  split
  · split
    · rename_i r hr
      have := List.all_eq_true.1 ho _ (ready_ok hr).1
      simp only [beq_self_eq_true, Bool.not_true, Bool.false_or, Bool.and_eq_true, plainIn, List.isEmpty_iff] at this
      rw [this.1.1.1]; rfl
    · rfl
  · rfl
theorem isB_eq {k : Kd} (h : k.isB = true) : k = .B := by cases k <;> first | rfl | cases h
theorem heldX_W {N : List (Option Nat)} {o k : Oper} (h : heldX N o k = true) : heldW N o = true := by
  unfold heldX at h
  unfold heldW
  cases hl : loadOp o with
  | false => rfl
  | true => rw [hl] at h; simp only [Bool.not_true, Bool.false_or, Bool.and_eq_true] at h ⊢; exact h.1
theorem heldX_ex {N : List (Option Nat)} {o k : Oper} (h : heldX N o k = true) {ks : List Nat} (e : loadK C N s o = some ks) {j : Nat} (hj : j ∈ ks) : exN N k = false := by
  unfold heldX at h
  cases hl : loadOp o with
  | false =>
    exfalso
    unfold loadOp at hl
    unfold loadK at e
    split at e
    · rename_i h1; rw [h1] at hl; cases hl
    · cases e; cases hj
  | true => rw [hl] at h; simp only [Bool.not_true, Bool.false_or, Bool.and_eq_true, Bool.not_eq_true'] at h; exact h.2
def PairW (C : Cx) (ops : Array Oper) (N : List (Option Nat)) (k o : Oper) : Prop :=
  ((kindOf C k).comm (kindOf C o) = true ∨ (noW C k = true ∧ natOp o = true ∧ heldX N o k = true) ∨ (natOp k = true ∧ heldX N k o = true ∧ noW C o = true) ∨ (kindOf C k = .P ∧ storeS o = true) ∨ ((callNo C k = true ∧ memD N k.dst = true) ∧ kindOf C o = .B)) ∧ Oper.apart ops k o = true
theorem front4 {N : List (Option Nat)} {A B : List Nat} (hAB : ∀ k ∈ A, k ∉ B) {o : Oper} : ∀ (l1 l2 : List Oper) (s s' : St C.Θ.T), (∀ k ∈ l1, PairW C ops N k o) → (l1 ++ o :: l2).Pairwise (KApart C) → (l1 ++ o :: l2).Pairwise DApart →
    GoodW (l1 ++ o :: l2) s → RunW C ops N A B (l1 ++ o :: l2) s s' → RunW C ops N A B (o :: (l1 ++ l2)) s s' := by
  intro l1
  induction l1 with
  | nil => intro l2 s s' _ _ _ _ h; exact h
  | cons k l1 ih =>
    intro l2 s s' hk hPW hPD hG h
    rw [List.cons_append, List.pairwise_cons] at hPW hPD
    cases h with
    | cons g hl hb ht hfz r =>
    rename_i s1
    obtain ⟨q1, q2⟩ := hk k (by simp)
    obtain ⟨a1, a2, a3⟩ := Oper.apart_spec q2
    have hG1 : GoodW (l1 ++ o :: l2) s1 := by
      by_cases hnk : kindOf C k = .no
      · exact ht hnk
      · exact good_step hnk hG (by simp) g (fun q hq => by simp only [List.cons_append, List.mem_cons]; exact .inr hq) hPW.1 hPD.1
    have hr := ih l2 s1 s' (fun k hk' => hk k (by simp [hk'])) hPW.2 hPD.2 hG1 r
    cases hr with
    | cons g2 hl2 hb2 ht2 hfz2 r2 =>
    rename_i s2
    obtain ⟨ks2, e2, hk2⟩ := hl2
    obtain ⟨ks1, e1, hk1⟩ := hl
    have evOf : ∀ {t t' : St C.Θ.T} {x : Oper}, Looks ops t t' x → ∀ y ∈ x.op.operands.toList, t'.ev y = (Way.id).av t (t.ev y) := fun hl y hy => hl.ev y hy
    have oAp : ∀ q ∈ l1 ++ l2, KApart C o q ∧ DApart o q := fun q hq => by
      obtain ⟨_, p2, p3⟩ := List.pairwise_append.1 hPW.2
      obtain ⟨_, d2, d3⟩ := List.pairwise_append.1 hPD.2
      rcases List.mem_append.1 hq with hq | hq
      · exact ⟨(p3 q hq o (by simp)).symm, (d3 q hq o (by simp)).symm⟩
      · exact ⟨(List.pairwise_cons.1 p2).1 q hq, (List.pairwise_cons.1 d2).1 q hq⟩
    rcases q1 with q1 | ⟨q1, q3, q4⟩ | ⟨q1, q3, q4⟩ | ⟨q1, q3⟩ | ⟨⟨q1, q4⟩, q3⟩
    ·
      have hnk : kindOf C k ≠ .no := fun e => by rw [e] at q1; simp [Kd.comm] at q1
      have hno : kindOf C o ≠ .no := fun e => by rw [e] at q1; cases hx : kindOf C k <;> simp [hx, Kd.comm] at q1
      obtain ⟨t, g3, g4⟩ := swap2 q1 q2 (hPW.1 o (by simp)) (fun hg => by
        simp only [Bool.or_eq_true] at hg
        have hTT : Tame (k :: l1 ++ o :: l2) s := by
          rcases hg with hg | hg
          · exact (hG ⟨k, by simp, hg⟩).1
          · exact (hG ⟨o, by simp, hg⟩).1
        exact hTT.sub fun z hz => by
          simp only [List.mem_cons, List.not_mem_nil, or_false] at hz
          rcases hz with rfl | rfl <;> simp) g g2
      have l1' : Looks ops s s1 o := looks_of fun i hi => step_slots (L := k :: l1 ++ o :: l2) hnk (fun hg => ⟨(hG ⟨k, by simp, hg⟩).1, by simp⟩) g i fun e => a1 i e hi
      have l2' : Looks ops s t k := looks_of fun i hi => step_slots (L := k :: l1 ++ o :: l2) hno (fun hg => ⟨(hG ⟨o, by simp, hg⟩).1, by simp⟩) g3 i fun e => a3 i e hi
      refine .cons g3 ⟨ks2, by rw [← loadK_alike .id (evOf l1')]; exact e2, hk2⟩ (by rw [lend_nil hno]; intro _ k hk; cases hk) (fun e => absurd e hno) (fun e => (callNo_of hno e).elim) ?_
      exact .cons g4 ⟨ks1, by rw [loadK_alike .id (evOf l2')]; exact e1, hk1⟩ (by rw [lend_nil hnk]; intro _ k hk; cases hk) (fun e => absurd e hnk) (fun e => (callNo_of hnk e).elim) r2
    ·
      have hno : kindOf C o ≠ .no := nat_no q3
      obtain ⟨v0, g3, g4, f1, f2⟩ := swapNW q1 q3 (heldX_W q4) q2 g g2 e2 fun j hj hj' => hAB j (hk2 j hj) (hb (heldX_ex q4 e2 hj) j hj')
      have lk : Looks ops s (s.put o.dst v0) k := looks_of fun i hi => at_put s o.dst v0 i fun e => a3 i e hi
      refine .cons g3 ⟨ks2, f1, hk2⟩ (by rw [lend_nil hno]; intro _ k hk; cases hk) (fun e => absurd e hno) (fun e => (callNo_of hno e).elim) ?_
      refine .cons g4 ⟨ks1, by rw [loadK_alike .id (evOf lk)]; exact e1, hk1⟩ (by rw [f2]; exact hb) (fun e => ?_) (fun e e' => by rw [noFrz_alike (callNo_no e).1 lk.ev ⟨fun v _ p _ => by rw [put_boxes], fun v _ p _ B _ c _ q _ => by rw [put_rows], fun v _ p _ => by rw [put_rows]⟩]; exact hfz e e') r2
      exact good_step hno hG1 (by simp) g2 (fun q hq => by rcases List.mem_append.1 hq with h | h <;> simp [h]) (fun q hq => (oAp q hq).1) fun q hq => (oAp q hq).2
    ·
      have hnk : kindOf C k ≠ .no := nat_no q1
      obtain ⟨t, w, v, g3, g4, hput, hat, f1, f2⟩ := swapWN q1 (heldX_W q3) q4 q2 g g2 e1 fun j hj hj' => hAB j (hk1 j hj) (hb2 (heldX_ex q3 e1 hj) j hj')
      have l1' : Looks ops s s1 o := looks_of fun i hi => step_slots (L := k :: l1 ++ o :: l2) hnk (fun hg => ⟨(hG ⟨k, by simp, hg⟩).1, by simp⟩) g i fun e => a1 i e hi
      have hbr : s1.boxes = s.boxes ∧ s1.rows = s.rows := by
        obtain ⟨v0, e3, _⟩ := nat_guard_fwd (ops := ops) (s := s) (t := s) .id q1 (held_addr (heldX_W q3) e1) (fun _ _ _ => rfl) ⟨fun _ _ => rfl, fun _ _ _ _ _ => rfl⟩ g
        exact ⟨by rw [e3, put_boxes], by rw [e3, put_rows]⟩
      refine .cons g3 ⟨ks2, by rw [← loadK_alike .id (evOf l1')]; exact e2, hk2⟩ (by rw [f2]; exact hb2) (fun e => ?_) (fun e e' => by rw [← noFrz_alike (callNo_no e).1 l1'.ev ⟨fun v _ p _ => by rw [hbr.1], fun v _ p _ B _ c _ q _ => by rw [hbr.2], fun v _ p _ => by rw [hbr.2]⟩]; exact hfz2 e e') ?_
      · rintro ⟨q, hq, hg⟩
        have hq' : q ∈ l1 ++ l2 := by
          rcases List.mem_cons.1 hq with h | h
          · subst h; rw [nat_grow q1] at hg; cases hg
          · exact h
        obtain ⟨hT2, hC2⟩ := ht2 e ⟨q, hq', hg⟩
        have hC0 : Clean (k :: l1 ++ o :: l2) s := (hG ⟨q, by rcases List.mem_append.1 hq' with h | h <;> simp [h], hg⟩).2
        have hu : ∀ i, k.dst = some i → t.at_ i = .undef := fun i hi => by
          rw [hat i (a2 i hi), hC0 k (by simp) (natP_of q1) i hi]
          cases w <;> rfl
        refine ⟨tame_back (natP_of q1) hu (by rw [← hput]; exact hT2), fun z hz hnz d hd => ?_⟩
        rcases List.mem_cons.1 hz with rfl | hz
        · exact hu d hd
        · have hkz : DApart k z := hPD.1 z (by rcases List.mem_append.1 hz with h | h <;> simp [h])
          have := hC2 z hz hnz d hd
          rw [hput, at_put t k.dst v d fun e => hkz d e hd] at this
          exact this
      · exact .cons g4 ⟨ks1, f1, hk1⟩ (by rw [lend_nil hnk]; intro _ k hk; cases hk) (fun e => absurd e hnk) (fun e => (callNo_of hnk e).elim) r2
    ·
      have hnk : kindOf C k ≠ .no := fun e => by rw [e] at q1; cases q1
      obtain ⟨_, _, _, hsop, _, hod⟩ := storeS_op q3
      have hkP : natP C k = true := by unfold natP; rw [q1]; simp [Kd.isP]
      obtain ⟨v, e3, _, hal⟩ := read_guard (ops := ops) q1 (.inl rfl) g
      have hb1 : s.boxes = s1.boxes := by rw [e3, put_boxes]
      have hr1 : s.rows = s1.rows := by rw [e3, put_rows]
      have lk1 : Looks ops s1 s o := looks_of fun i hi => by rw [e3]; exact (at_put s k.dst v i fun e => a1 i e hi).symm
      have lk1' : Looks ops s s1 o := looks_of fun i hi => by rw [e3]; exact at_put s k.dst v i fun e => a1 i e hi
      obtain ⟨s1sl, _, hall⟩ := store_all q3 g2
      have g3 := hall s hb1 hr1 lk1
      obtain ⟨t, ht⟩ : ∃ t : St C.Θ.T, t = ⟨s.slots, s2.boxes, s2.rows⟩ := ⟨_, rfl⟩
      rw [← ht] at g3
      have lkt : Looks ops s t k := looks_of fun i hi => by rw [ht]; rfl
      have g4 := hal t lkt trivial
      have hput : s2 = t.put k.dst v := by
        have e4 : s2.slots = (s.put k.dst v).slots := by rw [s1sl, e3]
        have e5 : t.put k.dst v = ⟨(s.put k.dst v).slots, s2.boxes, s2.rows⟩ := by rw [ht]; exact put_mk s k.dst v _ _
        rw [e5, ← e4]
      rw [← hput] at g4
      refine .cons g3 ⟨ks2, by rw [← loadK_alike .id (evOf lk1')]; exact e2, hk2⟩ (by rw [← lendK_alike (t := s1) hb1.symm hr1.symm lk1']; exact hb2) (fun e => ?_) (fun e => by unfold callNo callN calleeC at e; rw [hsop] at e; cases e) ?_
      · rintro ⟨q, hq, hg⟩
        have hq' : q ∈ l1 ++ l2 := by
          rcases List.mem_cons.1 hq with h | h
          · subst h; rw [q1] at hg; cases hg
          · exact h
        obtain ⟨hT2, hC2⟩ := ht2 e ⟨q, hq', hg⟩
        have hC0 : Clean (k :: l1 ++ o :: l2) s := (hG ⟨q, by rcases List.mem_append.1 hq' with h | h <;> simp [h], hg⟩).2
        have hat : ∀ i, t.at_ i = s.at_ i := fun i => by rw [ht]; rfl
        have hu : ∀ i, k.dst = some i → t.at_ i = .undef := fun i hi => by rw [hat i]; exact hC0 k (by simp) hkP i hi
        refine ⟨tame_back hkP hu (by rw [← hput]; exact hT2), fun z hz hnz d hd => ?_⟩
        rcases List.mem_cons.1 hz with rfl | hz
        · exact hu d hd
        · have hkz : DApart k z := hPD.1 z (by rcases List.mem_append.1 hz with h | h <;> simp [h])
          have := hC2 z hz hnz d hd
          rw [hput, at_put t k.dst v d fun e => hkz d e hd] at this
          exact this
      · exact .cons g4 ⟨ks1, by rw [loadK_alike .id (evOf lkt)]; exact e1, hk1⟩ (by rw [lend_nil hnk]; intro _ k hk; cases hk) (fun e => absurd e hnk) (fun e => (callNo_of hnk e).elim) r2
    ·
      obtain ⟨hcn, hnk⟩ := callNo_no q1
      have hno : kindOf C o ≠ .no := by rw [q3]; intro e; cases e
      have hgr : (kindOf C o).grow = true := by rw [q3]; rfl
      obtain ⟨v, e3, _, hal⟩ := callN_read (ops := ops) q1 (hfz q1 q4) g
      have hTs : Tame (k :: l1 ++ o :: l2) s := (hG ⟨o, by simp, hgr⟩).1
      have hTs1 : Tame (l1 ++ o :: l2) s1 := (hG1 ⟨o, by simp, hgr⟩).1
      obtain ⟨e, e4, _, _, eR, _, hoall⟩ := step_any (ops := ops) (L := l1 ++ o :: l2) q3 (by intro e; cases e) (fun _ => ⟨hTs1, by simp⟩) g2
      have lk1 : Looks ops s1 s o := looks_of fun i hi => by rw [e3]; exact (at_put s k.dst v i fun e => a1 i e hi).symm
      have lk1' : Looks ops s s1 o := looks_of fun i hi => by rw [e3]; exact at_put s k.dst v i fun e => a1 i e hi
      have hTl : Tame (l1 ++ o :: l2) s := hTs.sub fun z hz => by simp only [List.cons_append, List.mem_cons]; exact .inr hz
      have g3 := hoall s lk1 hTl
      obtain ⟨e', e5, eK, _, eR', eI, _⟩ := step_any (ops := ops) (L := l1 ++ o :: l2) q3 (by intro e; cases e) (fun _ => ⟨hTl, by simp⟩) g3
      have lkt : Looks ops s (e.on o.dst s) k := looks_of fun i hi => at_put s o.dst e.v i fun e => a3 i e hi
      have hrow : (e.on o.dst s).rows = s.rows := eI.er (by intro e; cases e) (by intro e; cases e)
      have hsh : Shown s (e.on o.dst s) (k.op.operands.toList.map s.ev) := by
        refine ⟨fun w hw p hp => ?_, fun w hw p hp B hB c hc q hq => by rw [hrow], fun w hw p hp => by rw [hrow]⟩
        obtain ⟨x, hx, rfl⟩ := List.mem_map.1 hw
        exact eI.b p ((in_ev x).1 p hp)
      have g4 := hal _ lkt hsh
      have hs2 : (e.on o.dst s).put k.dst v = s2 := by
        rw [e4, e3]
        unfold Eff.on
        rw [put_boxes, put_rows]
        have : (St.put ⟨(s.put o.dst e.v).slots, e.fB s.boxes, e.fR s.rows⟩ k.dst v : St C.Θ.T) = ⟨((s.put o.dst e.v).put k.dst v).slots, e.fB s.boxes, e.fR s.rows⟩ := put_mk (s.put o.dst e.v) k.dst v _ _
        rw [this, put_comm s o.dst k.dst e.v v fun d hd e => a2 d e hd]
      rw [hs2] at g4
      refine .cons g3 ⟨ks2, by rw [← loadK_alike .id (evOf lk1')]; exact e2, hk2⟩ (by rw [lend_nil hno]; intro _ k hk; cases hk) (fun e => absurd e hno) (fun e => (callNo_of hno e).elim) ?_
      refine .cons g4 ⟨ks1, by rw [loadK_alike .id (evOf lkt)]; exact e1, hk1⟩ (by rw [lend_callN hcn]; intro _ k hk; cases hk) (fun _ => ?_) (fun _ _ => by rw [noFrz_alike hcn lkt.ev hsh]; exact hfz q1 q4) r2
      exact good_step hno hG1 (by simp) g2 (fun q hq => by rcases List.mem_append.1 hq with h | h <;> simp [h]) (fun q hq => (oAp q hq).1) fun q hq => (oAp q hq).2
theorem clean_of {l : List Oper} (h : cleanOk C s l = true) : Clean l s := by
  intro k hk hn d hd
  have := List.all_eq_true.1 h k hk
  simp only [hn, Bool.not_true, Bool.false_or, hd] at this
  unfold isUndef at this
  split at this
  · assumption
  · cases this
theorem apartL_of {a b : List Nat} (h : apartL a b = true) : ∀ k ∈ a, k ∉ b := by
  intro k hk hb
  have := List.all_eq_true.1 h k hk
  simp only [Bool.not_eq_true', List.contains_eq_mem, decide_eq_false_iff_not] at this
  exact this hb
theorem goodW_of {o : Oper} {rest : List Oper} (h : tameW C o s rest = true) : kindOf C o = .no → GoodW rest s := by
  intro e
  unfold tameW at h
  rw [e] at h
  simp only [Bool.or_eq_true, Bool.not_eq_true', Bool.and_eq_true] at h
  rintro ⟨q, hq, hg⟩
  rcases h with h | ⟨h1, h2⟩
  · have := List.any_eq_false.1 h q hq
    exact absurd hg this
  · exact ⟨(tame_of h1).2, clean_of h2⟩
theorem opsW_run {R : Type} {N : List (Option Nat)} (ops : Array Oper) : ∀ (l : List Oper) (kn : List (Nat × Bool)) (w : List Nat × List Nat) (s : St C.Θ.T) (K : St C.Θ.T → Option R) (r : R), Known kn s → (∀ k ∈ w.1, k ∉ w.2) → opsW C ops N l kn w s K = some r →
    ∃ (s' : St C.Θ.T) (A B : List Nat), K s' = some r ∧ (∀ k ∈ w.1, k ∈ A) ∧ (∀ k ∈ w.2, k ∈ B) ∧ (∀ k ∈ A, k ∉ B) ∧ RunW C ops N A B l s s' := by
  intro l
  induction l with
  | nil => intro kn w s K r _ hw h; exact ⟨s, w.1, w.2, h, fun _ h => h, fun _ h => h, hw, .nil s⟩
  | cons o rest ih =>
    intro kn w s K r hk hw h
    simp only [opsW] at h
    split at h <;> try (cases h; done)
    rename_i w' hc
    unfold chkW at hc
    split at hc <;> try (cases hc; done)
    rename_i ks hks
    split at hc <;> try (cases hc; done)
    rename_i hap
    cases hc
    simp only [Bool.and_eq_true] at hap
    obtain ⟨hap, hfr⟩ := hap
    have hfr' : callNo C o = true → memD N o.dst = true → noFrz C s o = true := fun h1 h2 => by simpa [h1, h2] using hfr
    have ap1 := apartL_of hap.1
    have ap2 := apartL_of hap.2
    have hw' : ∀ k ∈ ks ++ w.1, k ∉ lendW C N s o ++ w.2 := by
      intro k hkm hkn
      rcases List.mem_append.1 hkm with h1 | h1
      · exact ap1 k h1 hkn
      · rcases List.mem_append.1 hkn with h2 | h2
        · exact ap2 k h2 h1
        · exact hw k h1 h2
    have fin : ∀ {s1 : St C.Θ.T} {kn : List (Nat × Bool)}, guardD C ops s o = some s1 → Known kn s1 → (if tameW C o s1 rest then opsW C ops N rest kn (ks ++ w.1, lendW C N s o ++ w.2) s1 K else none) = some r →
        ∃ (s' : St C.Θ.T) (A B : List Nat), K s' = some r ∧ (∀ k ∈ w.1, k ∈ A) ∧ (∀ k ∈ w.2, k ∈ B) ∧ (∀ k ∈ A, k ∉ B) ∧ RunW C ops N A B (o :: rest) s s' := by
      intro s1 kn g hkn h
      split at h <;> try (cases h; done)
      rename_i ht
      obtain ⟨s', A, B, h1, h2, h3, h4, h5⟩ := ih kn _ s1 K r hkn hw' h
      exact ⟨s', A, B, h1, fun k hk => h2 k (List.mem_append_right _ hk), fun k hk => h3 k (List.mem_append_right _ hk), h4, .cons g ⟨ks, hks, fun k hk => h2 k (List.mem_append_left _ hk)⟩ (fun hx k hk => h3 k (List.mem_append_left _ (by unfold lendW; rw [hx]; exact hk))) (goodW_of ht) hfr' h5⟩
    have run : ∀ kn, Known kn s → (∀ s1, stepD C s o = some s1 → guardD C ops s o = some s1) → (stepC C kn s o fun s' => if tameW C o s' rest then opsW C ops N rest (forget kn o.dst) (ks ++ w.1, lendW C N s o ++ w.2) s' K else none) = some r →
        ∃ (s' : St C.Θ.T) (A B : List Nat), K s' = some r ∧ (∀ k ∈ w.1, k ∈ A) ∧ (∀ k ∈ w.2, k ∈ B) ∧ (∀ k ∈ A, k ∉ B) ∧ RunW C ops N A B (o :: rest) s s' := by
      intro kn hk hg h
      rw [stepC_eq hk] at h
      cases hs : stepD C s o with
      | none => rw [hs] at h; cases h
      | some s1 =>
        rw [hs] at h
        exact fin (hg s1 hs) (known_forget hk o.dst (stepD_slots hs)) h
    have skip : ∀ kn, Known kn s → guardD C ops s o = some (s.put o.dst .skip) → (if tameW C o (s.put o.dst .skip) rest then opsW C ops N rest (forget kn o.dst) (ks ++ w.1, lendW C N s o ++ w.2) (s.put o.dst .skip) K else none) = some r →
        ∃ (s' : St C.Θ.T) (A B : List Nat), K s' = some r ∧ (∀ k ∈ w.1, k ∈ A) ∧ (∀ k ∈ w.2, k ∈ B) ∧ (∀ k ∈ A, k ∉ B) ∧ RunW C ops N A B (o :: rest) s s' :=
      fun kn hk hg h => fin hg (known_forget hk o.dst (fun i b hi hb => by rw [put_slots o.dst _ i hi]; exact hb)) h
    split at h
    · rename_i hgd
      exact run kn hk (fun s1 hs => by unfold guardD; rw [hgd]; exact hs) h
    · rename_i j want hgd
      split at h <;> try (cases h; done)
      rename_i d hj
      split at h
      · rename_i b hb
        have hs := hk d b hb
        split at h
        · rename_i hbw
          exact run kn hk (fun s1 h1 => by unfold guardD; simp only [hgd, hj, hs, if_pos hbw]; exact h1) h
        · rename_i hbw
          exact skip kn hk (by unfold guardD; simp only [hgd, hj, hs, if_neg hbw]) h
      · split at h
        · rename_i b hb
          cases b with
          | true =>
            simp only [cond_true] at h
            cases want with
            | true => simp only [if_true] at h; exact run _ (known_cons hk hb) (fun s1 h1 => by unfold guardD; simp only [hgd, hj, hb, if_true]; exact h1) h
            | false =>
              simp only [Bool.false_eq_true, if_false] at h
              exact skip _ (known_cons hk hb) (by unfold guardD; simp only [hgd, hj, hb]; rfl) h
          | false =>
            simp only [cond_false] at h
            cases want with
            | true => simp only [if_true] at h; exact skip _ (known_cons hk hb) (by unfold guardD; simp only [hgd, hj, hb]; rfl) h
            | false =>
              simp only [Bool.false_eq_true, if_false] at h
              exact run _ (known_cons hk hb) (fun s1 h1 => by unfold guardD; simp only [hgd, hj, hb, if_true]; exact h1) h
        · rename_i hb
          exact skip kn hk (by unfold guardD; simp only [hgd, hj, hb]) h
        · cases h
end
end Go.Den
