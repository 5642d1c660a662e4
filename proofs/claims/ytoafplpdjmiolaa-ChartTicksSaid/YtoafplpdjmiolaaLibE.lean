/- The evaluator of the model's code on typed values, and that it tells the truth: part E. -/
import Derived.Shelf.SlSortCmp.NoneTotal
import Derived.Shelf.Spec.TrailingZeros
import Derived.Shelf.Spec.BitsCarry
import Derived.Shelf.Strings.Repeat
import Derived.Shelf.Strings.Count
import Derived.Test.YtoafplpdjmiolaaLibD
/- The contract of slices.SortFunc at structs, as that of a plain function. -/
namespace Go.Den
open Go Go.RowKit Go.Proofs Go.Shelf Go.Lib Go.Sort

def pvVal {T : TypeId → Type} : PV T → Value
  | .int k n => .int k n
  | .bool b => .bool b
  | .str s => .string s
  | .sl _ _ => undef
def pvFlat {T : TypeId → Type} : PV T → Bool
  | .sl _ _ => false
  | _ => true
section
variable {Θ : Tab} {W : World} {F : Nat → Prop}
theorem rep_pv {u : Value} {p : PV Θ.T} (h : Rep Θ W F u p) (hp : pvFlat p = true) : u = pvVal p := by
  cases h <;> first | rfl | (simp [pvFlat] at hp)
theorem pv_rep {p : PV Θ.T} (hp : pvFlat p = true) : Rep Θ W F (pvVal p) p := by
  cases p <;> first | constructor | (simp [pvFlat] at hp)
theorem pv_one {p : PV Θ.T} (hp : pvFlat p = true) : (pvVal p).oneCell' = true := by
  cases p <;> first | rfl | (simp [pvFlat] at hp)
theorem flat_list {T : TypeId → Type} : ∀ (ls : List Leaf) (x : HT (Leaf.Ty T) ls), ls.all Leaf.flat = true → ∀ p ∈ HT.list Leaf.mk ls x, pvFlat p = true
  | [], _, _, p, hp => by simp [HT.list] at hp
  | [l], x, h, p, hp => by
    simp only [HT.list, List.mem_singleton] at hp
    subst hp
    cases l <;> first | rfl | (simp [Leaf.flat] at h)
  | a :: b :: r, x, h, p, hp => by
    simp only [List.all_cons, Bool.and_eq_true] at h
    simp only [HT.list, List.mem_cons] at hp
    rcases hp with rfl | hp
    · cases a <;> first | rfl | (simp [Leaf.flat] at h)
    · exact flat_list (b :: r) x.2 (by simpa using h.2) p hp
theorem flat_enc {e : TypeId} (h : (Θ.E e).leaves.all Leaf.flat = true) (x : Θ.T e) : ∀ p ∈ Θ.enc e x, pvFlat p = true := flat_list _ _ h
/-- An element's cells. -/
def encV (Θ : Tab) (e : TypeId) (x : Θ.T e) : List Value := (Θ.enc e x).map pvVal
theorem encV_len (e : TypeId) (x : Θ.T e) : (encV Θ e x).length = Θ.sz e := by simp [encV, Θ.length_enc]
theorem flat_us {ps : List (PV Θ.T)} {us : List Value} (hf : ∀ p ∈ ps, pvFlat p = true) (h : All2 (fun x u => Rep Θ W F u x) ps us) : us = ps.map pvVal := by
  induction h with
  | nil => rfl
  | cons h t ih => rw [List.map_cons, rep_pv h (hf _ (by simp)), ih fun p hp => hf p (by simp [hp])]
theorem us_flat {ps : List (PV Θ.T)} (hf : ∀ p ∈ ps, pvFlat p = true) : All2 (fun x u => Rep Θ W F u x) ps (ps.map pvVal) := by
  induction ps with
  | nil => exact .nil
  | cons p ps ih => exact .cons (pv_rep (hf p (by simp))) (ih fun q hq => hf q (by simp [hq]))
end
/-- A row's cells, one by one. -/
theorem flat_get {α : Type} (enc : α → List Value) (k : Nat) (hk0 : 0 < k) (hk : ∀ x, (enc x).length = k) : ∀ (l : List α) (t : Nat), (l.flatMap enc)[t]? = (l[t / k]?).bind fun x => (enc x)[t % k]? := by
  intro l
  induction l with
  | nil => intro t; simp
  | cons a l ih =>
    intro t
    rw [List.flatMap_cons, List.getElem?_append, hk]
    by_cases h : t < k
    · rw [if_pos h, Nat.div_eq_of_lt h, Nat.mod_eq_of_lt h]; simp
    · rw [if_neg h, ih]
      have e1 : t / k = (t - k) / k + 1 := by rw [Nat.div_eq_sub_div hk0 (by omega)]
      have e2 : t % k = (t - k) % k := Nat.mod_eq_sub_mod (by omega)
      rw [e1, e2]; simp
theorem flat_len {α : Type} (enc : α → List Value) (k : Nat) (hk : ∀ x, (enc x).length = k) (l : List α) : (l.flatMap enc).length = l.length * k := by
  induction l with
  | nil => simp
  | cons a l ih => rw [List.flatMap_cons, List.length_append, ih, hk, List.length_cons, Nat.add_mul]; omega
theorem flatK_eq {α : Type} [Inhabited α] (enc : α → List Value) (k : Nat) (hk0 : 0 < k) (hk : ∀ x, (enc x).length = k) (d : Array α) : flatK enc k d = (d.toList.flatMap enc).toArray := by
  refine ext_get! (by simp only [size_flatK, List.size_toArray]; rw [flat_len enc k hk]; simp) fun t ht => ?_
  rw [size_flatK] at ht
  rw [get_flatK _ _ _ _ ht]
  have hlt : t / k < d.size := (Nat.div_lt_iff_lt_mul hk0).2 ht
  have h := flat_get enc k hk0 hk d.toList t
  have e1 : d.toList[t / k]? = some d[t / k]! := by rw [getElem!_pos d _ hlt]; simp [hlt]
  rw [e1] at h
  have hm : t % k < (enc d[t / k]!).length := by rw [hk]; exact Nat.mod_lt _ hk0
  simp only [Option.bind_some] at h
  rw [List.getElem?_eq_getElem hm] at h
  rw [getElem!_pos (enc d[t / k]!) (t % k) hm]
  have hs : t < (d.toList.flatMap enc).toArray.size := by rw [List.size_toArray, flat_len enc k hk]; simpa using ht
  rw [getElem!_pos (d.toList.flatMap enc).toArray t hs]
  have h2 : (d.toList.flatMap enc)[t]? = some ((d.toList.flatMap enc)[t]'(by simpa using hs)) := List.getElem?_eq_getElem _
  rw [h2] at h
  injection h with h
  rw [← h]; simp

/-- Sorted as Go's sort does it. -/
def sortL {α : Type} (d : α) (cf : α → α → Int) (x : List α) : List α :=
  letI : Inhabited α := ⟨d⟩
  (pdq (ltOf cf) x.toArray 0 x.length (Lib.bitLen x.length) true true).toList
section
variable {α : Type} (d : α) (cf : α → α → Int) (hO : SWO (ltOf cf)) (x : List α)
include hO
theorem sortL_spec : (sortL d cf x).Perm x ∧ ∀ i j (hi : i < j) (hj : j < (sortL d cf x).length), 0 ≤ cf ((sortL d cf x)[j]) ((sortL d cf x)[i]) := by
  letI : Inhabited α := ⟨d⟩
  have h := pdq_sorts (ltOf cf) hO x.toArray 0 x.length (Lib.bitLen x.length) true true (Nat.zero_le _) (by simp) (Or.inl rfl)
  have e : sortL d cf x = (pdq (ltOf cf) x.toArray 0 x.length (Lib.bitLen x.length) true true).toList := rfl
  generalize pdq (ltOf cf) x.toArray 0 x.length (Lib.bitLen x.length) true true = z at h e
  obtain ⟨⟨h1, h2, h3⟩, h4⟩ := h
  have hs : z.size = x.length := by simpa using h1
  have key : ∀ q : List α, q = z.toList → q.Perm x ∧ ∀ i j (hi : i < j) (hj : j < q.length), 0 ≤ cf (q[j]) (q[i]) := by
    rintro q rfl
    refine ⟨?_, fun i j hij hj => ?_⟩
    · have ez : z.extract 0 x.length = z := by rw [← hs]; simp
      have ex : x.toArray.extract 0 x.length = x.toArray := by
        have : x.length = x.toArray.size := by simp
        rw [this]; simp
      rw [ez, ex] at h3
      simpa using h3
    · have hj' : j < z.size := by simpa using hj
      have := h4 i j (Nat.zero_le _) hij (by omega)
      rw [getElem!_pos z j hj', getElem!_pos z i (by omega)] at this
      simp only [ltOf, decide_eq_false_iff_not] at this
      simp only [Array.getElem_toList]
      omega
  exact key _ e
end
theorem sortL_len {α : Type} (d : α) (cf : α → α → Int) (hO : SWO (ltOf cf)) (x : List α) : (sortL d cf x).length = x.length := (sortL_spec d cf hO x).1.length_eq

def sortIn (e g : Nat) : Shape := ⟨[.c (.row pin), .c (.fn g [])], [], [(pin, e)]⟩
def sortOut (e : Nat) : Shape := ⟨[], [], [(pin, e)]⟩
/-- What slices.SortFunc leaves. -/
def sortF {α : Type} (d : α) (cf : α → α → Int) (x : List α) : Option (List α) := if x.length < 4611686018427387904 then some (sortL d cf x) else none
theorem sort_calls {P : Program} {ρ : Ren} {Θ : Tab} (L : SlLaysF0.n6 P ρ) (e k : Nat) (hk0 : 0 < k) (hk1 : k ≠ 1) (hsl : slE e = true) (hsz : Θ.sz e = k) (hfl : (Θ.E e).leaves.all Leaf.flat = true) (aE : ∀ w, (isAgg (ρ.t 24)).run P w = .ok true w) (zE : ∀ w, (Go.sizeOf (ρ.t 24)).run P w = .ok k w)
    (cf : Θ.T e → Θ.T e → Int) (hO : SWO (ltOf cf)) (g : Nat) (eg : ∀ args w, (callFunc g args).run P w = .ok (.enter g args) w) (ef : Enters P (ρ.f 6))
    (hcmp : ∀ blk off size w, letI : Inhabited (Θ.T e) := ⟨(Θ.E e).dft⟩; CmpLays P g #[] (encV Θ e) k cf blk off size w) : PCalls P Θ (ρ.f 6) ⟨sortIn e g, [(.ret, sortOut e)], fun x => sortF (Θ.E e).dft cf x⟩ := by
  refine ⟨ef, rfl, ?_⟩
  intro (x : List (Θ.T e)) (z : List (Θ.T e)) hx E vs bx rw_ hD hS
  letI hInh : Inhabited (Θ.T e) := ⟨(Θ.E e).dft⟩
  have hx' : sortF (Θ.E e).dft cf x = some z := hx
  have hlo : ∀ y : List (Θ.T e), listOf (T := Θ.T) e (.sl e y) = y := fun y => by simp [listOf]
  have hst : (sortIn e g).st x = ⟨[.c (.row pin 0), .c (.fn g [])], [], [(pin, ⟨0, e, x⟩)]⟩ := by
    show (⟨[.c (.row pin 0), .c (.fn g [])], [], [(pin, ⟨0, e, listOf (T := Θ.T) e (.sl e x)⟩)]⟩ : St Θ.T) = _
    rw [hlo]
  have hst2 : ∀ y : List (Θ.T e), (sortOut e).st y = ⟨[], [], [(pin, ⟨0, e, y⟩)]⟩ := fun y => by
    show (⟨[], [], [(pin, ⟨0, e, listOf (T := Θ.T) e (.sl e y)⟩)]⟩ : St Θ.T) = _
    rw [hlo]
  simp only at hS ⊢
  rw [hst] at hS
  have hlen := hS.len
  obtain ⟨v0, v1, rfl⟩ : ∃ v0 v1, vs = [v0, v1] := by
    cases vs with
    | nil => simp at hlen
    | cons a l => cases l with
      | nil => simp at hlen
      | cons b l => cases l with
        | nil => exact ⟨a, b, rfl⟩
        | cons c l => simp at hlen
  have h0 : v0 = rw_ pin 0 := hS.slots 0
  have h1 : v1 = .func (.func g) #[] #[] := hS.slots 1
  obtain ⟨r1, us, r2, r3⟩ := hS.rows pin ⟨0, e, x⟩ (by simp [look])
  have hflat : ∀ y : List (Θ.T e), ∀ p ∈ y.flatMap (Θ.enc e), pvFlat p = true := fun y p hp => by
    rw [List.mem_flatMap] at hp
    obtain ⟨q, _, hq⟩ := hp
    exact flat_enc hfl q p hq
  have hus := flat_us (hflat x) r3
  have hmap : ∀ y : List (Θ.T e), (y.flatMap (Θ.enc e)).map pvVal = y.flatMap (encV Θ e) := fun y => by rw [List.map_flatMap]; rfl
  rw [hmap] at hus
  subst hus
  simp only at r1 r2
  rw [← h0] at r1 r2
  rw [hsz] at r2
  have r20 := r2
  replace r2 := r2.s hsl
  have hencl : ∀ q, (encV Θ e q).length = k := fun q => by rw [encV_len, hsz]
  unfold sortF at hx'
  split at hx' <;> try (cases hx'; done)
  rename_i hlt
  injection hx' with hz
  have hzl : z.length = x.length := by rw [← hz]; exact sortL_len _ _ hO x
  -- what is to be shown of the world behind
  have fin : ∀ w' : World, Keeps E w' → (∀ b, ob v0 = some b → b < w'.heap.size) → (∀ b, b < E.w0.heap.size → ob v0 ≠ some b → w'.heap[b]? = E.w0.heap[b]?) → OwnsS w' e k v0 z.length (z.flatMap (encV Θ e)) →
      Post Θ E [(.ret, sortOut e)] z (.returned (.tuple #[])) w' := by
    intro w' hK hlt' hbl hO'
    show Ex.ret = Ex.ret ∧ _
    refine ⟨rfl, [], bx, rw_, rfl, ?_⟩
    rw [hst2]
    refine ⟨hK, hS.glob, fun k b h => ⟨(hS.pinB k b h).1, fun B hB => by simp [look] at hB⟩, fun r v h => ⟨(hS.pinR r v h).1, fun R hR hg => ?_⟩, hS.rwsl, fun k B hB => by simp [look] at hB, fun r R hR => ?_, fun k B k' B' hB => by simp [look] at hB, ?_, fun k B r R hB => by simp [look] at hB, rfl, fun i => ?_⟩
    · simp only [look] at hR
      split at hR
      · rename_i hr; subst hr; exact (hS.pinR _ v h).2 ⟨0, e, x⟩ (by simp [look]) rfl
      · cases hR
    · simp only [look] at hR
      split at hR <;> try (cases hR; done)
      rename_i hr
      subst hr
      injection hR with hR
      subst hR
      simp only
      rw [← h0, hsz]
      refine ⟨r1, _, .inl ⟨hsl, hO'⟩, ?_⟩
      rw [← hmap]
      exact us_flat (hflat z)
    · intro r R r' R' b hR hR' hb hb'
      simp only [look] at hR hR'
      split at hR <;> try (cases hR; done)
      split at hR' <;> try (cases hR'; done)
      rename_i e1 e2
      rw [← e1, ← e2]
    · simp [St.at_, RAV]
  rw [h1]
  by_cases hne : x = []
  · subst hne
    have hz0 : z = [] := List.eq_nil_of_length_eq_zero hzl
    subst hz0
    obtain ⟨A, m, c, hv⟩ := r2.slice
    have hm : m = 0 := by
      rcases r2 with h | ⟨ad, h, _, _⟩ | h
      · rcases h.2 with ⟨h, _⟩ | ⟨g', cap, cur, h, _⟩
        · rw [hv] at h; cases h; rfl
        · rw [hv] at h; cases h; rfl
      · rw [hv] at h; cases h; rfl
      · exact absurd h.1.2.2.1 hk1
    subst hm
    have hc := AnyF.slices_SortFunc_none L A c (.func (.func g) #[] #[]) E.w0
    rw [← hv] at hc
    refine hc.mono fun en w' ⟨he, hw⟩ => ?_
    subst he hw
    exact fin _ hS.below (fun b hb => r20.lt hb) (fun b _ _ => rfl) (by simpa using r2)
  · have hpos : 0 < x.length := List.length_pos_iff.2 hne
    have hw : E.w0.ownsRow 0 e k v0 x.length (x.flatMap (encV Θ e)) := by
      rcases r2 with hw | ⟨ad, _, h, _⟩ | h
      · exact hw
      · simp at h; exact absurd h hne
      · exact absurd h.1.2.2.1 hk1
    rcases hw.2 with ⟨_, h⟩ | ⟨b, cap, cur, hv, _, hb, hnc, hcm, hcs, htk⟩
    · simp at h; exact absurd h hne
    have hob : ob v0 = some b := by rw [hv]; simp only [ob]; rw [if_neg (by omega)]
    have hblt : b < E.w0.heap.size := by
      rcases Nat.lt_or_ge b E.w0.heap.size with h | h
      · exact h
      · rw [Array.getElem?_eq_none h] at hb; cases hb
    have hx0 : x.toArray.size = x.length := by simp
    have hfK : ∀ y : List (Θ.T e), flatK (encV Θ e) k y.toArray = (y.flatMap (encV Θ e)).toArray := fun y => flatK_eq _ k hk0 hencl _
    have hH : HoldsK (encV Θ e) k E.w0 b 0 x.toArray := by
      intro j hj
      rw [hfK] at hj ⊢
      have hj' : j < (x.flatMap (encV Θ e)).length := by simpa using hj
      have hj2 : j < x.length * k := by rwa [flat_len _ k hencl] at hj'
      have hcj : cur[j]? = some ((x.flatMap (encV Θ e)).toArray[j]!) := by
        rw [getElem!_pos (x.flatMap (encV Θ e)).toArray j hj]
        have : (cur.toList.take (x.length * k))[j]? = (x.flatMap (encV Θ e))[j]? := by rw [htk]
        rw [List.getElem?_take_of_lt hj2] at this
        rw [List.getElem?_eq_getElem hj'] at this
        simpa using this
      constructor
      · simp only [World.cell?, hb]
        simpa using hcj
      · simp [World.frozen?, hb]
    have hc := AnyQ.slices_SortFunc_eq L k aE zE (encV Θ e) hencl (fun q v hv => by
      simp only [encV, List.mem_map] at hv
      obtain ⟨p, hp, rfl⟩ := hv
      exact pv_one (flat_enc hfl q p hp)) cf hO g #[] b 0 cap x.toArray E.w0 eg (hcmp _ _ _ _) hH hblt (by simpa using hlt)
    rw [hx0, ← hv] at hc
    refine hc.mono fun en w' ⟨he, n, os, hw⟩ => ?_
    subst he
    have ez : pdq (ltOf cf) x.toArray 0 x.length (Lib.bitLen x.length) true true = z.toArray := by
      rw [← hz]; unfold sortL; simp
    rw [ez] at hw
    have hsize : w'.heap.size = E.w0.heap.size + os.size := by
      rw [hw]; unfold sortWorldK; rw [size_grow, size_putRowK]; rfl
    have hother : ∀ c, c < E.w0.heap.size → c ≠ b → w'.heap[c]? = E.w0.heap[c]? := by
      intro c hc hcb
      rw [hw]
      unfold sortWorldK
      rw [heap_grow_old _ _ (by rw [size_putRowK]; exact hc)]
      unfold putRowK putRow mapBlock Sort.ahead
      simp [Array.getElem?_modify, Ne.symm hcb]
    have hblock : w'.heap[b]? = some (.cells (putCells id 0 (flatK (encV Θ e) k z.toArray) cur) e (0, 0)) := by
      rw [hw]
      unfold sortWorldK
      rw [heap_grow_old _ _ (by rw [size_putRowK]; exact hblt)]
      unfold putRowK putRow mapBlock Sort.ahead
      simp [Array.getElem?_modify, hb, onCells]
    refine fin w' ⟨?_, ?_, ?_, ?_, ?_⟩ (fun c hc => ?_) (fun c hc hcb => hother c hc fun ee => hcb (by rw [ee]; exact hob)) (.inl ⟨flat_len _ k hencl _, .inr ⟨b, cap, _, ?_, Nat.zero_le _, hblock, by rw [hzl]; exact hnc, hcm, ?_, ?_⟩⟩)
    · rw [hw]; exact hS.below.os
    · rw [hw]; exact hS.below.tape
    · rw [hw]; exact hS.below.output
    · omega
    · intro c hc hcz
      refine hother c hc fun ee => hcz ?_
      subst ee
      rcases r1 c hob with h | h
      · exact h
      · omega
    · rw [hob] at hc; cases hc; omega
    · rw [hv, hzl]
    · simp [putCells, hcs]
    · rw [hfK]
      apply List.ext_getElem?
      intro t
      by_cases ht : t < z.length * k
      · rw [List.getElem?_take_of_lt ht]
        have hle : z.length * k ≤ cur.size := by rw [hcs, hzl]; exact Nat.mul_le_mul_right _ hnc
        have hfl' : (z.flatMap (encV Θ e)).length = z.length * k := flat_len _ k hencl _
        have ht2 : t < (z.flatMap (encV Θ e)).length := by omega
        simp only [putCells, Array.toList_mapIdx, List.getElem?_mapIdx, Array.getElem?_toList]
        rw [Array.getElem?_eq_getElem (by omega), List.getElem?_eq_getElem ht2]
        simp only [Option.map_some, id_eq, Nat.zero_le, true_and, Nat.zero_add, Nat.sub_zero, List.size_toArray]
        rw [if_pos ht2, getElem!_pos (z.flatMap (encV Θ e)).toArray t (by rw [List.size_toArray]; exact ht2)]
        simp
      · rw [List.getElem?_eq_none (by simp; omega), List.getElem?_eq_none (by rw [flat_len _ k hencl]; omega)]
end Go.Den
/- Contracts of functions that only reckon: the end of their calls. -/
namespace Go.Den
open Go Go.RowKit
section
variable {P : Program} {Θ : Tab} {E : Env} {s : St Θ.T} {tm : Array Value} {bx : Nat → Nat → Nat} {rw_ : Nat → Nat → Value}
/-- What is handed back where nothing was lent, and nothing holds an address. -/
theorem flat_end (hS : Sim Θ E s tm E.w0 bx rw_) {W : World} (hK : Keeps E W) {avs : List (AV Θ.T)} {us : List Value} (h : ∀ F : Nat → Prop, All2 (RAV Θ W F bx rw_) avs us) : Sim Θ E ⟨avs, [], []⟩ us.toArray W bx rw_ := by
  have h2 := h (FF E (⟨avs, [], []⟩ : St Θ.T) bx rw_ W)
  refine ⟨hK, hS.glob, fun k b hkb => ⟨(hS.pinB k b hkb).1, fun B hB => by cases hB⟩, fun r v hrv => ⟨(hS.pinR r v hrv).1, fun R hR => by cases hR⟩, hS.rwsl, fun k B hB => (by cases hB), fun r R hR => (by cases hR), fun k B k' B' hB => (by cases hB), fun r R r' R' b hR => (by cases hR), fun k B r R hB => (by cases hB), by simp [h2.length], fun i => ?_⟩
  simp only [St.at_, List.getD_eq_getElem?_getD, Array.getD_eq_getD_getElem?, List.getElem?_toArray]
  cases hi : avs[i]? with
  | none => exact trivial
  | some v =>
    obtain ⟨u, hu, hr⟩ := h2.get i hi
    simp only [hu, Option.getD_some]
    exact hr
theorem keeps_refl (hS : Sim Θ E s tm E.w0 bx rw_) : Keeps E E.w0 := ⟨rfl, rfl, rfl, Nat.le_refl _, fun _ _ _ => rfl⟩
theorem keeps_below {W : World} (h : Below E.w0.heap.size E.w0 W) : Keeps E W := ⟨h.os, h.tape, h.output, h.size, fun k hk _ => h.block k hk⟩
/-! ### math/bits.TrailingZeros64 -/
def tzIn : Shape := ⟨[.c (.hole (.int .u64))], [], []⟩
def tzOut : Shape := ⟨[.c (.hole (.int .i64))], [], []⟩
/-- How often a number of 64 bits may be halved. -/
def ctzF (x : Int) : Option Int := if 0 ≤ x ∧ x < 18446744073709551616 then some (Lib.ctz 64 x.toNat : Int) else none
theorem tz_calls {ρ : Go.Shelf.Ren} (L : Go.Proofs.Lays7.n29 P ρ) (hen : Go.Proofs.Enters P (ρ.f 29)) (hG : (ρ.g 1, Lib.deBruijn64tab.map fun (n : Nat) => Value.int .u8 (n : Int)) ∈ Θ.G) : PCalls P Θ (ρ.f 29) ⟨tzIn, [(.ret, tzOut)], ctzF⟩ := by
  refine ⟨hen, rfl, ?_⟩
  intro x z hx E vs bx rw_ hED hS
  have hlen : vs.length = 1 := by have := hS.len; simpa [tzIn, Shape.st, Shape.mk', fillAs] using this.symm
  obtain ⟨v0, rfl⟩ : ∃ v0, vs = [v0] := List.length_eq_one_iff.1 hlen
  have h0 : v0 = .int .u64 x := by
    have h1 : RAV Θ E.w0 (FF E (tzIn.st x) bx rw_ E.w0) bx rw_ (.c (.v (.int .u64 x))) v0 := hS.slots 0
    exact rav_int h1
  subst h0
  unfold ctzF at hx
  simp only at hx
  split at hx <;> try (cases hx; done)
  rename_i hr
  obtain ⟨n, hn⟩ : ∃ n : Nat, x = (n : Int) := Int.eq_ofNat_of_zero_le hr.1
  subst hn
  have hz : z = (Lib.ctz 64 n : Int) := (Option.some.inj hx).symm.trans (by rw [Int.toNat_natCast])
  obtain ⟨_, _, hcell⟩ := hS.glob _ hG
  have hT : Go.Proofs.TabAt (ρ.g 1) Lib.deBruijn64tab E.w0 := fun j hj => hcell j _ (by rw [List.getElem?_map, List.getElem?_eq_getElem hj]; simp [List.getD_eq_getElem?_getD, List.getElem?_eq_getElem hj])
  refine Calls.mono (Go.Proofs.Any7.bits_TrailingZeros64 L n (by omega) E.w0 fun _ => hT) ?_
  rintro e w' ⟨rfl, rfl⟩
  show Ex.ret = Ex.ret ∧ _
  refine ⟨rfl, [.int .i64 (Lib.ctz 64 n)], bx, rw_, rfl, ?_⟩
  have : (tzOut.st z : St Θ.T) = ⟨[.c (.v (.int .i64 z))], [], []⟩ := rfl
  rw [this, hz]
  exact flat_end hS (keeps_refl hS) fun F => .cons (.int _ _) .nil
/-! ### The number of an error that is nil -/
def numIn : Shape := ⟨[.c .ni], [], []⟩
def numOut : Shape := ⟨[.c (.hole (.int .i64))], [], []⟩
theorem num_calls {g : FuncId} (hen : Go.Proofs.Enters P g) (h : ∀ W, Calls P g #[.nilIface] W fun e w' => e = .returned (.int .i64 0) ∧ Below W.heap.size W w') : PCalls P Θ g ⟨numIn, [(.ret, numOut)], fun _ => some (0 : Int)⟩ := by
  refine ⟨hen, rfl, ?_⟩
  intro x z hx E vs bx rw_ hED hS
  have hlen : vs.length = 1 := by have := hS.len; simpa [numIn, Shape.st, Shape.mk', fillAs] using this.symm
  obtain ⟨v0, rfl⟩ : ∃ v0, vs = [v0] := List.length_eq_one_iff.1 hlen
  have h0 : v0 = .nilIface := hS.slots 0
  subst h0
  have hz : z = (0 : Int) := (Option.some.inj hx).symm
  refine Calls.mono (h E.w0) ?_
  rintro e w' ⟨rfl, hb⟩
  show Ex.ret = Ex.ret ∧ _
  refine ⟨rfl, [.int .i64 0], bx, rw_, rfl, ?_⟩
  have : (numOut.st z : St Θ.T) = ⟨[.c (.v (.int .i64 z))], [], []⟩ := rfl
  rw [this, hz]
  exact flat_end hS (keeps_below hb) fun F => .cons (.int _ _) .nil
/-! ### The difference of two numbers of 128 bits -/
def w128In : Shape := ⟨[.agg [.hole (.int .u64), .hole (.int .u64)], .agg [.hole (.int .u64), .hole (.int .u64)]], [], []⟩
def w128Out : Shape := ⟨[.agg [.hole (.int .u64), .hole (.int .u64)]], [], []⟩
def u64ok (x : Int) : Bool := decide (0 ≤ x) && decide (x < 18446744073709551616)
/-- Of the upper half, and of the lower one. -/
def subHi (ah al bh bl : Int) : Int := (ah - bh - (if al < bl then 1 else 0)) % 18446744073709551616
def subLo (al bl : Int) : Int := (al - bl) % 18446744073709551616
def minusF (x : Int × Int × Int × Int) : Option (Int × Int) := if u64ok x.1 && (u64ok x.2.1 && (u64ok x.2.2.1 && u64ok x.2.2.2)) then some (subHi x.1 x.2.1 x.2.2.1 x.2.2.2, subLo x.2.1 x.2.2.2) else none
theorem minus_calls {g : FuncId} (hen : Go.Proofs.Enters P g)
    (h : ∀ (a b c d : Nat) (W : World), a < 18446744073709551616 → b < 18446744073709551616 → c < 18446744073709551616 → d < 18446744073709551616 → Calls P g #[.agg #[.int .u64 a, .int .u64 b], .agg #[.int .u64 c, .int .u64 d]] W fun e w' =>
      e = .returned (.agg #[.int .u64 (subHi a b c d), .int .u64 (subLo b d)]) ∧ Below W.heap.size W w') : PCalls P Θ g ⟨w128In, [(.ret, w128Out)], minusF⟩ := by
  refine ⟨hen, rfl, ?_⟩
  intro x z hx E vs bx rw_ hED hS
  have hlen : vs.length = 2 := by have := hS.len; simpa [w128In, Shape.st, Shape.mk', fillAs] using this.symm
  obtain ⟨v0, v1, rfl⟩ : ∃ v0 v1, vs = [v0, v1] := by
    match vs, hlen with
    | [a, b], _ => exact ⟨a, b, rfl⟩
  obtain ⟨a, b, c, d⟩ : Int × Int × Int × Int := x
  have two : ∀ (p q : Int) (v : Value), RAV Θ E.w0 (FF E (w128In.st (T := Θ.T) (a, b, c, d)) bx rw_ E.w0) bx rw_ (.agg [.v (.int .u64 p), .v (.int .u64 q)]) v → v = .agg #[.int .u64 p, .int .u64 q] := by
    rintro p q v ⟨us, rfl, ha⟩
    cases ha with
    | cons h1 t =>
      cases t with
      | cons h2 t => cases t; rw [rav_int (W := E.w0) (F := FF E (w128In.st (T := Θ.T) (a, b, c, d)) bx rw_ E.w0) (bx := bx) (rw_ := rw_) (Θ := Θ) h1, rav_int (W := E.w0) (F := FF E (w128In.st (T := Θ.T) (a, b, c, d)) bx rw_ E.w0) (bx := bx) (rw_ := rw_) (Θ := Θ) h2]
  have h0 : v0 = .agg #[.int .u64 a, .int .u64 b] := two a b v0 (hS.slots 0)
  have h1 : v1 = .agg #[.int .u64 c, .int .u64 d] := two c d v1 (hS.slots 1)
  subst h0 h1
  unfold minusF at hx
  simp only at hx
  split at hx <;> try (cases hx; done)
  rename_i hr
  simp only [u64ok, Bool.and_eq_true, decide_eq_true_eq] at hr
  obtain ⟨⟨a0, a1⟩, ⟨b0, b1⟩, ⟨c0, c1⟩, ⟨d0, d1⟩⟩ := hr
  obtain ⟨a, rfl⟩ : ∃ n : Nat, a = n := Int.eq_ofNat_of_zero_le a0
  obtain ⟨b, rfl⟩ : ∃ n : Nat, b = n := Int.eq_ofNat_of_zero_le b0
  obtain ⟨c, rfl⟩ : ∃ n : Nat, c = n := Int.eq_ofNat_of_zero_le c0
  obtain ⟨d, rfl⟩ : ∃ n : Nat, d = n := Int.eq_ofNat_of_zero_le d0
  have hz : z = (subHi a b c d, subLo b d) := (Option.some.inj hx).symm
  refine Calls.mono (h a b c d E.w0 (by omega) (by omega) (by omega) (by omega)) ?_
  rintro e w' ⟨rfl, hb⟩
  show Ex.ret = Ex.ret ∧ _
  refine ⟨rfl, [.agg #[.int .u64 (subHi a b c d), .int .u64 (subLo b d)]], bx, rw_, rfl, ?_⟩
  have : (w128Out.st z : St Θ.T) = ⟨[.agg [.v (.int .u64 z.1), .v (.int .u64 z.2)]], [], []⟩ := rfl
  rw [this, hz]
  exact flat_end hS (keeps_below hb) fun F => .cons ⟨[_, _], rfl, .cons (.int _ _) (.cons (.int _ _) .nil)⟩ .nil
end
end Go.Den
/- Contracts of functions on texts: strings.Repeat, strings.Count of one byte; a page with a builder in it. -/
namespace Go.Den
open Go Go.RowKit
/-- A text's bytes, as numbers. -/
def bytesN (b : ByteArray) : List Int := b.data.toList.map fun c => (c.toNat : Int)
section
variable {P : Program} {Θ : Tab}
/-! ### strings.Repeat -/
def repIn : Shape := ⟨[.c (.hole .str), .c (.hole (.int .i64))], [], []⟩
def repOut : Shape := ⟨[.c (.hole .str)], [], []⟩
def repS (s : ByteArray) (n : Nat) : ByteArray := ⟨(Lib.repeatL s.data.toList n).toArray⟩
def repF (x : ByteArray × Int) : Option ByteArray := if 0 ≤ x.2 ∧ 0 < x.1.size ∧ x.1.size * x.2.toNat ≤ 140737488355328 then some (repS x.1 x.2.toNat) else none
theorem rep_calls {g : FuncId} (hen : Go.Proofs.Enters P g) (h : ∀ (s : ByteArray) (n : Nat) (W : World), 0 < s.size → s.size * n ≤ 140737488355328 → Calls P g #[.string s, .int .i64 n] W fun e w' => e = .returned (.string (repS s n)) ∧ Below W.heap.size W w') :
    PCalls P Θ g ⟨repIn, [(.ret, repOut)], repF⟩ := by
  refine ⟨hen, rfl, ?_⟩
  intro x z hx E vs bx rw_ hED hS
  have hlen : vs.length = 2 := by have := hS.len; simpa [repIn, Shape.st, Shape.mk', fillAs] using this.symm
  obtain ⟨v0, v1, rfl⟩ : ∃ v0 v1, vs = [v0, v1] := by
    match vs, hlen with
    | [a, b], _ => exact ⟨a, b, rfl⟩
  obtain ⟨s, n⟩ : ByteArray × Int := x
  have h0 : v0 = .string s := by
    have h1 : RAV Θ E.w0 (FF E (repIn.st (T := Θ.T) (s, n)) bx rw_ E.w0) bx rw_ (.c (.v (.str s))) v0 := hS.slots 0
    exact rav_str h1
  have h1 : v1 = .int .i64 n := by
    have h1 : RAV Θ E.w0 (FF E (repIn.st (T := Θ.T) (s, n)) bx rw_ E.w0) bx rw_ (.c (.v (.int .i64 n))) v1 := hS.slots 1
    exact rav_int h1
  subst h0 h1
  unfold repF at hx
  simp only at hx
  split at hx <;> try (cases hx; done)
  rename_i hr
  obtain ⟨m, rfl⟩ : ∃ m : Nat, n = (m : Int) := Int.eq_ofNat_of_zero_le hr.1
  have hz : z = repS s m := (Option.some.inj hx).symm.trans (by rw [Int.toNat_natCast])
  refine Calls.mono (h s m E.w0 hr.2.1 (by simpa using hr.2.2)) ?_
  rintro e w' ⟨rfl, hb⟩
  show Ex.ret = Ex.ret ∧ _
  refine ⟨rfl, [.string (repS s m)], bx, rw_, rfl, ?_⟩
  have : (repOut.st z : St Θ.T) = ⟨[.c (.v (.str z))], [], []⟩ := rfl
  rw [this, hz]
  exact flat_end hS (keeps_below hb) fun F => .cons (.str _) .nil
/-! ### strings.Count of one byte -/
def cntIn : Shape := ⟨[.c (.hole .str), .c (.hole .str)], [], []⟩
def cntOut : Shape := ⟨[.c (.hole (.int .i64))], [], []⟩
def cntF (x : ByteArray × ByteArray) : Option Int := match x.2.data.toList with
  | [c] => some (Lib.countByte x.1.data.toList c : Int)
  | _ => none
theorem cnt_calls {g : FuncId} (hen : Go.Proofs.Enters P g) (h : ∀ (s : ByteArray) (c : UInt8) (W : World), Calls P g #[.string s, .string ⟨#[c]⟩] W fun e w' => e = .returned (.int .i64 (Lib.countByte s.data.toList c)) ∧ w' = W) :
    PCalls P Θ g ⟨cntIn, [(.ret, cntOut)], cntF⟩ := by
  refine ⟨hen, rfl, ?_⟩
  intro x z hx E vs bx rw_ hED hS
  have hlen : vs.length = 2 := by have := hS.len; simpa [cntIn, Shape.st, Shape.mk', fillAs] using this.symm
  obtain ⟨v0, v1, rfl⟩ : ∃ v0 v1, vs = [v0, v1] := by
    match vs, hlen with
    | [a, b], _ => exact ⟨a, b, rfl⟩
  obtain ⟨s, t⟩ : ByteArray × ByteArray := x
  have h0 : v0 = .string s := by
    have h1 : RAV Θ E.w0 (FF E (cntIn.st (T := Θ.T) (s, t)) bx rw_ E.w0) bx rw_ (.c (.v (.str s))) v0 := hS.slots 0
    exact rav_str h1
  have h1 : v1 = .string t := by
    have h1 : RAV Θ E.w0 (FF E (cntIn.st (T := Θ.T) (s, t)) bx rw_ E.w0) bx rw_ (.c (.v (.str t))) v1 := hS.slots 1
    exact rav_str h1
  subst h0 h1
  unfold cntF at hx
  simp only at hx
  split at hx <;> try (cases hx; done)
  rename_i c hc
  have ht : t = ⟨#[c]⟩ := by
    obtain ⟨⟨l⟩⟩ := t
    simp only at hc
    rw [hc]
  subst ht
  have hz : z = (Lib.countByte s.data.toList c : Int) := (Option.some.inj hx).symm
  refine Calls.mono (h s c E.w0) ?_
  rintro e w' ⟨rfl, rfl⟩
  show Ex.ret = Ex.ret ∧ _
  refine ⟨rfl, [.int .i64 (Lib.countByte s.data.toList c)], bx, rw_, rfl, ?_⟩
  have : (cntOut.st z : St Θ.T) = ⟨[.c (.v (.int .i64 z))], [], []⟩ := rfl
  rw [this, hz]
  exact flat_end hS (keeps_refl hS) fun F => .cons (.int _ _) .nil
/-! ### A builder at the head of a page: its text -/
def bstrIn (pg e : Nat) : Shape := ⟨[.c (.box pin 0)], [(pin, pg, [.box pin 0, .row pin, .hole (.int .i64), .hole (.int .i64)])], [(pin, e)]⟩
def bstrOut : Shape := ⟨[.c (.hole .str)], [], []⟩
def bstrF {α : Type} (num : α → Int) (x : Int × Int × List α) : Option ByteArray :=
  if 0 < x.2.2.length ∧ (x.2.2.all fun y => decide (0 ≤ num y) && decide (num y < 256)) = true then some ⟨(x.2.2.map fun y => UInt8.ofNat (num y).toNat).toArray⟩ else none
theorem bstr_calls {g : FuncId} (pg e : Nat) (hsl : slE e = true) (hsz : Θ.sz e = 1) (num : Θ.T e → Int) (he : ∀ x, Θ.enc e x = [.int .u8 (num x)]) (hen : Go.Proofs.Enters P g)
    (h : ∀ (b k n cap : Nat) (x y : Value) (cur : Array Value) (fz : Nat × Nat) (l : List UInt8) (W : World), W.heap[b]? = some (.cells #[.pointer (some ⟨b, 0, none⟩), .slice (some ⟨k, 0, none⟩) n cap, x, y] pg (0, 0)) → W.heap[k]? = some (.cells cur e fz) → b ≠ k →
      l ≠ [] → l.length = n → n ≤ cap → cap ≤ maxLen → cur.size = cap → (∀ (j : Nat) (c : UInt8), l[j]? = some c → cur[j]? = some (Value.int .u8 (c.toNat : Int))) →
      Calls P g #[.pointer (some ⟨b, 0, none⟩)] W fun en w' => en = .returned (.string ⟨l.toArray⟩) ∧ W.grownBy w' (some k)) :
    PCalls P Θ g ⟨bstrIn pg e, [(.ret, bstrOut)], fun x => bstrF num x⟩ := by
  refine ⟨hen, rfl, ?_⟩
  intro (x : Int × Int × List (Θ.T e)) (z : ByteArray) hx E vs bx rw_ hD hS
  obtain ⟨c1, c2, l⟩ := x
  have hx' : bstrF num (c1, c2, l) = some z := hx
  unfold bstrF at hx'
  simp only at hx'
  split at hx' <;> try (cases hx'; done)
  rename_i hc
  obtain ⟨hpos, hall⟩ := hc
  injection hx' with hz
  have hlo : ∀ y : List (Θ.T e), listOf (T := Θ.T) e (.sl e y) = y := fun y => by simp [listOf]
  let B0 : BoxS Θ.T := ⟨0, pg, [.box pin 0 0, .row pin 0, .v (.int .i64 c1), .v (.int .i64 c2)]⟩
  replace hS : Sim Θ E (⟨[.c (.box pin 0 0)], [(pin, B0)], [(pin, ⟨0, e, listOf (T := Θ.T) e (.sl e l)⟩)]⟩ : St Θ.T) vs.toArray E.w0 bx rw_ := hS
  rw [hlo] at hS
  have hln := hS.len
  obtain ⟨v0, rfl⟩ : ∃ v0, vs = [v0] := List.length_eq_one_iff.1 (by simpa using hln.symm)
  have h0 : v0 = .pointer (some ⟨bx pin 0, 0, none⟩) := hS.slots 0
  subst h0
  obtain ⟨r1, us, r2, r3⟩ := hS.rows pin ⟨0, e, l⟩ (by simp [look])
  obtain ⟨bo, cs, bh, bc⟩ := hS.boxes pin B0 (by simp [look])
  have hbr := hS.br pin B0 pin ⟨0, e, l⟩ (by simp [look]) (by simp [look])
  have hgen : B0.gen = 0 := rfl
  rw [hgen] at bo bh hbr
  simp only at r1 r2 hbr
  have r2s := r2.s hsl
  obtain ⟨b, cap, hv, hcap⟩ := r2s.form.2 hpos
  obtain ⟨_, _, hob, hul, cur, fz, hg, _, hnc, hcm, hcs, htk⟩ := r2s.block hv (by omega)
  simp only at hob hg
  rw [hsz, Nat.mul_one] at hul hcs htk
  -- the cells
  have hcs' : ∃ x y, cs = [.pointer (some ⟨bx pin 0, 0, none⟩), rw_ pin 0, x, y] := by
    have bc' : All2 (RCV Θ E.w0 _ bx rw_) [.box pin 0 0, .row pin 0, .v (.int .i64 c1), .v (.int .i64 c2)] cs := bc
    cases bc' with
    | cons h1 t => cases t with
      | cons h2 t => cases t with
        | cons h3 t => cases t with
          | cons h4 t => cases t; exact ⟨_, _, by rw [show _ = _ from h1, show _ = _ from h2]⟩
  obtain ⟨x, y, rfl⟩ := hcs'
  rw [hv] at bh
  have hus : us = l.map fun y => Value.int .u8 (num y) := by
    have this : ∀ q : List (Θ.T e), q.flatMap (Θ.enc e) = q.map fun y => (PV.int .u8 (num y) : PV Θ.T) := fun q => by
      induction q with
      | nil => rfl
      | cons a r ih => rw [List.flatMap_cons, ih, he]; rfl
    simp only at r3
    rw [this] at r3
    have hf := flat_us (Θ := Θ) (W := E.w0) (F := FF E _ bx rw_ E.w0) (ps := l.map fun y => (PV.int .u8 (num y) : PV Θ.T)) (fun p hp => by obtain ⟨q, _, rfl⟩ := List.mem_map.1 hp; rfl) r3
    rw [hf, List.map_map]; rfl
  have hmc := h (bx pin 0) b l.length cap x y cur fz (l.map fun y => UInt8.ofNat (num y).toNat) E.w0 bh hg (fun e0 => hbr (by rw [hob, e0])) (fun e0 => by rw [List.map_eq_nil_iff] at e0; rw [e0] at hpos; exact absurd hpos (Nat.lt_irrefl 0)) (by simp) hnc hcm hcs (fun j c hj => by
    rw [List.getElem?_map] at hj
    cases hq : l[j]? with
    | none => simp [hq] at hj
    | some q =>
      simp only [hq, Option.map_some, Option.some.injEq] at hj
      have hm := List.all_eq_true.1 hall q (List.mem_of_getElem? hq)
      simp only [Bool.and_eq_true, decide_eq_true_eq] at hm
      have h1 : us[j]? = some (.int .u8 (num q)) := by rw [hus, List.getElem?_map, hq]; rfl
      rw [← htk, List.getElem?_take] at h1
      split at h1 <;> try (cases h1; done)
      rw [← Array.getElem?_toList, h1, ← hj]
      congr 2
      rw [UInt8.toNat_ofNat']
      omega)
  refine Calls.mono hmc ?_
  rintro en w' ⟨rfl, hgw⟩
  show Ex.ret = Ex.ret ∧ _
  refine ⟨rfl, [.string z], bx, rw_, by rw [← hz]; rfl, ?_⟩
  have : (bstrOut.st z : St Θ.T) = ⟨[.c (.v (.str z))], [], []⟩ := rfl
  rw [this]
  exact flat_end hS (hS.below.grown hgw (fun k hk => by cases hk; exact r1 b hob)) fun F => .cons (.str _) .nil
/-! ### A builder at the head of a page is written for the first time -/
def bldIn (pg e : Nat) : Shape := ⟨[.c (.box pin 0)], [(pin, pg, [.np, .row pin, .hole (.int .i64), .hole (.int .i64)])], [(pin, e)]⟩
def bldOut (pg e : Nat) : Shape := ⟨[], [(pin, pg, [.box pin 0, .row pin, .hole (.int .i64), .hole (.int .i64)])], [(pin, e)]⟩
theorem bld_calls {g : FuncId} (pg e : Nat) (hen : Go.Proofs.Enters P g)
    (h : ∀ (b : Nat) (v x y : Value) (W : World), W.heap[b]? = some (.cells #[.pointer none, v, x, y] pg (0, 0)) →
      Calls P g #[.pointer (some ⟨b, 0, none⟩)] W fun en w' => en = .returned (.tuple #[]) ∧ (storeCells ⟨b, 0, none⟩ [.pointer (some ⟨b, 0, none⟩)]).run P W = .ok () w') :
    PCalls P Θ g ⟨bldIn pg e, [(.ret, bldOut pg e)], fun x => some x⟩ := by
  refine ⟨hen, rfl, ?_⟩
  intro (x : Int × Int × List (Θ.T e)) (z : Int × Int × List (Θ.T e)) hx E vs bx rw_ hD hS
  obtain rfl : x = z := Option.some.inj hx
  obtain ⟨c1, c2, l⟩ := x
  have hlo : ∀ y : List (Θ.T e), listOf (T := Θ.T) e (.sl e y) = y := fun y => by simp [listOf]
  let B0 : BoxS Θ.T := ⟨0, pg, [.np, .row pin 0, .v (.int .i64 c1), .v (.int .i64 c2)]⟩
  let B1 : BoxS Θ.T := ⟨0, pg, [.box pin 0 0, .row pin 0, .v (.int .i64 c1), .v (.int .i64 c2)]⟩
  replace hS : Sim Θ E (⟨[.c (.box pin 0 0)], [(pin, B0)], [(pin, ⟨0, e, listOf (T := Θ.T) e (.sl e l)⟩)]⟩ : St Θ.T) vs.toArray E.w0 bx rw_ := hS
  rw [hlo] at hS
  have hln := hS.len
  obtain ⟨v0, rfl⟩ : ∃ v0, vs = [v0] := List.length_eq_one_iff.1 (by simpa using hln.symm)
  have h0 : v0 = .pointer (some ⟨bx pin 0, 0, none⟩) := hS.slots 0
  subst h0
  obtain ⟨bo, cs, bh, bc⟩ := hS.boxes pin B0 (by simp [look])
  have hgen : B0.gen = 0 := rfl
  rw [hgen] at bo bh
  have hcs' : ∃ v x y, cs = [.pointer none, v, x, y] := by
    have bc' : All2 (RCV Θ E.w0 _ bx rw_) [.np, .row pin 0, .v (.int .i64 c1), .v (.int .i64 c2)] cs := bc
    cases bc' with
    | cons h1 t => cases t with
      | cons h2 t => cases t with
        | cons h3 t => cases t with
          | cons h4 t => cases t; exact ⟨_, _, _, by rw [show _ = _ from h1]⟩
  obtain ⟨v, x, y, rfl⟩ := hcs'
  have hwb : St.writeBox (⟨[.c (.box pin 0 0)], [(pin, B0)], [(pin, ⟨0, e, l⟩)]⟩ : St Θ.T) pin 0 0 [.box pin 0 0] = some ⟨[.c (.box pin 0 0)], [(pin, B1)], [(pin, ⟨0, e, l⟩)]⟩ := by
    simp [St.writeBox, look, keep, B0, B1]
  obtain ⟨W', hrun, hS'⟩ := Sim.writeBox (P := P) (a := ⟨#[.pointer (some ⟨bx pin 0, 0, none⟩)], []⟩) (s := ⟨[.c (.box pin 0 0)], [(pin, B0)], [(pin, ⟨0, e, l⟩)]⟩) hS hwb (us := [.pointer (some ⟨bx pin 0, 0, none⟩)]) (.cons rfl .nil)
  refine Calls.mono (h (bx pin 0) v x y E.w0 bh) ?_
  rintro en w' ⟨rfl, hw⟩
  rw [hrun] at hw
  cases hw
  show Ex.ret = Ex.ret ∧ _
  refine ⟨rfl, [], bx, rw_, rfl, ?_⟩
  have hst : ((bldOut pg e).st ((c1, c2, l) : Int × Int × List (Θ.T e)) : St Θ.T) = ⟨[], [(pin, B1)], [(pin, ⟨0, e, l⟩)]⟩ := by
    show (⟨[], [(pin, B1)], [(pin, ⟨0, e, listOf (T := Θ.T) e (.sl e l)⟩)]⟩ : St Θ.T) = _
    rw [hlo]
  rw [hst]
  exact ⟨hS'.below, hS'.glob, hS'.pinB, hS'.pinR, hS'.rwsl, hS'.boxes, hS'.rows, hS'.bb, hS'.rr, hS'.br, rfl, fun i => trivial⟩
end
end Go.Den
