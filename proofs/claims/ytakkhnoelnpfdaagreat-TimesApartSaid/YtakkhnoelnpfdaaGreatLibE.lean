/- The evaluator of the model's code on typed values, and that it tells the truth: part E. -/
import Derived.Shelf.SlSortCmp.NoneTotal
import Derived.Shelf.SlicesE.DeleteFunc
import Derived.Test.YtakkhnoelnpfdaaGreatLibD
/- The contract of slices.SortFunc at structs, as that of a plain function. -/
namespace Go.Den
open Go Go.RowKit Go.Proofs Go.Shelf Go.Lib Go.Sort

def pvVal {T : TypeId → Type} : PV T → Value
  | .int k n => .int k n
  | .bool b => .bool b
  | .str s => .string s
  | .sl _ _ => undef
def pvFlat {T : TypeId → Type} : PV T → Bool
  | .sl _ _ => false
  | _ => true
section
variable {Θ : Tab} {W : World} {F : Nat → Prop}
theorem rep_pv {u : Value} {p : PV Θ.T} (h : Rep Θ W F u p) (hp : pvFlat p = true) : u = pvVal p := by
  cases h <;> first | rfl | (simp [pvFlat] at hp)
theorem pv_rep {p : PV Θ.T} (hp : pvFlat p = true) : Rep Θ W F (pvVal p) p := by
  cases p <;> first | constructor | (simp [pvFlat] at hp)
theorem pv_one {p : PV Θ.T} (hp : pvFlat p = true) : (pvVal p).oneCell' = true := by
  cases p <;> first | rfl | (simp [pvFlat] at hp)
theorem flat_list {T : TypeId → Type} : ∀ (ls : List Leaf) (x : HT (Leaf.Ty T) ls), ls.all Leaf.flat = true → ∀ p ∈ HT.list Leaf.mk ls x, pvFlat p = true
  | [], _, _, p, hp => by simp [HT.list] at hp
  | [l], x, h, p, hp => by
    simp only [HT.list, List.mem_singleton] at hp
    subst hp
    cases l <;> first | rfl | (simp [Leaf.flat] at h)
  | a :: b :: r, x, h, p, hp => by
    simp only [List.all_cons, Bool.and_eq_true] at h
    simp only [HT.list, List.mem_cons] at hp
    rcases hp with rfl | hp
    · cases a <;> first | rfl | (simp [Leaf.flat] at h)
    · exact flat_list (b :: r) x.2 (by simpa using h.2) p hp
theorem flat_enc {e : TypeId} (h : (Θ.E e).leaves.all Leaf.flat = true) (x : Θ.T e) : ∀ p ∈ Θ.enc e x, pvFlat p = true := flat_list _ _ h
/-- An element's cells. -/
def encV (Θ : Tab) (e : TypeId) (x : Θ.T e) : List Value := (Θ.enc e x).map pvVal
theorem encV_len (e : TypeId) (x : Θ.T e) : (encV Θ e x).length = Θ.sz e := by simp [encV, Θ.length_enc]
theorem flat_us {ps : List (PV Θ.T)} {us : List Value} (hf : ∀ p ∈ ps, pvFlat p = true) (h : All2 (fun x u => Rep Θ W F u x) ps us) : us = ps.map pvVal := by
  induction h with
  | nil => rfl
  | cons h t ih => rw [List.map_cons, rep_pv h (hf _ (by simp)), ih fun p hp => hf p (by simp [hp])]
theorem us_flat {ps : List (PV Θ.T)} (hf : ∀ p ∈ ps, pvFlat p = true) : All2 (fun x u => Rep Θ W F u x) ps (ps.map pvVal) := by
  induction ps with
  | nil => exact .nil
  | cons p ps ih => exact .cons (pv_rep (hf p (by simp))) (ih fun q hq => hf q (by simp [hq]))
end
/-- A row's cells, one by one. -/
theorem flat_get {α : Type} (enc : α → List Value) (k : Nat) (hk0 : 0 < k) (hk : ∀ x, (enc x).length = k) : ∀ (l : List α) (t : Nat), (l.flatMap enc)[t]? = (l[t / k]?).bind fun x => (enc x)[t % k]? := by
  intro l
  induction l with
  | nil => intro t; simp
  | cons a l ih =>
    intro t
    rw [List.flatMap_cons, List.getElem?_append, hk]
    by_cases h : t < k
    · rw [if_pos h, Nat.div_eq_of_lt h, Nat.mod_eq_of_lt h]; simp
    · rw [if_neg h, ih]
      have e1 : t / k = (t - k) / k + 1 := by rw [Nat.div_eq_sub_div hk0 (by omega)]
      have e2 : t % k = (t - k) % k := Nat.mod_eq_sub_mod (by omega)
      rw [e1, e2]; simp
theorem flat_len {α : Type} (enc : α → List Value) (k : Nat) (hk : ∀ x, (enc x).length = k) (l : List α) : (l.flatMap enc).length = l.length * k := by
  induction l with
  | nil => simp
  | cons a l ih => rw [List.flatMap_cons, List.length_append, ih, hk, List.length_cons, Nat.add_mul]; omega
theorem flatK_eq {α : Type} [Inhabited α] (enc : α → List Value) (k : Nat) (hk0 : 0 < k) (hk : ∀ x, (enc x).length = k) (d : Array α) : flatK enc k d = (d.toList.flatMap enc).toArray := by
  refine ext_get! (by simp only [size_flatK, List.size_toArray]; rw [flat_len enc k hk]; simp) fun t ht => ?_
  rw [size_flatK] at ht
  rw [get_flatK _ _ _ _ ht]
  have hlt : t / k < d.size := (Nat.div_lt_iff_lt_mul hk0).2 ht
  have h := flat_get enc k hk0 hk d.toList t
  have e1 : d.toList[t / k]? = some d[t / k]! := by rw [getElem!_pos d _ hlt]; simp [hlt]
  rw [e1] at h
  have hm : t % k < (enc d[t / k]!).length := by rw [hk]; exact Nat.mod_lt _ hk0
  simp only [Option.bind_some] at h
  rw [List.getElem?_eq_getElem hm] at h
  rw [getElem!_pos (enc d[t / k]!) (t % k) hm]
  have hs : t < (d.toList.flatMap enc).toArray.size := by rw [List.size_toArray, flat_len enc k hk]; simpa using ht
  rw [getElem!_pos (d.toList.flatMap enc).toArray t hs]
  have h2 : (d.toList.flatMap enc)[t]? = some ((d.toList.flatMap enc)[t]'(by simpa using hs)) := List.getElem?_eq_getElem _
  rw [h2] at h
  injection h with h
  rw [← h]; simp

/-- Sorted as Go's sort does it. -/
def sortL {α : Type} (d : α) (cf : α → α → Int) (x : List α) : List α :=
  letI : Inhabited α := ⟨d⟩
  (pdq (ltOf cf) x.toArray 0 x.length (Lib.bitLen x.length) true true).toList
section
variable {α : Type} (d : α) (cf : α → α → Int) (hO : SWO (ltOf cf)) (x : List α)
include hO
theorem sortL_spec : (sortL d cf x).Perm x ∧ ∀ i j (hi : i < j) (hj : j < (sortL d cf x).length), 0 ≤ cf ((sortL d cf x)[j]) ((sortL d cf x)[i]) := by
  letI : Inhabited α := ⟨d⟩
  have h := pdq_sorts (ltOf cf) hO x.toArray 0 x.length (Lib.bitLen x.length) true true (Nat.zero_le _) (by simp) (Or.inl rfl)
  have e : sortL d cf x = (pdq (ltOf cf) x.toArray 0 x.length (Lib.bitLen x.length) true true).toList := rfl
  generalize pdq (ltOf cf) x.toArray 0 x.length (Lib.bitLen x.length) true true = z at h e
  obtain ⟨⟨h1, h2, h3⟩, h4⟩ := h
  have hs : z.size = x.length := by simpa using h1
  have key : ∀ q : List α, q = z.toList → q.Perm x ∧ ∀ i j (hi : i < j) (hj : j < q.length), 0 ≤ cf (q[j]) (q[i]) := by
    rintro q rfl
    refine ⟨?_, fun i j hij hj => ?_⟩
    · have ez : z.extract 0 x.length = z := by rw [← hs]; simp
      have ex : x.toArray.extract 0 x.length = x.toArray := by
        have : x.length = x.toArray.size := by simp
        rw [this]; simp
      rw [ez, ex] at h3
      simpa using h3
    · have hj' : j < z.size := by simpa using hj
      have := h4 i j (Nat.zero_le _) hij (by omega)
      rw [getElem!_pos z j hj', getElem!_pos z i (by omega)] at this
      simp only [ltOf, decide_eq_false_iff_not] at this
      simp only [Array.getElem_toList]
      omega
  exact key _ e
end
theorem sortL_len {α : Type} (d : α) (cf : α → α → Int) (hO : SWO (ltOf cf)) (x : List α) : (sortL d cf x).length = x.length := (sortL_spec d cf hO x).1.length_eq

def sortIn (e g : Nat) : Shape := ⟨[.c (.row pin), .c (.fn g [])], [], [(pin, e)]⟩
def sortOut (e : Nat) : Shape := ⟨[], [], [(pin, e)]⟩
/-- What slices.SortFunc leaves. -/
def sortF {α : Type} (d : α) (cf : α → α → Int) (x : List α) : Option (List α) := if x.length < 4611686018427387904 then some (sortL d cf x) else none
theorem sort_calls {P : Program} {ρ : Ren} {Θ : Tab} (L : SlLaysF0.n6 P ρ) (e k : Nat) (hk0 : 0 < k) (hsl : slE e = true) (hsz : Θ.sz e = k) (hfl : (Θ.E e).leaves.all Leaf.flat = true) (aE : ∀ w, (isAgg (ρ.t 24)).run P w = .ok true w) (zE : ∀ w, (Go.sizeOf (ρ.t 24)).run P w = .ok k w)
    (cf : Θ.T e → Θ.T e → Int) (hO : SWO (ltOf cf)) (g : Nat) (eg : ∀ args w, (callFunc g args).run P w = .ok (.enter g args) w) (ef : Enters P (ρ.f 6))
    (hcmp : ∀ blk off size w, letI : Inhabited (Θ.T e) := ⟨(Θ.E e).dft⟩; CmpLays P g #[] (encV Θ e) k cf blk off size w) : PCalls P Θ (ρ.f 6) ⟨sortIn e g, [(.ret, sortOut e)], fun x => sortF (Θ.E e).dft cf x⟩ := by
  refine ⟨ef, rfl, ?_⟩
  intro (x : List (Θ.T e)) (z : List (Θ.T e)) hx E vs bx rw_ hD hS
  letI hInh : Inhabited (Θ.T e) := ⟨(Θ.E e).dft⟩
  have hx' : sortF (Θ.E e).dft cf x = some z := hx
  have hlo : ∀ y : List (Θ.T e), listOf (T := Θ.T) e (.sl e y) = y := fun y => by simp [listOf]
  have hst : (sortIn e g).st x = ⟨[.c (.row pin 0), .c (.fn g [])], [], [(pin, ⟨0, e, x⟩)]⟩ := by
    show (⟨[.c (.row pin 0), .c (.fn g [])], [], [(pin, ⟨0, e, listOf (T := Θ.T) e (.sl e x)⟩)]⟩ : St Θ.T) = _
    rw [hlo]
  have hst2 : ∀ y : List (Θ.T e), (sortOut e).st y = ⟨[], [], [(pin, ⟨0, e, y⟩)]⟩ := fun y => by
    show (⟨[], [], [(pin, ⟨0, e, listOf (T := Θ.T) e (.sl e y)⟩)]⟩ : St Θ.T) = _
    rw [hlo]
  simp only at hS ⊢
  rw [hst] at hS
  have hlen := hS.len
  obtain ⟨v0, v1, rfl⟩ : ∃ v0 v1, vs = [v0, v1] := by
    cases vs with
    | nil => simp at hlen
    | cons a l => cases l with
      | nil => simp at hlen
      | cons b l => cases l with
        | nil => exact ⟨a, b, rfl⟩
        | cons c l => simp at hlen
  have h0 : v0 = rw_ pin 0 := hS.slots 0
  have h1 : v1 = .func (.func g) #[] #[] := hS.slots 1
  obtain ⟨r1, us, r2, r3⟩ := hS.rows pin ⟨0, e, x⟩ (by simp [look])
  have hflat : ∀ y : List (Θ.T e), ∀ p ∈ y.flatMap (Θ.enc e), pvFlat p = true := fun y p hp => by
    rw [List.mem_flatMap] at hp
    obtain ⟨q, _, hq⟩ := hp
    exact flat_enc hfl q p hq
  have hus := flat_us (hflat x) r3
  have hmap : ∀ y : List (Θ.T e), (y.flatMap (Θ.enc e)).map pvVal = y.flatMap (encV Θ e) := fun y => by rw [List.map_flatMap]; rfl
  rw [hmap] at hus
  subst hus
  simp only at r1 r2
  rw [← h0] at r1 r2
  rw [hsz] at r2
  have r20 := r2
  replace r2 := r2.s hsl
  have hencl : ∀ q, (encV Θ e q).length = k := fun q => by rw [encV_len, hsz]
  unfold sortF at hx'
  split at hx' <;> try (cases hx'; done)
  rename_i hlt
  injection hx' with hz
  have hzl : z.length = x.length := by rw [← hz]; exact sortL_len _ _ hO x
  -- what is to be shown of the world behind
  have fin : ∀ w' : World, Keeps E w' → (∀ b, ob v0 = some b → b < w'.heap.size) → (∀ b, b < E.w0.heap.size → ob v0 ≠ some b → w'.heap[b]? = E.w0.heap[b]?) → OwnsS w' e k v0 z.length (z.flatMap (encV Θ e)) →
      Post Θ E [(.ret, sortOut e)] z (.returned (.tuple #[])) w' := by
    intro w' hK hlt' hbl hO'
    show Ex.ret = Ex.ret ∧ _
    refine ⟨rfl, [], bx, rw_, rfl, ?_⟩
    rw [hst2]
    refine ⟨hK, fun k b h => ⟨(hS.pinB k b h).1, fun B hB => by simp [look] at hB⟩, fun r v h => ⟨(hS.pinR r v h).1, fun R hR hg => ?_⟩, hS.rwsl, fun k B hB => by simp [look] at hB, fun r R hR => ?_, fun k B k' B' hB => by simp [look] at hB, ?_, fun k B r R hB => by simp [look] at hB, rfl, fun i => ?_⟩
    · simp only [look] at hR
      split at hR
      · rename_i hr; subst hr; exact (hS.pinR _ v h).2 ⟨0, e, x⟩ (by simp [look]) rfl
      · cases hR
    · simp only [look] at hR
      split at hR <;> try (cases hR; done)
      rename_i hr
      subst hr
      injection hR with hR
      subst hR
      simp only
      rw [← h0, hsz]
      refine ⟨r1, _, .inl ⟨hsl, hO'⟩, ?_⟩
      rw [← hmap]
      exact us_flat (hflat z)
    · intro r R r' R' b hR hR' hb hb'
      simp only [look] at hR hR'
      split at hR <;> try (cases hR; done)
      split at hR' <;> try (cases hR'; done)
      rename_i e1 e2
      rw [← e1, ← e2]
    · simp [St.at_, RAV]
  rw [h1]
  by_cases hne : x = []
  · subst hne
    have hz0 : z = [] := List.eq_nil_of_length_eq_zero hzl
    subst hz0
    obtain ⟨A, m, c, hv⟩ := r2.slice
    have hm : m = 0 := by
      rcases r2 with h | ⟨ad, h, _, _⟩
      · rcases h.2 with ⟨h, _⟩ | ⟨g', cap, cur, h, _⟩
        · rw [hv] at h; cases h; rfl
        · rw [hv] at h; cases h; rfl
      · rw [hv] at h; cases h; rfl
    subst hm
    have hc := AnyF.slices_SortFunc_none L A c (.func (.func g) #[] #[]) E.w0
    rw [← hv] at hc
    refine hc.mono fun en w' ⟨he, hw⟩ => ?_
    subst he hw
    exact fin _ hS.below (fun b hb => r20.lt hb) (fun b _ _ => rfl) (by simpa using r2)
  · have hpos : 0 < x.length := List.length_pos_iff.2 hne
    have hw : E.w0.ownsRow 0 e k v0 x.length (x.flatMap (encV Θ e)) := by
      rcases r2 with hw | ⟨ad, _, h, _⟩
      · exact hw
      · simp at h; exact absurd h hne
    rcases hw.2 with ⟨_, h⟩ | ⟨b, cap, cur, hv, _, hb, hnc, hcm, hcs, htk⟩
    · simp at h; exact absurd h hne
    have hob : ob v0 = some b := by rw [hv]; simp only [ob]; rw [if_neg (by omega)]
    have hblt : b < E.w0.heap.size := by
      rcases Nat.lt_or_ge b E.w0.heap.size with h | h
      · exact h
      · rw [Array.getElem?_eq_none h] at hb; cases hb
    have hx0 : x.toArray.size = x.length := by simp
    have hfK : ∀ y : List (Θ.T e), flatK (encV Θ e) k y.toArray = (y.flatMap (encV Θ e)).toArray := fun y => flatK_eq _ k hk0 hencl _
    have hH : HoldsK (encV Θ e) k E.w0 b 0 x.toArray := by
      intro j hj
      rw [hfK] at hj ⊢
      have hj' : j < (x.flatMap (encV Θ e)).length := by simpa using hj
      have hj2 : j < x.length * k := by rwa [flat_len _ k hencl] at hj'
      have hcj : cur[j]? = some ((x.flatMap (encV Θ e)).toArray[j]!) := by
        rw [getElem!_pos (x.flatMap (encV Θ e)).toArray j hj]
        have : (cur.toList.take (x.length * k))[j]? = (x.flatMap (encV Θ e))[j]? := by rw [htk]
        rw [List.getElem?_take_of_lt hj2] at this
        rw [List.getElem?_eq_getElem hj'] at this
        simpa using this
      constructor
      · simp only [World.cell?, hb]
        simpa using hcj
      · simp [World.frozen?, hb]
    have hc := AnyQ.slices_SortFunc_eq L k aE zE (encV Θ e) hencl (fun q v hv => by
      simp only [encV, List.mem_map] at hv
      obtain ⟨p, hp, rfl⟩ := hv
      exact pv_one (flat_enc hfl q p hp)) cf hO g #[] b 0 cap x.toArray E.w0 eg (hcmp _ _ _ _) hH hblt (by simpa using hlt)
    rw [hx0, ← hv] at hc
    refine hc.mono fun en w' ⟨he, n, os, hw⟩ => ?_
    subst he
    have ez : pdq (ltOf cf) x.toArray 0 x.length (Lib.bitLen x.length) true true = z.toArray := by
      rw [← hz]; unfold sortL; simp
    rw [ez] at hw
    have hsize : w'.heap.size = E.w0.heap.size + os.size := by
      rw [hw]; unfold sortWorldK; rw [size_grow, size_putRowK]; rfl
    have hother : ∀ c, c < E.w0.heap.size → c ≠ b → w'.heap[c]? = E.w0.heap[c]? := by
      intro c hc hcb
      rw [hw]
      unfold sortWorldK
      rw [heap_grow_old _ _ (by rw [size_putRowK]; exact hc)]
      unfold putRowK putRow mapBlock Sort.ahead
      simp [Array.getElem?_modify, Ne.symm hcb]
    have hblock : w'.heap[b]? = some (.cells (putCells id 0 (flatK (encV Θ e) k z.toArray) cur) e (0, 0)) := by
      rw [hw]
      unfold sortWorldK
      rw [heap_grow_old _ _ (by rw [size_putRowK]; exact hblt)]
      unfold putRowK putRow mapBlock Sort.ahead
      simp [Array.getElem?_modify, hb, onCells]
    refine fin w' ⟨?_, ?_, ?_, ?_, ?_⟩ (fun c hc => ?_) (fun c hc hcb => hother c hc fun ee => hcb (by rw [ee]; exact hob)) (.inl ⟨flat_len _ k hencl _, .inr ⟨b, cap, _, ?_, Nat.zero_le _, hblock, by rw [hzl]; exact hnc, hcm, ?_, ?_⟩⟩)
    · rw [hw]; exact hS.below.os
    · rw [hw]; exact hS.below.tape
    · rw [hw]; exact hS.below.output
    · omega
    · intro c hc hcz
      refine hother c hc fun ee => hcz ?_
      subst ee
      rcases r1 c hob with h | h
      · exact h
      · omega
    · rw [hob] at hc; cases hc; omega
    · rw [hv, hzl]
    · simp [putCells, hcs]
    · rw [hfK]
      apply List.ext_getElem?
      intro t
      by_cases ht : t < z.length * k
      · rw [List.getElem?_take_of_lt ht]
        have hle : z.length * k ≤ cur.size := by rw [hcs, hzl]; exact Nat.mul_le_mul_right _ hnc
        have hfl' : (z.flatMap (encV Θ e)).length = z.length * k := flat_len _ k hencl _
        have ht2 : t < (z.flatMap (encV Θ e)).length := by omega
        simp only [putCells, Array.toList_mapIdx, List.getElem?_mapIdx, Array.getElem?_toList]
        rw [Array.getElem?_eq_getElem (by omega), List.getElem?_eq_getElem ht2]
        simp only [Option.map_some, id_eq, Nat.zero_le, true_and, Nat.zero_add, Nat.sub_zero, List.size_toArray]
        rw [if_pos ht2, getElem!_pos (z.flatMap (encV Θ e)).toArray t (by rw [List.size_toArray]; exact ht2)]
        simp
      · rw [List.getElem?_eq_none (by simp; omega), List.getElem?_eq_none (by rw [flat_len _ k hencl]; omega)]
end Go.Den
/- The contract of slices.DeleteFunc at texts, with a closure that looks into one variable, as that of a plain function. -/
namespace Go.Den
open Go Go.RowKit Go.Proofs Go.Shelf Go.Lib Go.Sort

def delIn (e g bt w : Nat) : Shape := ⟨[.c (.row pin), .c (.fn g [pin])], [(pin, bt, [.hole .str, .hole (.int .i64), .hole (.int .i64), .hole (.int .i64), .hole (.sl w)])], [(pin, e)]⟩
def delOut (e bt w : Nat) : Shape := ⟨[.c (.row (pin + pin))], [(pin, bt, [.hole .str, .hole (.int .i64), .hole (.int .i64), .hole (.int .i64), .hole (.sl w)])], [(pin + pin, e)]⟩
/-- What slices.DeleteFunc leaves. -/
def delF {α β : Type} (q : ByteArray → α → Bool) (x : ByteArray × Int × Int × Int × β × List α) : Option (ByteArray × Int × Int × Int × β × List α) :=
  if 0 < x.2.2.2.2.2.length ∧ x.2.2.2.2.2.length < 4611686018427387904 then some (x.1, x.2.1, x.2.2.1, x.2.2.2.1, x.2.2.2.2.1, x.2.2.2.2.2.filter fun y => !q x.1 y) else none
theorem del_calls {P : Program} {ρ : Ren} {Θ : Tab} (L : SlLaysH.n10 P ρ) (e g bt w : Nat) (enc : Θ.T e → Value) (zr : Θ.T e) (hsl : slE e = true) (hsz : Θ.sz e = 1) (hfl : (Θ.E e).leaves.all Leaf.flat = true) (he : ∀ x, encV Θ e x = [enc x]) (hO : OneCell enc)
    (q : ByteArray → Θ.T e → Bool) (eg : ∀ args w, (callFunc g args).run P w = .ok (.enter g args) w) (v23 : ∀ w, (zeroValue (ρ.t 23)).run P w = .ok (enc zr) w) (ef : Enters P (ρ.f 10))
    (hcl : ∀ (s : ByteArray) (B : Nat) (W : World) (x : Θ.T e), W.cell? ⟨B, 0, none⟩ = some (.string s) → FnGives P g #[.pointer (some ⟨B, 0, none⟩)] #[enc x] (.bool (q s x)) W) :
    PCalls P Θ (ρ.f 10) ⟨delIn e g bt w, [(.ret, delOut e bt w)], fun x => delF q x⟩ := by
  refine ⟨ef, rfl, ?_⟩
  intro (x : ByteArray × Int × Int × Int × List (Θ.T w) × List (Θ.T e)) (z : ByteArray × Int × Int × Int × List (Θ.T w) × List (Θ.T e)) hx E vs bx rw_ hD hS
  letI hInh : Inhabited (Θ.T e) := ⟨(Θ.E e).dft⟩
  obtain ⟨s0, n1, n2, n3, l4, l⟩ := x
  have hx' : delF q (s0, n1, n2, n3, l4, l) = some z := hx
  unfold delF at hx'
  simp only at hx'
  split at hx' <;> try (cases hx'; done)
  rename_i hlen
  obtain ⟨hpos, hlt⟩ := hlen
  injection hx' with hz
  subst hz
  have hlo : ∀ y : List (Θ.T e), listOf (T := Θ.T) e (.sl e y) = y := fun y => by simp [listOf]
  let B0 : BoxS Θ.T := ⟨0, bt, [.v (.str s0), .v (.int .i64 n1), .v (.int .i64 n2), .v (.int .i64 n3), .v (.sl w l4)]⟩
  replace hS : Sim Θ E (⟨[.c (.row pin 0), .c (.fn g [(pin, 0)])], [(pin, B0)], [(pin, ⟨0, e, listOf (T := Θ.T) e (.sl e l)⟩)]⟩ : St Θ.T) vs.toArray E.w0 bx rw_ := hS
  rw [hlo] at hS
  have hln := hS.len
  obtain ⟨v0, v1, rfl⟩ : ∃ v0 v1, vs = [v0, v1] := by
    cases vs with
    | nil => simp at hln
    | cons a l => cases l with
      | nil => simp at hln
      | cons b l => cases l with
        | nil => exact ⟨a, b, rfl⟩
        | cons c l => simp at hln
  have h0 : v0 = rw_ pin 0 := hS.slots 0
  have h1 : v1 = .func (.func g) #[] #[.pointer (some ⟨bx pin 0, 0, none⟩)] := hS.slots 1
  obtain ⟨r1, us, r2, r3⟩ := hS.rows pin ⟨0, e, l⟩ (by simp [look])
  obtain ⟨bo, cs, bh, bc⟩ := hS.boxes pin B0 (by simp [look])
  have hbr := hS.br pin B0 pin ⟨0, e, l⟩ (by simp [look]) (by simp [look])
  have hgen : B0.gen = 0 := rfl
  rw [hgen] at bo bh hbr
  simp only at r1 r2 hbr
  have hflat : ∀ y : List (Θ.T e), ∀ p ∈ y.flatMap (Θ.enc e), pvFlat p = true := fun y p hp => by
    rw [List.mem_flatMap] at hp
    obtain ⟨q, _, hq⟩ := hp
    exact flat_enc hfl q p hq
  have hus := flat_us (hflat l) r3
  have hmap : ∀ y : List (Θ.T e), (y.flatMap (Θ.enc e)).map pvVal = y.map enc := fun y => by
    rw [List.map_flatMap]
    have : (fun b => List.map pvVal (Θ.enc e b)) = fun b => [enc b] := by funext b; exact he b
    rw [this]
    clear this
    induction y with
    | nil => rfl
    | cons a y ih => simp [List.flatMap_cons, ih]
  rw [hmap] at hus
  subst hus
  rw [← h0] at r1 r2 hbr
  rw [hsz] at r2
  replace r2 := r2.s hsl
  have hcs0 : ∃ cs', cs = .string s0 :: cs' := by
    have bc' : All2 (RCV Θ E.w0 _ bx rw_) [.v (.str s0), .v (.int .i64 n1), .v (.int .i64 n2), .v (.int .i64 n3), .v (.sl w l4)] cs := bc
    cases bc' with
    | cons h t => cases h; exact ⟨_, rfl⟩
  obtain ⟨cs', hcs'⟩ := hcs0
  have hw : E.w0.ownsRow 0 e 1 v0 l.length (l.map enc) := by
    rcases r2 with hw | ⟨ad, _, h, _⟩
    · exact hw
    · have : l.length = 0 := h
      omega
  rcases hw.2 with ⟨_, h⟩ | ⟨b, cap, cur, hv, _, hb, hnc, hcm, hcz, htk⟩
  · have : l.length = 0 := h
    omega
  have hob : ob v0 = some b := by rw [hv]; simp only [ob]; rw [if_neg (by omega)]
  have hblt : b < E.w0.heap.size := (Array.getElem?_eq_some_iff.1 hb).1
  have hBlt : bx pin 0 < E.w0.heap.size := (Array.getElem?_eq_some_iff.1 bh).1
  have hne : bx pin 0 ≠ b := fun ee => hbr (by rw [hob, ee])
  have hcell : E.w0.cell? ⟨bx pin 0, 0, none⟩ = some (.string s0) := by
    simp only [World.cell?, bh, hcs']
    rfl
  have hH : Holds enc E.w0 b 0 l.toArray := by
    intro j hj
    have hj' : j < l.length := by simpa using hj
    have hcj : cur[j]? = some (enc (l.toArray[j]!)) := by
      rw [getElem!_pos l.toArray j hj]
      have h3 : (cur.toList.take (l.length * 1))[j]? = (l.map enc)[j]? := by rw [htk]
      rw [List.getElem?_take_of_lt (by omega)] at h3
      rw [List.getElem?_map, List.getElem?_eq_getElem hj'] at h3
      simpa using h3
    constructor
    · simp only [World.cell?, hb]
      simpa using hcj
    · simp [World.frozen?, hb]
  have hPA : PredAt P g #[.pointer (some ⟨bx pin 0, 0, none⟩)] enc (q s0) E.w0 := fun W y hbl => hcl s0 _ W y ((hbl.cell (p := ⟨bx pin 0, 0, none⟩) hBlt).trans hcell)
  have hPO : PredOver P g #[.pointer (some ⟨bx pin 0, 0, none⟩)] enc (q s0) b 0 l.toArray.size E.w0 := fun n os dk y _ => hcl s0 _ _ y (by
    unfold sortWorld
    rw [cell?_grow _ _ _ (by show bx pin 0 < (putRow _ _ _ _ _).heap.size; rw [Go.Proofs.size_putRow]; exact hBlt), cell?_putRow_other _ _ b 0 _ _ (Or.inl hne)]
    exact hcell)
  have hcon := AnyE.slices_DeleteFunc L enc hO (q s0) g #[.pointer (some ⟨bx pin 0, 0, none⟩)] eg zr v23 b 0 cap l.toArray E.w0 hPA hPO hH (by simp; omega) (by simpa using hnc)
  have e1 : l.toArray.size = l.length := by simp
  have e2 : l.toArray.toList = l := by simp
  rw [e1, e2, ← hv] at hcon
  generalize hf : (l.filter fun x => !q s0 x) = r at hcon ⊢
  have hrl : r.length ≤ l.length := by rw [← hf]; exact List.length_filter_le _ _
  rw [h1]
  refine hcon.mono fun en w' ⟨hen, qd, hw'⟩ => ?_
  subst hen
  generalize hd : (r ++ List.replicate (l.length - r.length) zr).toArray = d at hw'
  have hds : d.size = l.length := by rw [← hd]; simp; omega
  have hsize : w'.heap.size = E.w0.heap.size := by rw [hw', Go.Proofs.size_putRow]; rfl
  have hother : ∀ c, c ≠ b → w'.heap[c]? = E.w0.heap[c]? := by
    intro c hcb
    rw [hw']
    unfold putRow mapBlock Sort.ahead
    simp [Array.getElem?_modify, Ne.symm hcb]
  have hblock : w'.heap[b]? = some (.cells (putCells enc 0 d cur) e (0, 0)) := by
    rw [hw']
    unfold putRow mapBlock Sort.ahead
    simp [Array.getElem?_modify, hb, onCells]
  let rw' : Nat → Nat → Value := fun k j => if k = pin + pin ∧ j = 0 then .slice (some ⟨b, 0, none⟩) r.length cap else rw_ k j
  have hrw1 : rw' (pin + pin) 0 = .slice (some ⟨b, 0, none⟩) r.length cap := by simp [rw']
  have hob' : ob (rw' (pin + pin) 0) = some b := by rw [hrw1]; simp only [ob]; rw [if_neg (by omega)]
  let S' : St Θ.T := ⟨[.c (.row (pin + pin) 0)], [(pin, B0)], [(pin + pin, ⟨0, e, r⟩)]⟩
  have lookB : ∀ k B, look S'.boxes k = some B → k = pin ∧ B = B0 := fun k B h => by
    simp only [S', look] at h
    split at h
    · rename_i hk; cases h; exact ⟨hk.symm, rfl⟩
    · cases h
  have lookR : ∀ k (R : RowS Θ.T), look S'.rows k = some R → k = pin + pin ∧ R = ⟨0, e, r⟩ := fun k B h => by
    simp only [S', look] at h
    split at h
    · rename_i hk; cases h; exact ⟨hk.symm, rfl⟩
    · cases h
  have hmut : ∀ c, Mut S' bx rw' c → Mut (⟨[.c (.row pin 0), .c (.fn g [(pin, 0)])], [(pin, B0)], [(pin, ⟨0, e, l⟩)]⟩ : St Θ.T) bx rw_ c := by
    rintro c (⟨k, B, h, h'⟩ | ⟨k, R, h, h'⟩)
    · obtain ⟨rfl, rfl⟩ := lookB k B h
      exact .inl ⟨pin, B0, by simp [look], h'⟩
    · obtain ⟨rfl, rfl⟩ := lookR k R h
      rw [hob'] at h'
      cases h'
      exact .inr ⟨pin, ⟨0, e, l⟩, by simp [look], by rw [← h0]; exact hob⟩
  have hFF : ∀ c, FF E (⟨[.c (.row pin 0), .c (.fn g [(pin, 0)])], [(pin, B0)], [(pin, ⟨0, e, l⟩)]⟩ : St Θ.T) bx rw_ E.w0 c → FF E S' bx rw' w' c := fun c ⟨h1, h2, h3⟩ => ⟨h1, by omega, fun h => h3 (hmut c h)⟩
  have hnb : ∀ c, FF E (⟨[.c (.row pin 0), .c (.fn g [(pin, 0)])], [(pin, B0)], [(pin, ⟨0, e, l⟩)]⟩ : St Θ.T) bx rw_ E.w0 c → w'.heap[c]? = E.w0.heap[c]? := fun c ⟨_, _, h3⟩ => hother c fun ee => h3 (.inr ⟨pin, ⟨0, e, l⟩, by simp [look], by rw [← h0, ee]; exact hob⟩)
  show Ex.ret = Ex.ret ∧ _
  refine ⟨rfl, [.slice (some ⟨b, 0, none⟩) r.length cap], bx, rw', rfl, ?_⟩
  show Sim Θ E (⟨[.c (.row (pin + pin) 0)], [(pin, B0)], [(pin + pin, ⟨0, e, listOf (T := Θ.T) e (.sl e r)⟩)]⟩ : St Θ.T) _ w' bx rw'
  rw [hlo]
  refine ⟨⟨?_, ?_, ?_, ?_, ?_⟩, fun k c h => ⟨(hS.pinB k c h).1, fun B hB hg => ?_⟩, fun k v h => ⟨(hS.pinR k v h).1, fun R hR => ?_⟩, fun k j => ?_, fun k B hB => ?_, fun k R hR => ?_, fun k B k' B' hB hB' _ => ?_, fun k R k' R' c hR hR' _ _ => ?_, fun k B j R hB hR => ?_, rfl, fun i => ?_⟩
  · rw [hw']; exact hS.below.os
  · rw [hw']; exact hS.below.tape
  · rw [hw']; exact hS.below.output
  · omega
  · intro c hc hcz
    refine hother c fun ee => hcz ?_
    subst ee
    rcases r1 c hob with h | h
    · exact h
    · omega
  · obtain ⟨rfl, rfl⟩ := lookB k B hB
    exact (hS.pinB _ c h).2 B0 (by simp [look]) hg
  · obtain ⟨rfl, rfl⟩ := lookR k R hR
    exfalso
    have := (hS.pinR _ v h).1
    exact absurd this (by decide)
  · simp only [rw']
    split
    · exact .inl ⟨_, _, _, rfl⟩
    · exact hS.rwsl k j
  · obtain ⟨rfl, rfl⟩ := lookB k B hB
    refine ⟨bo, cs, ?_, ?_⟩
    · rw [hgen, hother _ hne]; exact bh
    · have bc' : All2 (RCV Θ E.w0 (FF E (⟨[.c (.row pin 0), .c (.fn g [(pin, 0)])], [(pin, B0)], [(pin, ⟨0, e, l⟩)]⟩ : St Θ.T) bx rw_ E.w0) bx rw_) [.v (.str s0), .v (.int .i64 n1), .v (.int .i64 n2), .v (.int .i64 n3), .v (.sl w l4)] cs := bc
      have key : ∀ (x : PV Θ.T) u, RCV Θ E.w0 (FF E (⟨[.c (.row pin 0), .c (.fn g [(pin, 0)])], [(pin, B0)], [(pin, ⟨0, e, l⟩)]⟩ : St Θ.T) bx rw_ E.w0) bx rw_ (.v x) u → RCV Θ w' (FF E S' bx rw' w') bx rw' (.v x) u := fun x u h => Rep.mono h hFF hnb
      cases bc' with | cons h1 t => cases t with | cons h2 t => cases t with | cons h3 t => cases t with | cons h4 t => cases t with | cons h5 t =>
      cases t
      exact .cons (key _ _ h1) (.cons (key _ _ h2) (.cons (key _ _ h3) (.cons (key _ _ h4) (.cons (key _ _ h5) .nil))))
  · obtain ⟨rfl, rfl⟩ := lookR k R hR
    refine ⟨fun c hc => ?_, r.map enc, .inl ⟨hsl, .inl ⟨by simp [hsz], .inr ⟨b, cap, _, hrw1, Nat.zero_le _, hblock, (show r.length ≤ cap by omega), hcm, ?_, ?_⟩⟩⟩, ?_⟩
    · simp only at hc
      rw [hob'] at hc
      cases hc
      exact r1 b hob
    · simp [putCells, hcz, hsz]
    · show List.take (r.length * Θ.sz e) _ = _
      simp only [hsz, Nat.mul_one] at htk ⊢
      apply List.ext_getElem?
      intro t
      by_cases ht : t < r.length
      · rw [List.getElem?_take_of_lt ht]
        simp only [putCells, Array.toList_mapIdx, List.getElem?_mapIdx, Array.getElem?_toList]
        rw [Array.getElem?_eq_getElem (by omega)]
        simp only [Option.map_some, Nat.zero_le, true_and, Nat.zero_add, Nat.sub_zero]
        rw [if_pos (by omega), List.getElem?_map, List.getElem?_eq_getElem ht]
        simp only [Option.map_some]
        congr 2
        rw [getElem!_pos d t (by omega)]
        subst hd
        simp [ht]
      · rw [List.getElem?_eq_none (by simp [putCells]; omega), List.getElem?_eq_none (by simp; omega)]
    · rw [← hmap]
      exact us_flat (hflat r)
  · rw [(lookB k B hB).1, (lookB k' B' hB').1]
  · rw [(lookR k R hR).1, (lookR k' R' hR').1]
  · obtain ⟨rfl, rfl⟩ := lookB k B hB
    obtain ⟨rfl, rfl⟩ := lookR j R hR
    simp only
    rw [hob', hgen]
    intro ee
    cases ee
    exact hne rfl
  · cases i with
    | zero => exact hrw1.symm
    | succ i => simp [St.at_, RAV]
end Go.Den
