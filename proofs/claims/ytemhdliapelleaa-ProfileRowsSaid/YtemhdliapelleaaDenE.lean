/- Operations that make or write memory: what 'den' says of them, and that the machine does so. -/
import Derived.Test.YtemhdliapelleaaDenD
namespace Go.Den
open Go Go.RowKit

section
variable {T : TypeId → Type}
def CV.mB : CV T → List (Nat × Nat)
  | .box k g _ => [(k, g)]
  | .fn _ caps => caps
  | _ => []
def CV.mR : CV T → List (Nat × Nat)
  | .row r g => [(r, g)]
  | _ => []
def KV.mB : KV T → List (Nat × Nat)
  | .c x => x.mB
  | .agg cs => cs.flatMap CV.mB
  | .cel _ => []
def KV.mR : KV T → List (Nat × Nat)
  | .c x => x.mR
  | .agg cs => cs.flatMap CV.mR
  | .cel _ => []
def AV.mB : AV T → List (Nat × Nat)
  | .c x => x.mB
  | .agg cs => cs.flatMap CV.mB
  | .tup l => l.flatMap fun
    | .inl x => x.mB
    | .inr cs => cs.flatMap CV.mB
  | .mth _ l => l.flatMap fun
    | .inl x => x.mB
    | .inr cs => cs.flatMap CV.mB
  | .yld _ l => l.flatMap KV.mB
  | _ => []
def AV.mR : AV T → List (Nat × Nat)
  | .c x => x.mR
  | .agg cs => cs.flatMap CV.mR
  | .tup l => l.flatMap fun
    | .inl x => x.mR
    | .inr cs => cs.flatMap CV.mR
  | .mth _ l => l.flatMap fun
    | .inl x => x.mR
    | .inr cs => cs.flatMap CV.mR
  | .yld _ l => l.flatMap KV.mR
  | .rel r g _ _ _ => [(r, g)]
  | _ => []
def has (l : List (Nat × Nat)) (k g : Nat) : Bool := l.any fun p => p.1 == k && p.2 == g
/-- No address of a variable of this key and age is at hand. -/
def St.noB (s : St T) (k g : Nat) : Bool := s.slots.all (fun a => !(has a.mB k g)) && s.boxes.all fun b => b.2.cells.all fun c => !(has c.mB k g)
def St.noR (s : St T) (k g : Nat) : Bool := s.slots.all (fun a => !(has a.mR k g)) && s.boxes.all fun b => b.2.cells.all fun c => !(has c.mR k g)
def St.nextB (s : St T) (k : Nat) : Nat := match look s.boxes k with
  | some B => B.gen + 1
  | none => 0
def St.nextR (s : St T) (k : Nat) : Nat := match look s.rows k with
  | some R => R.gen + 1
  | none => 0
/-- A variable of the call's own is made. -/
def St.newBox (s : St T) (d t : Nat) (cs : List (CV T)) : Option (St T) :=
  if (s.noB d (s.nextB d) && Nat.blt d pin) then some { slots := s.slots.set d (.c (.box d (s.nextB d) 0)), boxes := keep s.boxes d ⟨s.nextB d, t, cs⟩, rows := s.rows } else none
end

theorem has_false {l : List (Nat × Nat)} {k g : Nat} (h : has l k g = false) : ∀ p ∈ l, ¬ (p.1 = k ∧ p.2 = g) := by
  intro p hp hc
  unfold has at h
  rw [List.any_eq_false] at h
  exact h p hp (by simp [hc.1, hc.2])
theorem look_keep {B : Type} (l : List (Nat × B)) (k : Nat) (b : B) (j : Nat) : look (keep l k b) j = if k = j then some b else look l j := by
  induction l with
  | nil => simp [keep, look]
  | cons x l ih =>
    obtain ⟨i, c⟩ := x
    simp only [keep]
    by_cases h : i = k
    · subst h
      by_cases hj : i = j
      · simp [look, hj]
      · simp [look, hj]
    · by_cases hj : i = j
      · subst hj
        have : ¬ k = i := fun e => h e.symm
        simp [look, h, this]
      · simp [look, h, hj, ih]
theorem mem_of_look {B : Type} {l : List (Nat × B)} {k : Nat} {b : B} (h : look l k = some b) : (k, b) ∈ l := by
  induction l with
  | nil => simp [look] at h
  | cons x l ih =>
    obtain ⟨i, c⟩ := x
    simp only [look] at h
    split at h
    · rename_i hi; subst hi; cases h; simp
    · exact List.mem_cons_of_mem _ (ih h)

section
variable {Θ : Tab} {W W' : World} {F F' : Nat → Prop} {bx bx' : Nat → Nat → Nat} {rw_ rw' : Nat → Nat → Value}
theorem RCV.trans (hF : ∀ b, F b → F' b) (hW : ∀ b, F b → W'.heap[b]? = W.heap[b]?) {c : CV Θ.T} {u : Value} (hb : ∀ p ∈ c.mB, bx' p.1 p.2 = bx p.1 p.2) (hr : ∀ p ∈ c.mR, rw' p.1 p.2 = rw_ p.1 p.2)
    (h : RCV Θ W F bx rw_ c u) : RCV Θ W' F' bx' rw' c u := by
  cases c with
  | v x => exact Rep.mono h hF hW
  | nil => exact h
  | e0 => exact h
  | np => exact h
  | row r g => have : u = rw_ r g := h; exact this.trans (hr (r, g) (by simp [CV.mR])).symm
  | box k g off =>
    have e : u = .pointer (some ⟨bx k g, off, none⟩) := h
    have := hb (k, g) (by simp [CV.mB])
    simp only at this
    show u = .pointer (some ⟨bx' k g, off, none⟩)
    rw [this]; exact e
  | fn f caps =>
    have e : u = .func (.func f) #[] (caps.map fun kg => Value.pointer (some ⟨bx kg.1 kg.2, 0, none⟩)).toArray := h
    show u = .func (.func f) #[] (caps.map fun kg => Value.pointer (some ⟨bx' kg.1 kg.2, 0, none⟩)).toArray
    rw [e]
    congr 2
    exact List.map_congr_left fun p hp => by rw [hb p (by simpa [CV.mB] using hp)]
theorem RCs.trans (hF : ∀ b, F b → F' b) (hW : ∀ b, F b → W'.heap[b]? = W.heap[b]?) {cs : List (CV Θ.T)} {us : List Value} (hb : ∀ p ∈ cs.flatMap CV.mB, bx' p.1 p.2 = bx p.1 p.2) (hr : ∀ p ∈ cs.flatMap CV.mR, rw' p.1 p.2 = rw_ p.1 p.2)
    (h : All2 (RCV Θ W F bx rw_) cs us) : All2 (RCV Θ W' F' bx' rw') cs us := by
  induction h with
  | nil => exact .nil
  | cons h t ih =>
    exact .cons (RCV.trans hF hW (fun p hp => hb p (by simp [hp])) (fun p hp => hr p (by simp [hp])) h)
      (ih (fun p hp => hb p (by simp only [List.flatMap_cons, List.mem_append]; exact .inr hp)) (fun p hp => hr p (by simp only [List.flatMap_cons, List.mem_append]; exact .inr hp)))
theorem RSums.trans (hF : ∀ b, F b → F' b) (hW : ∀ b, F b → W'.heap[b]? = W.heap[b]?) {l : List (CV Θ.T ⊕ List (CV Θ.T))} {us : List Value}
    (hb : ∀ p ∈ (AV.tup l).mB, bx' p.1 p.2 = bx p.1 p.2) (hr : ∀ p ∈ (AV.tup l).mR, rw' p.1 p.2 = rw_ p.1 p.2)
    (ha : All2 (RSum Θ W F bx rw_) l us) : All2 (RSum Θ W' F' bx' rw') l us := by
  induction ha with
  | nil => exact .nil
  | cons h t ih =>
    rename_i a b as bs
    refine .cons ?_ (ih (fun p hp => hb p ?_) (fun p hp => hr p ?_))
    · cases a with
      | inl c => exact RCV.trans hF hW (fun p hp => hb p (by simp [AV.mB, hp])) (fun p hp => hr p (by simp [AV.mR, hp])) h
      | inr cs =>
        obtain ⟨us, e, ha⟩ := h
        exact ⟨us, e, RCs.trans hF hW (fun p hp => hb p (by simp only [AV.mB, List.flatMap_cons, List.mem_append]; exact .inl hp)) (fun p hp => hr p (by simp only [AV.mR, List.flatMap_cons, List.mem_append]; exact .inl hp)) ha⟩
    · simp only [AV.mB, List.flatMap_cons, List.mem_append]; exact .inr hp
    · simp only [AV.mR, List.flatMap_cons, List.mem_append]; exact .inr hp
theorem RKV.trans (hF : ∀ b, F b → F' b) (hW : ∀ b, F b → W'.heap[b]? = W.heap[b]?) {v : KV Θ.T} {u : Value} (hb : ∀ p ∈ v.mB, bx' p.1 p.2 = bx p.1 p.2) (hr : ∀ p ∈ v.mR, rw' p.1 p.2 = rw_ p.1 p.2)
    (h : RKV Θ W F bx rw_ v u) : RKV Θ W' F' bx' rw' v u := by
  cases v with
  | c x => exact RCV.trans hF hW hb hr h
  | agg cs => obtain ⟨us, e, ha⟩ := h; exact ⟨us, e, RCs.trans hF hW hb hr ha⟩
  | cel xs =>
    obtain ⟨ad, e, hs, hf, hc⟩ := h
    refine ⟨ad, e, hs, fun hne => hF _ (hf hne), fun j x hx => ?_⟩
    obtain ⟨c, h1, h2⟩ := hc j x hx
    exact ⟨c, (World.cell?_of_block (by rw [Addr.add_block]; exact hW _ (hf fun e => by rw [e] at hx; simp at hx))).trans h1, Rep.mono h2 hF hW⟩
theorem RKVs.trans (hF : ∀ b, F b → F' b) (hW : ∀ b, F b → W'.heap[b]? = W.heap[b]?) {l : List (KV Θ.T)} {us : List Value} (hb : ∀ p ∈ l.flatMap KV.mB, bx' p.1 p.2 = bx p.1 p.2) (hr : ∀ p ∈ l.flatMap KV.mR, rw' p.1 p.2 = rw_ p.1 p.2)
    (h : All2 (RKV Θ W F bx rw_) l us) : All2 (RKV Θ W' F' bx' rw') l us := by
  induction h with
  | nil => exact .nil
  | cons h t ih =>
    exact .cons (RKV.trans hF hW (fun p hp => hb p (by simp [hp])) (fun p hp => hr p (by simp [hp])) h)
      (ih (fun p hp => hb p (by simp only [List.flatMap_cons, List.mem_append]; exact .inr hp)) (fun p hp => hr p (by simp only [List.flatMap_cons, List.mem_append]; exact .inr hp)))
theorem RRec.kept {lb y : Nat} {R : Rng} {rec : Loop} (h : RRec Θ W lb y R rec) (hW : W'.heap[lb]? = W.heap[lb]?) : RRec Θ W' lb y R rec :=
  ⟨hW.trans h.at_, h.ready, h.pending, h.tab, h.ps, h.assign, h.body, h.size⟩
theorem RAV.trans (hF : ∀ b, F b → F' b) (hW : ∀ b, F b → W'.heap[b]? = W.heap[b]?) {v : AV Θ.T} {u : Value} (hb : ∀ p ∈ v.mB, bx' p.1 p.2 = bx p.1 p.2) (hr : ∀ p ∈ v.mR, rw' p.1 p.2 = rw_ p.1 p.2)
    (h : RAV Θ W F bx rw_ v u) : RAV Θ W' F' bx' rw' v u := by
  cases v with
  | c x => exact RCV.trans hF hW hb hr h
  | agg cs => obtain ⟨us, e, ha⟩ := h; exact ⟨us, e, RCs.trans hF hW hb hr ha⟩
  | tup l => obtain ⟨us, e, ha⟩ := h; exact ⟨us, e, RSums.trans hF hW hb hr ha⟩
  | mth f l => obtain ⟨us, e, ha⟩ := h; exact ⟨us, e, RSums.trans hF hW hb hr ha⟩
  | cel xs =>
    obtain ⟨ad, e, hs, hf, hc⟩ := h
    refine ⟨ad, e, hs, fun hne => hF _ (hf hne), fun j x hx => ?_⟩
    obtain ⟨c, h1, h2⟩ := hc j x hx
    exact ⟨c, (World.cell?_of_block (by rw [Addr.add_block]; exact hW _ (hf fun e => by rw [e] at hx; simp at hx))).trans h1, Rep.mono h2 hF hW⟩
  | yld y l =>
    obtain ⟨lb, R, rec, e, hf, hr', ha⟩ := h
    exact ⟨lb, R, rec, e, hF _ hf, hr'.kept (hW _ hf), RKVs.trans hF hW hb hr ha⟩
  | rel r g i sz off =>
    obtain ⟨b, n, cap, e1, h0, h1, e2⟩ := h
    exact ⟨b, n, cap, (hr (r, g) (by simp [AV.mR])).trans e1, h0, h1, e2⟩
  | nilq e => exact h
  | skip => exact h
  | undef => exact h
end

section
variable {Θ : Tab} {E : Env} {s : St Θ.T} {tm : Array Value} {W : World} {bx : Nat → Nat → Nat} {rw_ : Nat → Nat → Value} {P : Program}
theorem noB_slots {k g : Nat} (h : s.noB k g = true) (i : Nat) : ∀ p ∈ (s.at_ i).mB, ¬ (p.1 = k ∧ p.2 = g) := by
  simp only [St.noB, Bool.and_eq_true, List.all_eq_true] at h
  unfold St.at_
  rw [List.getD_eq_getElem?_getD]
  cases hi : s.slots[i]? with
  | none => simp [AV.mB]
  | some a => exact has_false (by simpa using h.1 a (List.mem_of_getElem? hi))
theorem noB_boxes {k g : Nat} (h : s.noB k g = true) {j : Nat} {B : BoxS Θ.T} (hB : look s.boxes j = some B) : ∀ p ∈ B.cells.flatMap CV.mB, ¬ (p.1 = k ∧ p.2 = g) := by
  simp only [St.noB, Bool.and_eq_true, List.all_eq_true] at h
  intro p hp
  obtain ⟨c, hc, hp⟩ := List.mem_flatMap.1 hp
  exact has_false (by simpa using h.2 _ (mem_of_look hB) c hc) p hp
theorem noR_slots {k g : Nat} (h : s.noR k g = true) (i : Nat) : ∀ p ∈ (s.at_ i).mR, ¬ (p.1 = k ∧ p.2 = g) := by
  simp only [St.noR, Bool.and_eq_true, List.all_eq_true] at h
  unfold St.at_
  rw [List.getD_eq_getElem?_getD]
  cases hi : s.slots[i]? with
  | none => simp [AV.mR]
  | some a => exact has_false (by simpa using h.1 a (List.mem_of_getElem? hi))
theorem noR_boxes {k g : Nat} (h : s.noR k g = true) {j : Nat} {B : BoxS Θ.T} (hB : look s.boxes j = some B) : ∀ p ∈ B.cells.flatMap CV.mR, ¬ (p.1 = k ∧ p.2 = g) := by
  simp only [St.noR, Bool.and_eq_true, List.all_eq_true] at h
  intro p hp
  obtain ⟨c, hc, hp⟩ := List.mem_flatMap.1 hp
  exact has_false (by simpa using h.2 _ (mem_of_look hB) c hc) p hp
theorem at_set (l : List (AV Θ.T)) (bs : List (Nat × BoxS Θ.T)) (rs : List (Nat × RowS Θ.T)) (d : Nat) (v : AV Θ.T) (i : Nat) (hd : d < l.length) :
    (⟨l.set d v, bs, rs⟩ : St Θ.T).at_ i = if d = i then v else l.getD i .undef := by
  simp only [St.at_, List.getD_eq_getElem?_getD, List.getElem?_set]
  split
  · rename_i h; subst h; simp [hd]
  · rfl
theorem tm_set (tm : Array Value) (d : Nat) (u : Value) (i : Nat) (hd : d < tm.size) : (tm.setIfInBounds d u).getD i undef = if d = i then u else tm.getD i undef := by
  simp only [Array.getD_eq_getD_getElem?, Array.getElem?_setIfInBounds]
  split
  · rename_i h; subst h; simp [hd]
  · rfl
/-- Slot by slot, behind the writing of one. -/
theorem slots_put {W' : World} {F' : Nat → Prop} {bx' : Nat → Nat → Nat} {rw' : Nat → Nat → Value} {bs : List (Nat × BoxS Θ.T)} {rs : List (Nat × RowS Θ.T)} (hl : s.slots.length = tm.size)
    (d : Nat) {v : AV Θ.T} {u : Value} (hv : RAV Θ W' F' bx' rw' v u) (h : ∀ i, RAV Θ W' F' bx' rw' (s.at_ i) (tm.getD i undef)) (i : Nat) :
    RAV Θ W' F' bx' rw' ((⟨s.slots.set d v, bs, rs⟩ : St Θ.T).at_ i) ((tm.setIfInBounds d u).getD i undef) := by
  by_cases hd : d < s.slots.length
  · rw [at_set _ _ _ _ _ _ hd, tm_set _ _ _ _ (by omega)]
    split
    · exact hv
    · exact h i
  · have e1 : s.slots.set d v = s.slots := List.set_eq_of_length_le (by omega)
    have e2 : tm.setIfInBounds d u = tm := by
      apply Array.ext_getElem?
      intro j
      rw [Array.getElem?_setIfInBounds]
      split
      · rename_i hj; subst hj
        rw [if_neg (by omega)]
        exact (Array.getElem?_eq_none (by omega)).symm
      · rfl
    rw [e1, e2]
    exact h i
/-- A slot is written, nothing else. -/
theorem Sim.put (hS : Sim Θ E s tm W bx rw_) (d : Nat) {v : AV Θ.T} {u : Value} (hv : RAV Θ W (FF E s bx rw_ W) bx rw_ v u) :
    Sim Θ E (s.put (some d) v) (tm.setIfInBounds d u) W bx rw_ where
  below := hS.below
  pinB := hS.pinB
  pinR := hS.pinR
  rwsl := hS.rwsl
  boxes := hS.boxes
  rows := hS.rows
  bb := hS.bb
  rr := hS.rr
  br := hS.br
  len := by simp [St.put, hS.len]
  slots := slots_put hS.len d hv hS.slots
/-- A variable of the call's own is made. -/
theorem Sim.newBox (hS : Sim Θ E s tm W bx rw_) {d t : Nat} {cs : List (CV Θ.T)} {us : List Value} {s' : St Θ.T} (h : s.newBox d t cs = some s') (hc : All2 (RCV Θ W (FF E s bx rw_ W) bx rw_) cs us) (hcs : ∀ c ∈ cs, has c.mB d (s.nextB d) = false) :
    ∃ bx', Sim Θ E s' (tm.setIfInBounds d (.pointer (some ⟨W.heap.size, 0, none⟩))) (W.alloc (.cells us.toArray t)) bx' rw_ := by
  unfold St.newBox at h
  split at h <;> try (cases h; done)
  rename_i hn
  simp only [Bool.and_eq_true, Nat.blt_eq] at hn
  obtain ⟨hn, hdp⟩ := hn
  cases h
  generalize hg : s.nextB d = g at *
  let bx' : Nat → Nat → Nat := fun k q => if k = d ∧ q = g then W.heap.size else bx k q
  have hbx : ∀ l : List (Nat × Nat), (∀ p ∈ l, ¬ (p.1 = d ∧ p.2 = g)) → ∀ p ∈ l, bx' p.1 p.2 = bx p.1 p.2 := fun l hl p hp => if_neg (hl p hp)
  have hlook : ∀ k B, look (keep s.boxes d ⟨g, t, cs⟩) k = some B → (k = d ∧ B = ⟨g, t, cs⟩) ∨ (k ≠ d ∧ look s.boxes k = some B) := by
    intro k B hB
    rw [look_keep] at hB
    split at hB
    · rename_i e; cases hB; exact .inl ⟨e.symm, rfl⟩
    · rename_i e; exact .inr ⟨fun e' => e e'.symm, hB⟩
  have hlt : ∀ k B, look s.boxes k = some B → bx k B.gen < W.heap.size := fun k B hB => by
    obtain ⟨_, cv, hh, _⟩ := hS.boxes k B hB
    exact (Array.getElem?_eq_some_iff.1 hh).1
  have hrlt : ∀ r R b, look s.rows r = some R → ob (rw_ r R.gen) = some b → b < W.heap.size := fun r R b hR hb => by
    obtain ⟨_, us, hown, _⟩ := hS.rows r R hR
    exact hown.lt hb
  have hF : ∀ b, FF E s bx rw_ W b → FF E ⟨s.slots.set d (.c (.box d g 0)), keep s.boxes d ⟨g, t, cs⟩, s.rows⟩ bx' rw_ (W.alloc (.cells us.toArray t)) b := by
    rintro b ⟨h1, h2, h3⟩
    refine ⟨h1, by simp; omega, ?_⟩
    rintro (⟨k, B, hB, hb⟩ | hr)
    · rcases hlook k B hB with ⟨rfl, rfl⟩ | ⟨hk, hB'⟩
      · simp [bx'] at hb; omega
      · have : bx' k B.gen = bx k B.gen := if_neg (fun e => hk e.1)
        exact h3 (.inl ⟨k, B, hB', this ▸ hb⟩)
    · exact h3 (.inr hr)
  have hW : ∀ b, FF E s bx rw_ W b → (W.alloc (.cells us.toArray t)).heap[b]? = W.heap[b]? := fun b hb => heap_alloc_old W _ hb.2.1
  have hown : ∀ b, b < W.heap.size → (W.alloc (.cells us.toArray t)).heap[b]? = W.heap[b]? := fun b hb => heap_alloc_old W _ hb
  refine ⟨bx', ⟨hS.below.alloc _, fun k b hkb => ?_, hS.pinR, hS.rwsl, fun k B hB => ?_, fun r R hR => ?_, ?_, hS.rr, ?_, by simp [hS.len], ?_⟩⟩
  · obtain ⟨h1, h2⟩ := hS.pinB k b hkb
    refine ⟨h1, fun B hB h0 => ?_⟩
    rcases hlook k B hB with ⟨rfl, _⟩ | ⟨hk, hB'⟩
    · omega
    · have e : bx' k 0 = bx k 0 := if_neg (fun e => hk e.1)
      rw [e]; exact h2 B hB' h0
  · rcases hlook k B hB with ⟨rfl, rfl⟩ | ⟨hk, hB'⟩
    · refine ⟨?_, us, ?_, ?_⟩
      · simp only [bx']; simpa using Env.own_new hS.below (Nat.le_refl _)
      · simp only [bx']; simpa using heap_alloc_new W _
      · exact RCs.trans hF hW (hbx _ (fun p hp => by
          obtain ⟨c, hc1, hp⟩ := List.mem_flatMap.1 hp
          exact has_false (hcs c hc1) p hp)) (fun _ _ => rfl) hc
    · have e : bx' k B.gen = bx k B.gen := if_neg (fun e => hk e.1)
      obtain ⟨h1, cv, hh, ha⟩ := hS.boxes k B hB'
      exact ⟨by rw [e]; exact h1, cv, by rw [e, hown _ (hlt k B hB')]; exact hh, RCs.trans hF hW (hbx _ (noB_boxes hn hB')) (fun _ _ => rfl) ha⟩
  · obtain ⟨hob, vs, ho, ha⟩ := hS.rows r R hR
    exact ⟨hob, vs, ho.alloc _, ha.mono fun x u hx => Rep.mono hx hF hW⟩
  · intro k B k' B' hB hB' he
    rcases hlook k B hB with ⟨rfl, rfl⟩ | ⟨hk, hB1⟩ <;> rcases hlook k' B' hB' with ⟨rfl, rfl⟩ | ⟨hk', hB1'⟩
    · rfl
    · have e : bx' k' B'.gen = bx k' B'.gen := if_neg (fun e => hk' e.1)
      have e2 : bx' k g = W.heap.size := if_pos ⟨rfl, rfl⟩
      have := hlt k' B' hB1'
      rw [e] at he
      simp only [e2] at he
      omega
    · have e : bx' k B.gen = bx k B.gen := if_neg (fun e => hk e.1)
      have e2 : bx' k' g = W.heap.size := if_pos ⟨rfl, rfl⟩
      have := hlt k B hB1
      rw [e] at he
      simp only [e2] at he
      omega
    · have e : bx' k B.gen = bx k B.gen := if_neg (fun e => hk e.1)
      have e' : bx' k' B'.gen = bx k' B'.gen := if_neg (fun e => hk' e.1)
      rw [e, e'] at he
      exact hS.bb k B k' B' hB1 hB1' he
  · intro k B r R hB hR he
    rcases hlook k B hB with ⟨rfl, rfl⟩ | ⟨hk, hB1⟩
    · have e2 : bx' k g = W.heap.size := if_pos ⟨rfl, rfl⟩
      simp only [e2] at he
      have := hrlt r R _ hR he
      omega
    · have e : bx' k B.gen = bx k B.gen := if_neg (fun e => hk e.1)
      rw [e] at he
      exact hS.br k B r R hB1 hR he
  · exact slots_put hS.len d (by simp [RAV, RCV, bx']) (fun i => RAV.trans hF hW (hbx _ (noB_slots hn i)) (fun _ _ => rfl) (hS.slots i))
/-- A row of the call's own is made, or grows. -/
theorem Sim.newRow (hS : Sim Θ E s tm W bx rw_) {d r g : Nat} {e : TypeId} {l : List (Θ.T e)} {v' : Value} {W' : World} {us : List Value} {blk : Option Nat} (hn : s.noR r g = true) (hpin : r < pin ∨ 0 < g)
    (hown : Owns W' e (Θ.sz e) v' l.length us) (hrep : All2 (fun x u => Rep Θ W (FF E s bx rw_ W) u x) (l.flatMap (Θ.enc e)) us) (hg : W.grownBy W' blk)
    (hblk : ∀ b, blk = some b → ∃ R, look s.rows r = some R ∧ ob (rw_ r R.gen) = some b) (hnew : ∀ b, ob v' = some b → blk = some b ∨ W.heap.size ≤ b) :
    ∃ rw', Sim Θ E ⟨s.slots.set d (.c (.row r g)), s.boxes, keep s.rows r ⟨g, e, l⟩⟩ (tm.setIfInBounds d v') W' bx rw' := by
  let rw' : Nat → Nat → Value := fun k q => if k = r ∧ q = g then v' else rw_ k q
  have hrw : ∀ l : List (Nat × Nat), (∀ p ∈ l, ¬ (p.1 = r ∧ p.2 = g)) → ∀ p ∈ l, rw' p.1 p.2 = rw_ p.1 p.2 := fun l hl p hp => if_neg (hl p hp)
  have hlook : ∀ k R, look (keep s.rows r ⟨g, e, l⟩) k = some R → (k = r ∧ R = ⟨g, e, l⟩) ∨ (k ≠ r ∧ look s.rows k = some R) := by
    intro k R hR
    rw [look_keep] at hR
    split at hR
    · rename_i e; cases hR; exact .inl ⟨e.symm, rfl⟩
    · rename_i e; exact .inr ⟨fun e' => e e'.symm, hR⟩
  have hlt : ∀ k B, look s.boxes k = some B → bx k B.gen < W.heap.size := fun k B hB => by
    obtain ⟨_, cv, hh, _⟩ := hS.boxes k B hB
    exact (Array.getElem?_eq_some_iff.1 hh).1
  have hrlt : ∀ r R b, look s.rows r = some R → ob (rw_ r R.gen) = some b → b < W.heap.size := fun r R b hR hb => by
    obtain ⟨_, us, hown, _⟩ := hS.rows r R hR
    exact hown.lt hb
  have hrbase : ∀ r R b, look s.rows r = some R → ob (rw_ r R.gen) = some b → E.Own b := fun r R b hR hb => (hS.rows r R hR).1 b hb
  have hkeep : ∀ b, b < W.heap.size → blk ≠ some b → W'.heap[b]? = W.heap[b]? := fun b hb hne => hg.block b hb (fun e => hne e.symm)
  have hfar : ∀ b, FF E s bx rw_ W b → blk ≠ some b := by
    rintro b ⟨_, _, h3⟩ hb
    obtain ⟨R, hR, hRb⟩ := hblk b hb
    exact h3 (.inr ⟨r, R, hR, hRb⟩)
  have hF : ∀ b, FF E s bx rw_ W b → FF E ⟨s.slots.set d (.c (.row r g)), s.boxes, keep s.rows r ⟨g, e, l⟩⟩ bx rw' W' b := by
    rintro b hb
    have hnb := hfar b hb
    obtain ⟨h1, h2, h3⟩ := hb
    refine ⟨h1, Nat.lt_of_lt_of_le h2 hg.size, ?_⟩
    rintro (hb | ⟨k, R, hR, hb⟩)
    · exact h3 (.inl hb)
    · rcases hlook k R hR with ⟨rfl, rfl⟩ | ⟨hk, hR'⟩
      · have e1 : rw' k g = v' := if_pos ⟨rfl, rfl⟩
        simp only [e1] at hb
        rcases hnew b hb with h | h
        · exact hnb h
        · omega
      · have : rw' k R.gen = rw_ k R.gen := if_neg (fun e => hk e.1)
        rw [this] at hb
        exact h3 (.inr ⟨k, R, hR', hb⟩)
  have hW : ∀ b, FF E s bx rw_ W b → W'.heap[b]? = W.heap[b]? := fun b hb => hkeep b hb.2.1 (hfar b hb)
  have hbox : ∀ k B, look s.boxes k = some B → blk ≠ some (bx k B.gen) := by
    intro k B hB hb
    obtain ⟨R, hR, hRb⟩ := hblk _ hb
    exact hS.br k B r R hB hR hRb
  have hrow : ∀ k R, k ≠ r → look s.rows k = some R → ob (rw_ k R.gen) = none ∨ ob (rw_ k R.gen) ≠ blk := by
    intro k R hk hR
    cases ho : ob (rw_ k R.gen) with
    | none => exact .inl rfl
    | some b =>
      refine .inr fun hb => ?_
      obtain ⟨R', hR', hRb⟩ := hblk b hb.symm
      exact hk (hS.rr k R r R' b hR hR' ho hRb)
  have hbelow : Keeps E W' := hS.below.grown hg (fun b hb => by
    obtain ⟨R, hR, hRb⟩ := hblk b hb
    exact hrbase r R b hR hRb)
  have hvlt : ∀ b, ob v' = some b → E.Own b := fun b hb => by
    rcases hnew b hb with h | h
    · obtain ⟨R, hR, hRb⟩ := hblk b h
      exact hrbase r R b hR hRb
    · exact Env.own_new hS.below h
  refine ⟨rw', ⟨hbelow, hS.pinB, fun k v hkv => ?_, fun k q => ?_, fun k B hB => ?_, fun k R hR => ?_, hS.bb, ?_, ?_, by simp [hS.len], ?_⟩⟩
  · obtain ⟨h1, h2⟩ := hS.pinR k v hkv
    refine ⟨h1, fun R hR h0 => ?_⟩
    rcases hlook k R hR with ⟨rfl, rfl⟩ | ⟨hk, hR'⟩
    · simp only at h0; have := pin_le h1; omega
    · have e : rw' k 0 = rw_ k 0 := if_neg (fun e => hk e.1)
      rw [e]; exact h2 R hR' h0
  · simp only [rw']
    split
    · exact hown.slice
    · exact hS.rwsl k q
  · obtain ⟨h1, cv, hh, ha⟩ := hS.boxes k B hB
    exact ⟨h1, cv, by rw [hkeep _ (hlt k B hB) (hbox k B hB)]; exact hh, RCs.trans hF hW (fun _ _ => rfl) (hrw _ (noR_boxes hn hB)) ha⟩
  · rcases hlook k R hR with ⟨rfl, rfl⟩ | ⟨hk, hR'⟩
    · have e1 : rw' k g = v' := if_pos ⟨rfl, rfl⟩
      exact ⟨by simp only [e1]; exact hvlt, us, by simp only [e1]; exact hown, hrep.mono fun x u hx => Rep.mono hx hF hW⟩
    · have e1 : rw' k R.gen = rw_ k R.gen := if_neg (fun e => hk e.1)
      obtain ⟨hob, vs, ho, ha⟩ := hS.rows k R hR'
      exact ⟨by rw [e1]; exact hob, vs, by rw [e1]; exact ho.kept hg (hrow k R hk hR'), ha.mono fun x u hx => Rep.mono hx hF hW⟩
  · intro k R k' R' b hR hR' hb hb'
    have one : ∀ q R1, q ≠ r → look s.rows q = some R1 → rw' q R1.gen = rw_ q R1.gen := fun q R1 hq _ => if_neg (fun e => hq e.1)
    have two : rw' r g = v' := if_pos ⟨rfl, rfl⟩
    have clash : ∀ q R1, q ≠ r → look s.rows q = some R1 → ob (rw_ q R1.gen) = some b → ob v' = some b → False := by
      intro q R1 hq hR1 h1 h2
      rcases hnew b h2 with h | h
      · rcases hrow q R1 hq hR1 with h' | h'
        · rw [h'] at h1; cases h1
        · exact h' (h1.trans h.symm)
      · have := hrlt q R1 b hR1 h1
        omega
    rcases hlook k R hR with ⟨rfl, rfl⟩ | ⟨hk, hR1⟩ <;> rcases hlook k' R' hR' with ⟨rfl, rfl⟩ | ⟨hk', hR1'⟩
    · rfl
    · simp only [two] at hb
      rw [one _ _ hk' hR1'] at hb'
      exact (clash _ _ hk' hR1' hb' hb).elim
    · simp only [two] at hb'
      rw [one _ _ hk hR1] at hb
      exact (clash _ _ hk hR1 hb hb').elim
    · rw [one _ _ hk hR1] at hb
      rw [one _ _ hk' hR1'] at hb'
      exact hS.rr k R k' R' b hR1 hR1' hb hb'
  · intro k B q R hB hR he
    rcases hlook q R hR with ⟨rfl, rfl⟩ | ⟨hq, hR1⟩
    · have two : rw' q g = v' := if_pos ⟨rfl, rfl⟩
      simp only [two] at he
      rcases hnew _ he with h | h
      · exact hbox k B hB h
      · have := hlt k B hB
        omega
    · have : rw' q R.gen = rw_ q R.gen := if_neg (fun e => hq e.1)
      rw [this] at he
      exact hS.br k B q R hB hR1 he
  · exact slots_put hS.len d (by simp [RAV, RCV, rw']) (fun i => RAV.trans hF hW (fun _ _ => rfl) (hrw _ (noR_slots hn i)) (hS.slots i))
end
end Go.Den
