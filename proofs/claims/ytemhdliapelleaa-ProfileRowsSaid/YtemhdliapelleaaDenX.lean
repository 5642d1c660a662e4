/- Behind a call: the caller's state stands for the machine's world again. -/
import Derived.Test.YtemhdliapelleaaDenV
namespace Go.Den
open Go Go.RowKit

def tupleOf (us : List Value) : Value := if h : us.toArray.size = 1 then us.toArray[0] else .tuple us.toArray
def putA (tm : Array Value) (dst : Option Nat) (v : Value) : Array Value := match dst with
  | some d => tm.setIfInBounds d v
  | none => tm
section
variable {Θ : Tab} {E : Env} {s : St Θ.T} {tm : Array Value} {W : World} {bx : Nat → Nat → Nat} {rw_ : Nat → Nat → Value}
theorem renCaps_spec {nB : List (Nat × Nat × Nat)} : ∀ (l l' : List (Nat × Nat)), renCaps nB l = some l' → All2 (fun p q => p.2 = 0 ∧ look nB p.1 = some q) l l' := by
  intro l
  induction l with
  | nil => intro l' h; cases h; exact .nil
  | cons p l ih =>
    intro l' h
    simp only [renCaps] at h
    split at h <;> try (cases h; done)
    rename_i hp
    split at h <;> try (cases h; done)
    rename_i kg hkg
    split at h <;> try (cases h; done)
    rename_i l2 hl
    cases h
    exact .cons ⟨by simpa using hp, hkg⟩ (ih l2 hl)
theorem newBs_spec {nB : List (Nat × Nat × Nat)} {nR : List (Nat × CV Θ.T)} : ∀ (l bs : List (Nat × BoxS Θ.T)), newBs nB nR l = some bs → All2 (fun b b' => ∃ kg cs, look nB b.1 = some kg ∧ renCs nB nR b.2.cells = some cs ∧ b' = (kg.1, ⟨kg.2, b.2.ty, cs⟩)) l bs := by
  intro l
  induction l with
  | nil => intro bs h; cases h; exact .nil
  | cons b l ih =>
    intro bs h
    simp only [newBs] at h
    split at h <;> try (cases h; done)
    rename_i kg hkg
    split at h <;> try (cases h; done)
    rename_i cs hcs
    split at h <;> try (cases h; done)
    rename_i l2 hl
    cases h
    exact .cons ⟨kg, cs, hkg, hcs, rfl⟩ (ih l2 hl)
theorem newRs_spec {nR : List (Nat × CV Θ.T)} : ∀ (l rs : List (Nat × RowS Θ.T)), newRs nR l = some rs → (∀ b' ∈ rs, ∃ b ∈ l, ∃ q g, look nR b.1 = some (.row q g) ∧ b' = (q, ⟨g, b.2.e, b.2.l⟩)) ∧ ∀ b ∈ l, ∀ q g, look nR b.1 = some (.row q g) → (q, ⟨g, b.2.e, b.2.l⟩) ∈ rs := by
  intro l
  induction l with
  | nil => intro rs h; cases h; exact ⟨fun b hb => (by cases hb), fun b hb => (by cases hb)⟩
  | cons b l ih =>
    intro rs h
    simp only [newRs] at h
    split at h <;> try (cases h; done)
    rename_i c hc
    split at h <;> try (cases h; done)
    rename_i l2 hl
    obtain ⟨i1, i2⟩ := ih l2 hl
    split at h <;> try (cases h; done)
    · rename_i q g
      cases h
      refine ⟨fun b' hb' => ?_, fun b1 hb1 q1 g1 hl1 => ?_⟩
      · rcases List.mem_cons.1 hb' with e | e
        · exact ⟨b, by simp, q, g, hc, e⟩
        · obtain ⟨b1, h1, h2⟩ := i1 b' e; exact ⟨b1, by simp [h1], h2⟩
      · rcases List.mem_cons.1 hb1 with e | e
        · rw [e] at hl1 ⊢; rw [hc] at hl1; cases hl1; simp
        · exact List.mem_cons_of_mem _ (i2 b1 e q1 g1 hl1)
    · cases h
      refine ⟨fun b' hb' => ?_, fun b1 hb1 q1 g1 hl1 => ?_⟩
      · obtain ⟨b1, h1, h2⟩ := i1 b' hb'; exact ⟨b1, by simp [h1], h2⟩
      · rcases List.mem_cons.1 hb1 with e | e
        · rw [e] at hl1; rw [hc] at hl1; cases hl1
        · exact i2 b1 e q1 g1 hl1
set_option maxHeartbeats 1000000 in
theorem called (hS : Sim Θ E s tm W bx rw_) {avs : List (AV Θ.T)} {hin : Shape} {y : Ext Θ.T hin} (hy : hin.extB ⟨avs, s.boxes, s.rows⟩ = some y) (hok : hin.lentOk = true) {t : St Θ.T} {us : List Value} {W' : World} {bx2 : Nat → Nat → Nat} {rw2 : Nat → Nat → Value}
    (hT : Sim Θ (callEnv E s W bx rw_ hin y false) t us.toArray W' bx2 rw2) {fe : TypeId → Bool} {flat : Bool} {dst : Option Nat} {s' : St Θ.T} (h : after fe s hin y t flat dst = some s') : ∃ bx3 rw3, Sim Θ E s' (putA tm dst (tupleOf us)) W' bx3 rw3 := by
  unfold after at h
  split at h <;> try (cases h; done)
  split at h <;> try (cases h; done)
  rename_i nB hnB
  split at h <;> try (cases h; done)
  rename_i nR hnR
  split at h <;> try (cases h; done)
  rename_i bs hbs
  split at h <;> try (cases h; done)
  rename_i rs hrs
  split at h <;> try (cases h; done)
  rename_i v hv
  split at h <;> try (cases h; done)
  rename_i hap
  cases h
  simp only [Bool.and_eq_true] at hap
  obtain ⟨⟨hatb, hatr⟩, hanb, hanr⟩ := hap
  have ht := told hy
  obtain ⟨kB, gB, eB⟩ := renBs_spec _ _ hnB
  obtain ⟨kR, gR, eR⟩ := renRs_spec _ _ hnR
  have sB := newBs_spec _ _ hbs
  obtain ⟨sR, sR'⟩ := newRs_spec _ _ hrs
  have hanb' : apartKs (keysOf nB) = true := by rw [kB]; exact hatb
  have hanr' : apartKs (keysOf nR) = true := by rw [kR]; exact hatr
  let bx3 := bxA bx bx2 nB
  let rw3 := rwA rw_ rw2 nR
  -- the new names
  have nbx : ∀ k2 kg, look nB k2 = some kg → bx3 kg.1 kg.2 = bx2 k2 0 := by
    intro k2 kg hl
    have := invB_of hanb (k := kg.1) (g := kg.2) (mem_of_look hl)
    simp only [bx3, bxA, this]
  have nrw : ∀ r2 q g, look nR r2 = some (.row q g) → rw3 q g = rw2 r2 0 := by
    intro r2 q g hl
    have := invR_of hanr (mem_of_look hl)
    simp only [rw3, rwA, this]
  -- what was lent is named as it was
  have lentB : ∀ k kg, keyIn hin.boxes k = true → look y.xs k = some kg → (∃ B2, look t.boxes k = some B2) → bx2 k 0 = bx kg.1 kg.2 := by
    rintro k kg hk hl ⟨B2, hB2⟩
    obtain ⟨B', hB'⟩ := st_hasB hy hk
    obtain ⟨_, h2⟩ := hT.pinB k (bxN bx y.xs k 0) ⟨lentOk_B hok hk, B', hB', rfl⟩
    rw [h2 B2 hB2 (gB _ (mem_of_look hB2))]
    simp only [bxN, hl]
  have lentR : ∀ r, keyIn hin.rows r = true → (∃ R2, look t.rows r = some R2) → rw2 r 0 = rwN rw_ y.bs r 0 := by
    rintro r hk ⟨R2, hR2⟩
    obtain ⟨R', hR'⟩ := st_hasR hy hk
    obtain ⟨_, h2⟩ := hT.pinR r (rwN rw_ y.bs r 0) ⟨lentOk_R hok hk, R', hR', rfl⟩
    exact h2 R2 hR2 (gR _ (mem_of_look hR2))
  have inT : ∀ {k2 : Nat} {kg : Nat × Nat}, (k2, kg) ∈ nB → ∃ B2, look t.boxes k2 = some B2 := by
    intro k2 kg hm
    have := mem_keysOf hm
    rw [kB] at this
    obtain ⟨b, hb⟩ := of_mem_keysOf this
    exact ⟨b, look_of_mem hatb hb⟩
  have inTR : ∀ {k2 : Nat} {c : CV Θ.T}, (k2, c) ∈ nR → ∃ R2, look t.rows k2 = some R2 := by
    intro k2 kg hm
    have := mem_keysOf hm
    rw [kR] at this
    obtain ⟨b, hb⟩ := of_mem_keysOf this
    exact ⟨b, look_of_mem hatr hb⟩
  -- old names lead where they led
  have oldbx : ∀ k g, (s.noB k g = false) → bx3 k g = bx k g := by
    intro k g hno
    simp only [bx3, bxA]
    cases hi : invB nB k g with
    | none => rfl
    | some k2 =>
      have hm := invB_some hi
      rcases entB_spec (eB _ hm) with ⟨h1, h2⟩ | ⟨h1, _⟩
      · exact lentB k2 (k, g) h1 h2 (inT hm)
      · simp only at h1; rw [hno] at h1; cases h1
  have oldrw : ∀ k g, (s.noR k g = false) → rw3 k g = rw_ k g := by
    intro k g hno
    simp only [rw3, rwA]
    cases hi : invR nR k g with
    | none => rfl
    | some k2 =>
      have hm := invR_some hi
      rcases entR_spec (eR _ hm) with ⟨h1, h2⟩ | ⟨q, g', e, h1, _⟩
      · have e := lentR k2 h1 (inTR hm)
        simp only at h2
        simp only [rwN, h2] at e
        exact e
      · cases e; rw [hno] at h1; cases h1
  have refB : ∀ (l : List (Nat × Nat)), (∀ k g, s.noB k g = true → ∀ p ∈ l, ¬ (p.1 = k ∧ p.2 = g)) → ∀ p ∈ l, bx3 p.1 p.2 = bx p.1 p.2 := by
    intro l hl p hp
    refine oldbx p.1 p.2 ?_
    cases hn : s.noB p.1 p.2 with
    | false => rfl
    | true => exact absurd ⟨rfl, rfl⟩ (hl _ _ hn p hp)
  have refR : ∀ (l : List (Nat × Nat)), (∀ k g, s.noR k g = true → ∀ p ∈ l, ¬ (p.1 = k ∧ p.2 = g)) → ∀ p ∈ l, rw3 p.1 p.2 = rw_ p.1 p.2 := by
    intro l hl p hp
    refine oldrw p.1 p.2 ?_
    cases hn : s.noR p.1 p.2 with
    | false => rfl
    | true => exact absurd ⟨rfl, rfl⟩ (hl _ _ hn p hp)
  -- what there is behind the call
  have lookB : ∀ k B, look (bs ++ dropBoxes s.boxes (keysOf bs ++ lentBs y.xs hin.boxes)) k = some B →
      (∃ k2 B2 cs, look t.boxes k2 = some B2 ∧ look nB k2 = some (k, B.gen) ∧ renCs nB nR B2.cells = some cs ∧ B.ty = B2.ty ∧ B.cells = cs ∧ bx3 k B.gen = bx2 k2 0) ∨
      (look s.boxes k = some B ∧ k ∉ lentBs y.xs hin.boxes ∧ bx3 k B.gen = bx k B.gen) := by
    intro k B hl
    rcases look_app hl with hl | ⟨hnk, hl⟩
    · obtain ⟨i, hi⟩ := List.getElem?_of_mem (mem_of_look hl)
      obtain ⟨b2, hb2, kg, cs, h1, h2, h3⟩ := sB.get' i hi
      cases h3
      have hmem := List.mem_of_getElem? hb2
      exact .inl ⟨b2.1, b2.2, cs, look_of_mem hatb hmem, h1, h2, rfl, rfl, nbx _ _ h1⟩
    · obtain ⟨h1, h2⟩ := look_dropBoxes hl
      simp only [List.mem_append, not_or] at h2
      refine .inr ⟨h1, h2.2, ?_⟩
      simp only [bx3, bxA]
      cases hi : invB nB k B.gen with
      | none => rfl
      | some k2 =>
        exfalso
        have hm := invB_some hi
        obtain ⟨B2, hB2⟩ := inT hm
        obtain ⟨i, hi⟩ := List.getElem?_of_mem (mem_of_look hB2)
        obtain ⟨b', hb', kg, cs, h3, _, h5⟩ := sB.get i hi
        rw [look_of_mem hanb' hm] at h3
        cases h3
        rw [h5] at hb'
        exact h2.1 (mem_keysOf (List.mem_of_getElem? hb'))
  have lookR : ∀ k R, look (rs ++ dropRows s.rows (keysOf rs ++ lentRs y.bs hin.rows)) k = some R →
      (∃ k2 R2, look t.rows k2 = some R2 ∧ look nR k2 = some (.row k R.gen) ∧ R.e = R2.e ∧ HEq R.l R2.l ∧ R = ⟨R.gen, R2.e, R2.l⟩ ∧ rw3 k R.gen = rw2 k2 0) ∨
      (look s.rows k = some R ∧ k ∉ lentRs y.bs hin.rows ∧ rw3 k R.gen = rw_ k R.gen) := by
    intro k R hl
    rcases look_app hl with hl | ⟨hnk, hl⟩
    · obtain ⟨b, hb, q, g, h1, h2⟩ := sR _ (mem_of_look hl)
      cases h2
      exact .inl ⟨b.1, b.2, look_of_mem hatr hb, h1, rfl, HEq.rfl, rfl, nrw _ _ _ h1⟩
    · obtain ⟨h1, h2⟩ := look_dropRows hl
      simp only [List.mem_append, not_or] at h2
      refine .inr ⟨h1, h2.2, ?_⟩
      simp only [rw3, rwA]
      cases hi : invR nR k R.gen with
      | none => rfl
      | some k2 =>
        exfalso
        have hm := invR_some hi
        obtain ⟨R2, hR2⟩ := inTR hm
        have := sR' _ (mem_of_look hR2) k R.gen (look_of_mem hanr' hm)
        exact h2.1 (mem_keysOf this)
  generalize hbb : bs ++ dropBoxes s.boxes (keysOf bs ++ lentBs y.xs hin.boxes) = BB at lookB
  generalize hrr : rs ++ dropRows s.rows (keysOf rs ++ lentRs y.bs hin.rows) = RR at lookR
  -- blocks
  have oldlt : ∀ k B, look s.boxes k = some B → bx k B.gen < W.heap.size := fun k B hB => by
    obtain ⟨_, cv, hh, _⟩ := hS.boxes k B hB
    exact (Array.getElem?_eq_some_iff.1 hh).1
  have oldrlt : ∀ r R b, look s.rows r = some R → ob (rw_ r R.gen) = some b → b < W.heap.size := fun r R b hR hb => by
    obtain ⟨_, us, hown, _⟩ := hS.rows r R hR
    exact hown.lt hb
  have oldnz : ∀ k B, look s.boxes k = some B → k ∉ lentBs y.xs hin.boxes → ¬ Mut (hin.st y.x) (bxN bx y.xs) (rwN rw_ y.bs) (bx k B.gen) := by
    intro k B hB hnl hm
    rcases lent_mut hy hm with ⟨k2, B2, kg, h1, h2, h3, h4, h5⟩ | ⟨r, q, R, _, _, hR, hb⟩
    · have e := hS.bb kg.1 B2 k B h3 hB h5
      obtain ⟨bb, hbb⟩ := keyIn_look h1
      exact hnl (e ▸ lentBs_mem (mem_keysOf (mem_of_look hbb)) h2)
    · exact hS.br k B q R hB hR hb
  have oldrnz : ∀ r R b, look s.rows r = some R → r ∉ lentRs y.bs hin.rows → ob (rw_ r R.gen) = some b → ¬ Mut (hin.st y.x) (bxN bx y.xs) (rwN rw_ y.bs) b := by
    intro r R b hR hnl hb hm
    rcases lent_mut hy hm with ⟨k2, B2, kg, h1, h2, h3, h4, h5⟩ | ⟨r2, q, R2, h1, h2, hR2, hb2⟩
    · exact hS.br kg.1 B2 r R h3 hR (by rw [hb, h5])
    · have e := hS.rr q R2 r R b hR2 hR hb2 hb
      obtain ⟨bb, hbb⟩ := keyIn_look h1
      exact hnl (e ▸ lentRs_mem (mem_keysOf (mem_of_look hbb)) h2)
  have newown : ∀ b, (callEnv E s W bx rw_ hin y false).Own b → E.Own b := by
    rintro b (hz | hz)
    · exact (lent_own hS hy hz).2.1
    · exact Env.own_new hS.below hz
  have hMut : ∀ b, Mut (⟨s.slots, BB, RR⟩ : St Θ.T) bx3 rw3 b → Mut t bx2 rw2 b ∨ (Mut s bx rw_ b ∧ b < W.heap.size ∧ ¬ Mut (hin.st y.x) (bxN bx y.xs) (rwN rw_ y.bs) b) := by
    rintro b (⟨k, B, hB, e⟩ | ⟨r, R, hR, hb⟩)
    · rcases lookB k B hB with ⟨k2, B2, cs, h1, _, _, _, _, h2⟩ | ⟨h1, h2, h3⟩
      · refine .inl (.inl ⟨k2, B2, h1, ?_⟩)
        rw [gB _ (mem_of_look h1), ← h2]; exact e
      · rw [h3] at e
        exact .inr ⟨.inl ⟨k, B, h1, e⟩, by rw [← e]; exact oldlt k B h1, by rw [← e]; exact oldnz k B h1 h2⟩
    · rcases lookR r R hR with ⟨k2, R2, h1, _, _, _, _, h2⟩ | ⟨h1, h2, h3⟩
      · refine .inl (.inr ⟨k2, R2, h1, ?_⟩)
        rw [gR _ (mem_of_look h1), ← h2]; exact hb
      · rw [h3] at hb
        exact .inr ⟨.inr ⟨r, R, h1, hb⟩, oldrlt r R b h1 hb, oldrnz r R b h1 h2 hb⟩
  have F2 : ∀ b, FF (callEnv E s W bx rw_ hin y false) t bx2 rw2 W' b → FF E (⟨s.slots, BB, RR⟩ : St Θ.T) bx3 rw3 W' b := by
    rintro b ⟨h1, h2, h3⟩
    refine ⟨?_, h2, fun hm => ?_⟩
    · rcases h1 with (h1 | ⟨h1, _⟩) | h1
      · exact h1.1
      · cases h1
      · exact .inr (newown b h1)
    · rcases hMut b hm with h4 | ⟨h4, h5, h6⟩
      · exact h3 h4
      · rcases h1 with (h1 | ⟨h1, _⟩) | (h1 | h1)
        · exact h1.2.2 h4
        · cases h1
        · exact h6 h1
        · simp only [callEnv] at h1; omega
  have F1 : ∀ b, FF E s bx rw_ W b → FF E (⟨s.slots, BB, RR⟩ : St Θ.T) bx3 rw3 W' b := by
    intro b hb
    refine ⟨hb.1, Nat.lt_of_lt_of_le hb.2.1 hT.below.size, fun hm => ?_⟩
    rcases hMut b hm with h4 | ⟨h4, _, _⟩
    · have : (callEnv E s W bx rw_ hin y false).Own b := by
        rcases h4 with ⟨k, B, hB, e⟩ | ⟨r, R, hR, e⟩
        · rw [← e]; exact (hT.boxes k B hB).1
        · exact (hT.rows r R hR).1 b e
      rcases this with hz | hz
      · exact hb.2.2 (lent_own hS hy hz).1
      · have := hb.2.1; simp only [callEnv] at hz; omega
    · exact hb.2.2 h4
  have W1 : ∀ b, b < W.heap.size → ¬ Mut (hin.st y.x) (bxN bx y.xs) (rwN rw_ y.bs) b → W'.heap[b]? = W.heap[b]? := fun b hb hz => hT.below.block b hb hz
  have W0 : ∀ b, FF E s bx rw_ W b → W'.heap[b]? = W.heap[b]? := fun b hb => W1 b hb.2.1 (fun hz => hb.2.2 (lent_own hS hy hz).1)
  -- values: the callee's
  have rc : ∀ c c' u, renC nB nR c = some c' → RCV Θ W' (FF (callEnv E s W bx rw_ hin y false) t bx2 rw2 W') bx2 rw2 c u → RCV Θ W' (FF E (⟨s.slots, BB, RR⟩ : St Θ.T) bx3 rw3 W') bx3 rw3 c' u := by
    intro c c' u hc hu
    cases c with
    | v p => simp only [renC, Option.some.injEq] at hc; subst hc; exact Rep.mono hu F2 (fun _ _ => rfl)
    | nil => simp only [renC, Option.some.injEq] at hc; subst hc; exact hu
    | e0 => simp only [renC, Option.some.injEq] at hc; subst hc; exact hu
    | np => simp only [renC, Option.some.injEq] at hc; subst hc; exact hu
    | row r g =>
      simp only [renC] at hc
      split at hc <;> try (cases hc; done)
      rename_i hg
      have hg0 : g = 0 := by simpa using hg
      subst hg0
      have e : u = rw2 r 0 := hu
      rcases entR_spec (eR _ (mem_of_look hc)) with ⟨h1, h2⟩ | ⟨q, g', e', _, _⟩
      · simp only at h1 h2
        have hbo := ht.bok _ (mem_of_look h2)
        cases c' with
        | row q g' => exact e.trans (nrw _ _ _ hc).symm
        | nil =>
          have := lentR r h1 (inTR (mem_of_look hc))
          rw [e, this]
          simp only [rwN, h2]
          rfl
        | _ => simp [bindOk] at hbo
      · simp only at e'
        subst e'
        exact e.trans (nrw _ _ _ hc).symm
    | box k g off =>
      simp only [renC] at hc
      split at hc <;> try (cases hc; done)
      rename_i hg
      have hg0 : g = 0 := by simpa using hg
      subst hg0
      split at hc <;> try (cases hc; done)
      rename_i kg hkg
      cases hc
      have e : u = .pointer (some ⟨bx2 k 0, off, none⟩) := hu
      show u = .pointer (some ⟨bx3 kg.1 kg.2, off, none⟩)
      rw [nbx _ _ hkg]; exact e
    | fn f caps =>
      simp only [renC] at hc
      split at hc <;> try (cases hc; done)
      rename_i l hl
      cases hc
      have e : u = .func (.func f) #[] (caps.map fun kg => Value.pointer (some ⟨bx2 kg.1 kg.2, 0, none⟩)).toArray := hu
      show u = .func (.func f) #[] (l.map fun kg => Value.pointer (some ⟨bx3 kg.1 kg.2, 0, none⟩)).toArray
      rw [e]
      congr 2
      have := renCaps_spec _ _ hl
      clear hl hu e
      induction this with
      | nil => rfl
      | cons h _ ih =>
        simp only [List.map_cons]
        rw [ih, nbx _ _ h.2, h.1]
  have rcs : ∀ cs cs' us, renCs nB nR cs = some cs' → All2 (RCV Θ W' (FF (callEnv E s W bx rw_ hin y false) t bx2 rw2 W') bx2 rw2) cs us → All2 (RCV Θ W' (FF E (⟨s.slots, BB, RR⟩ : St Θ.T) bx3 rw3 W') bx3 rw3) cs' us := by
    intro cs
    induction cs with
    | nil => intro cs' us h hu; cases h; cases hu; exact .nil
    | cons c cs ih =>
      intro cs' us h hu
      simp only [renCs] at h
      split at h <;> try (cases h; done)
      rename_i c' hc
      split at h <;> try (cases h; done)
      rename_i l hl
      cases h
      cases hu with | cons a b => exact .cons (rc _ _ _ hc a) (ih _ _ hl b)
  -- values: the caller's
  have ra : ∀ v u, (∀ k g, s.noB k g = true → ∀ p ∈ v.mB, ¬ (p.1 = k ∧ p.2 = g)) → (∀ k g, s.noR k g = true → ∀ p ∈ v.mR, ¬ (p.1 = k ∧ p.2 = g)) → RAV Θ W (FF E s bx rw_ W) bx rw_ v u → RAV Θ W' (FF E (⟨s.slots, BB, RR⟩ : St Θ.T) bx3 rw3 W') bx3 rw3 v u :=
    fun v u h1 h2 hr => RAV.trans F1 W0 (refB _ h1) (refR _ h2) hr
  have hkeeps : Keeps E W' := by
    refine ⟨hT.below.os.trans hS.below.os, hT.below.tape.trans hS.below.tape, hT.below.output.trans hS.below.output, Nat.le_trans hS.below.size hT.below.size, fun k hk hz => ?_⟩
    rw [W1 k (Nat.lt_of_lt_of_le hk hS.below.size) (fun hm => ?_), hS.below.block k hk hz]
    rcases (lent_own hS hy hm).2.1 with h | h
    · exact hz h
    · omega
  have main : Sim Θ E (⟨s.slots, BB, RR⟩ : St Θ.T) tm W' bx3 rw3 := by
    refine ⟨hkeeps, fun k b hkb => ?_, fun r v hrv => ?_, fun r g => ?_, fun k B hB => ?_, fun r R hR => ?_, ?_, ?_, ?_, hS.len, fun i => ra _ _ (fun k g hn => noB_slots hn i) (fun k g hn => noR_slots hn i) (hS.slots i)⟩
    · obtain ⟨h1, h2⟩ := hS.pinB k b hkb
      refine ⟨h1, fun B hB h0 => ?_⟩
      rcases lookB k B hB with ⟨k2, B2, cs, h3, h4, _, _, _, h5⟩ | ⟨h3, _, h4⟩
      · rcases entB_spec (eB _ (mem_of_look h4)) with ⟨h6, h7⟩ | ⟨_, h7⟩
        · simp only at h6 h7
          obtain ⟨B0, hB0, hg0⟩ := curB_look (ht.cur _ (mem_of_look h7))
          simp only at hB0 hg0
          have := h2 B0 hB0 (by rw [hg0]; exact h0)
          rw [← h0, h5, lentB k2 _ h6 h7 ⟨B2, h3⟩, h0]; exact this
        · simp only at h7; omega
      · rw [h0] at h4; rw [h4]; exact h2 B h3 h0
    · obtain ⟨h1, h2⟩ := hS.pinR r v hrv
      refine ⟨h1, fun R hR h0 => ?_⟩
      rcases lookR r R hR with ⟨k2, R2, h3, h4, _, _, _, h5⟩ | ⟨h3, _, h4⟩
      · rcases entR_spec (eR _ (mem_of_look h4)) with ⟨h6, h7⟩ | ⟨q, g, e, _, h7⟩
        · simp only at h6 h7
          have hbo := ht.bok _ (mem_of_look h7)
          simp only [bindOk] at hbo
          split at hbo
          · rename_i R0 hR0
            have hg0 : R0.gen = R.gen := by simpa using hbo
            have := h2 R0 hR0 (by rw [hg0]; exact h0)
            have e1 := lentR k2 h6 ⟨R2, h3⟩
            rw [← h0, h5, e1]
            simp only [rwN, h7]
            rw [h0]; exact this
          · cases hbo
        · simp only at e
          cases e
          have := pin_le h1
          omega
      · rw [h0] at h4; rw [h4]; exact h2 R h3 h0
    · simp only [rw3, rwA]
      split
      · exact hT.rwsl _ _
      · exact hS.rwsl _ _
    · rcases lookB k B hB with ⟨k2, B2, cs, h3, h4, h5, h6, h7, h8⟩ | ⟨h3, h4, h5⟩
      · obtain ⟨a1, cv, hh, ha⟩ := hT.boxes k2 B2 h3
        rw [gB _ (mem_of_look h3)] at a1 hh
        rw [h8, h6, h7]
        exact ⟨newown _ a1, cv, hh, rcs _ _ _ h5 ha⟩
      · obtain ⟨a1, cv, hh, ha⟩ := hS.boxes k B h3
        rw [h5]
        refine ⟨a1, cv, by rw [W1 _ (oldlt k B h3) (oldnz k B h3 h4)]; exact hh, ?_⟩
        exact RCs.trans F1 W0 (refB _ (fun k g hn => noB_boxes hn h3)) (refR _ (fun k g hn => noR_boxes hn h3)) ha
    · rcases lookR r R hR with ⟨k2, R2, h3, h4, _, _, h5, h6⟩ | ⟨h3, h4, h5⟩
      · obtain ⟨a1, us, hown, har⟩ := hT.rows k2 R2 h3
        rw [gR _ (mem_of_look h3)] at a1 hown
        rw [h6, h5]
        exact ⟨fun b hb => newown b (a1 b hb), us, hown, har.mono fun x u hx => Rep.mono hx F2 (fun _ _ => rfl)⟩
      · obtain ⟨a1, us, hown, har⟩ := hS.rows r R h3
        rw [h5]
        refine ⟨a1, us, ?_, har.mono fun x u hx => Rep.mono hx F1 W0⟩
        rcases hown with ho | ho
        · have ho0 := ho
          by_cases hob : ob (rw_ r R.gen) = none
          · have hk := Owns.kept (W' := W) (row := none) (.inl ho) ⟨rfl, rfl, rfl, Nat.le_refl _, fun _ _ _ => rfl⟩ (.inl hob)
            rcases ho.2 with ⟨e, e'⟩ | ⟨g, cap, cur, e, _, _, hnc, _⟩
            · rw [e]
              have hx : us = [] := List.eq_nil_of_length_eq_zero (by rw [ho0.1, e']; simp)
              rw [hx, e']; exact Owns.nil
            · rw [e] at hob ⊢
              simp only [ob] at hob
              split at hob
              · rename_i hc
                subst hc
                have hl0 : R.l.length = 0 := by omega
                have hx : us = [] := List.eq_nil_of_length_eq_zero (by rw [ho0.1, hl0]; simp)
                rw [hx, hl0]; exact .inr ⟨_, rfl, rfl, rfl⟩
              · cases hob
          · obtain ⟨b, hb⟩ := Option.ne_none_iff_exists'.1 hob
            have hbl := oldrlt r R b h3 hb
            have hbz := oldrnz r R b h3 h4 hb
            rcases ho.2 with ⟨e, e'⟩ | ⟨g, cap, cur, e, h0, hg, r1, r2, r3, r4⟩
            · rw [e] at hb; cases hb
            · refine .inl ⟨ho0.1, .inr ⟨g, cap, cur, e, h0, ?_, r1, r2, r3, r4⟩⟩
              have : g = b := by
                rw [e] at hb
                simp only [ob] at hb
                split at hb
                · cases hb
                · cases hb; rfl
              subst this
              rw [W1 _ hbl hbz]; exact hg
        · exact .inr ho
    · intro k B k' B' hB hB' he
      rcases lookB k B hB with ⟨k2, B2, cs, h3, h4, _, _, _, h8⟩ | ⟨h3, h4, h5⟩ <;> rcases lookB k' B' hB' with ⟨k2', B2', cs', h3', h4', _, _, _, h8'⟩ | ⟨h3', h4', h5'⟩
      · have e := hT.bb k2 B2 k2' B2' h3 h3' (by rw [gB _ (mem_of_look h3), gB _ (mem_of_look h3')]; rw [← h8, ← h8']; exact he)
        subst e
        rw [h4] at h4'
        simp only [Option.some.injEq, Prod.mk.injEq] at h4'
        exact h4'.1
      · exfalso
        have := (hT.boxes k2 B2 h3).1
        rw [gB _ (mem_of_look h3)] at this
        rw [h8, h5'] at he
        rw [he] at this
        rcases this with hz | hz
        · exact oldnz k' B' h3' h4' hz
        · have := oldlt k' B' h3'; simp only [callEnv] at hz; omega
      · exfalso
        have := (hT.boxes k2' B2' h3').1
        rw [gB _ (mem_of_look h3')] at this
        rw [h8', h5] at he
        rw [← he] at this
        rcases this with hz | hz
        · exact oldnz k B h3 h4 hz
        · have := oldlt k B h3; simp only [callEnv] at hz; omega
      · rw [h5, h5'] at he
        exact hS.bb k B k' B' h3 h3' he
    · intro r R r' R' b hR hR' hb hb'
      rcases lookR r R hR with ⟨k2, R2, h3, h4, _, _, _, h8⟩ | ⟨h3, h4, h5⟩ <;> rcases lookR r' R' hR' with ⟨k2', R2', h3', h4', _, _, _, h8'⟩ | ⟨h3', h4', h5'⟩
      · have e := hT.rr k2 R2 k2' R2' b h3 h3' (by rw [gR _ (mem_of_look h3), ← h8]; exact hb) (by rw [gR _ (mem_of_look h3'), ← h8']; exact hb')
        subst e
        rw [h4] at h4'
        simp only [Option.some.injEq, CV.row.injEq] at h4'
        exact h4'.1
      · exfalso
        have := (hT.rows k2 R2 h3).1 b (by rw [gR _ (mem_of_look h3), ← h8]; exact hb)
        rw [h5'] at hb'
        rcases this with hz | hz
        · exact oldrnz r' R' b h3' h4' hb' hz
        · have := oldrlt r' R' b h3' hb'; simp only [callEnv] at hz; omega
      · exfalso
        have := (hT.rows k2' R2' h3').1 b (by rw [gR _ (mem_of_look h3'), ← h8']; exact hb')
        rw [h5] at hb
        rcases this with hz | hz
        · exact oldrnz r R b h3 h4 hb hz
        · have := oldrlt r R b h3 hb; simp only [callEnv] at hz; omega
      · rw [h5] at hb
        rw [h5'] at hb'
        exact hS.rr r R r' R' b h3 h3' hb hb'
    · intro k B r R hB hR he
      rcases lookB k B hB with ⟨k2, B2, cs, h3, h4, _, _, _, h8⟩ | ⟨h3, h4, h5⟩ <;> rcases lookR r R hR with ⟨k2', R2', h3', h4', _, _, _, h8'⟩ | ⟨h3', h4', h5'⟩
      · exact hT.br k2 B2 k2' R2' h3 h3' (by rw [gB _ (mem_of_look h3), gR _ (mem_of_look h3'), ← h8, ← h8']; exact he)
      · have := (hT.boxes k2 B2 h3).1
        rw [gB _ (mem_of_look h3), ← h8] at this
        rw [h5'] at he
        rcases this with hz | hz
        · exact oldrnz r R _ h3' h4' he hz
        · have := oldrlt r R _ h3' he; simp only [callEnv] at hz; omega
      · have := (hT.rows k2' R2' h3').1 (bx3 k B.gen) (by rw [gR _ (mem_of_look h3'), ← h8']; exact he)
        rw [h5] at this
        rcases this with hz | hz
        · exact oldnz k B h3 h4 hz
        · have := oldlt k B h3; simp only [callEnv] at hz; omega
      · rw [h5, h5'] at he
        exact hS.br k B r R h3 h3' he
  -- what is handed back
  have hres : RAV Θ W' (FF E (⟨s.slots, BB, RR⟩ : St Θ.T) bx3 rw3 W') bx3 rw3 v (tupleOf us) := by
    have hlen := hT.len
    have hsl : ∀ (i : Nat) (a : AV Θ.T) (u : Value), t.slots[i]? = some a → us[i]? = some u → RAV Θ W' (FF (callEnv E s W bx rw_ hin y false) t bx2 rw2 W') bx2 rw2 a u := by
      intro i a u ha hu
      have := hT.slots i
      simpa [St.at_, List.getD_eq_getElem?_getD, Array.getD_eq_getD_getElem?, ha, hu] using this
    have hall : All2 (RAV Θ W' (FF (callEnv E s W bx rw_ hin y false) t bx2 rw2 W') bx2 rw2) t.slots us := All2.of_get (by simpa using hlen) hsl
    revert hall hv
    generalize t.slots = sl
    intro hv hall
    have sums : ∀ (sl : List (AV Θ.T)) (us : List Value) (l : List (CV Θ.T ⊕ List (CV Θ.T))), renSs nB nR sl = some l → All2 (RAV Θ W' (FF (callEnv E s W bx rw_ hin y false) t bx2 rw2 W') bx2 rw2) sl us → All2 (RSum Θ W' (FF E (⟨s.slots, BB, RR⟩ : St Θ.T) bx3 rw3 W') bx3 rw3) l us := by
      intro sl
      induction sl with
      | nil => intro us l h ha; cases h; cases ha; exact .nil
      | cons a sl ih =>
        intro us l h ha
        simp only [renSs] at h
        split at h <;> try (cases h; done)
        rename_i x hx
        split at h <;> try (cases h; done)
        rename_i l' hl'
        cases h
        cases ha with | cons h1 t1 =>
        refine .cons ?_ (ih _ _ hl' t1)
        cases a with
        | c c =>
          simp only [renS] at hx
          cases hc : renC nB nR c with
          | none => simp [hc] at hx
          | some c' => simp [hc] at hx; subst hx; exact rc _ _ _ hc h1
        | agg cs =>
          simp only [renS] at hx
          cases hc : renCs nB nR cs with
          | none => simp [hc] at hx
          | some c' => simp [hc] at hx; subst hx; obtain ⟨us, e, ha⟩ := h1; exact ⟨us, e, rcs _ _ _ hc ha⟩
        | _ => simp [renS] at hx
    have many : ∀ (sl : List (AV Θ.T)) (us : List Value), (us.length = 1 → False) → (renSs nB nR sl).map AV.tup = some v → All2 (RAV Θ W' (FF (callEnv E s W bx rw_ hin y false) t bx2 rw2 W') bx2 rw2) sl us → RAV Θ W' (FF E (⟨s.slots, BB, RR⟩ : St Θ.T) bx3 rw3 W') bx3 rw3 v (tupleOf us) := by
      intro sl us hne h ha
      cases hc : renSs nB nR sl with
      | none => simp [hc] at h
      | some l =>
        simp [hc] at h
        subst h
        unfold tupleOf
        rw [dif_neg (by simpa using hne)]
        exact ⟨us, rfl, sums _ _ _ hc ha⟩
    cases hall with
    | nil => exact many [] [] (by simp) hv .nil
    | cons h1 t1 =>
      cases t1 with
      | nil =>
        rename_i a u
        have e : tupleOf [u] = u := by unfold tupleOf; simp
        rw [e]
        simp only [resA] at hv
        cases a with
        | c c =>
          simp only [renA] at hv
          cases hc : renC nB nR c with
          | none => simp [hc] at hv
          | some c' => simp [hc] at hv; subst hv; exact rc _ _ _ hc h1
        | agg cs =>
          simp only [renA] at hv
          cases hc : renCs nB nR cs with
          | none => simp [hc] at hv
          | some c' => simp [hc] at hv; subst hv; obtain ⟨us, e, ha⟩ := h1; exact ⟨us, e, rcs _ _ _ hc ha⟩
        | rel r g j sz off =>
          simp only [renA] at hv
          split at hv <;> try (cases hv; done)
          rename_i hg
          have hg0 : g = 0 := by simpa using hg
          subst hg0
          split at hv <;> try (cases hv; done)
          rename_i c hc
          split at hv <;> try (cases hv; done)
          rename_i q g'
          cases hv
          obtain ⟨b, n, cap, e1, h0, h2, e2⟩ := h1
          exact ⟨b, n, cap, by rw [nrw _ _ _ hc]; exact e1, h0, h2, e2⟩
        | _ => simp [renA] at hv
      | cons h2 t2 => exact many _ _ (by simp) hv (.cons h1 (.cons h2 t2))
  cases dst with
  | none => exact ⟨bx3, rw3, main⟩
  | some d => exact ⟨bx3, rw3, Sim.put main d hres⟩
end
end Go.Den
