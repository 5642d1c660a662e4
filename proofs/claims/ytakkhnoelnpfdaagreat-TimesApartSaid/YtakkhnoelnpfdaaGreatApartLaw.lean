/- Chapter 18: the law that slots of phases lie apart. -/
import Derived.Test.YtakkhnoelnpfdaaGreatApart
import Derived.Test.YtakkhnoelnpfdaaGreatAwake18
namespace Go.Proofs.YtakkhnoelnpfdaaGreat.Fn
open Go Go.RowKit Go.Den Go.Circ
set_option linter.unusedVariables false

/-! ### Where a phase stands in the rings -/
def hasG (k : ByteArray) (g : List RowT) : Bool := g.any fun r => r.2.any fun s => strEq s k
def locOf (gs : List (List RowT)) (k : ByteArray) : Int × Int := (idxI (hasG k) gs, idxI (fun r : RowT => r.2.any fun s => strEq s k) (gs.getD (idxI (hasG k) gs).toNat []))
theorem any_false {A : Type} {p : A → Bool} {d : A} {l : List A} (h : ∀ k, k < l.length → p (l.getD k d) = false) : l.any p = false := by
  cases hq : l.any p with
  | false => rfl
  | true =>
    obtain ⟨i, hi, hp⟩ := (any_getD p d l).1 hq
    rw [h i hi] at hp; cases hp
set_option maxHeartbeats 1000000 in
theorem phase18_ (a : ByteArray) (b : List HeadT) (c : List PedT) (ph : List PhaseT) (gs : List (List RowT)) (f : List FoeT) (g : Int) (k : ByteArray) (hl : Sh ph) (hp : ∀ p ∈ ph, Sh p.2.1) (hg : Sh gs) (hgg : ∀ x ∈ gs, Sh x) (hgr : ∀ x ∈ gs, ∀ r ∈ x, Sh r.2)
    (h0 : 0 ≤ homeOf ph k) (hin : (ph.getD (homeOf ph k).toNat zPhase).1 ∈ allNames gs) :
    Ev (fun n => law18_phase n (a, b, c, ph, gs, f, g, k)) (locOf gs (ph.getD (homeOf ph k).toNat zPhase).1) := by
  unfold law18_phase
  refine Ev.bind (rhome07_ _ _ _ _ _ _ _ _ hl hp) ?_
  have hge := idxI_ge (fun p : PhaseT => inOf p.2.1 k) ph
  have hlt : homeOf ph k < ph.length := hge.2
  obtain ⟨q, hq⟩ := Int.eq_ofNat_of_zero_le h0
  rw [hq] at hlt hin ⊢
  have hql : q < ph.length := by omega
  simp only [Int.toNat_natCast] at hin ⊢
  generalize hP : (ph.getD q zPhase).1 = P at hin
  have hPz : (ph.getD q (ByteArray.mk #[], [], 0)).1 = P := hP
  have hex : gs.any (hasG P) = true := by
    obtain ⟨gi, ri, h1, h2, h3⟩ := mem_allNames.1 hin
    refine (any_getD _ [] _).2 ⟨gi, h1, (any_getD _ zRow _).2 ⟨ri, h2, ?_⟩⟩
    rw [List.any_eq_true]
    exact ⟨P, h3, (strEq_iff _ _).2 rfl⟩
  refine Ev.loopD (st := fun i => ((q : Int), (i : Int), a, b, c, ph, gs, f, g)) gs.length (fun i => hasG P (gs.getD i [])) (fun i => .inl ((i : Int), idxI (fun r : RowT => r.2.any fun s => strEq s P) (gs.getD i []))) (.inr ()) rfl (fun i hi _ => ?_) (fun _ => ?_) (fun i hi hk hp => ?_) (fun h => ?_)
  · have hsg := hgg _ (getD_mem gs i [] hi)
    have hsr := hgr _ (getD_mem gs i [] hi)
    simp only [letJ, ofNat_lt_true hi, cond_true, decide_eq_true (Int.natCast_nonneg q)]
    generalize hgx : gs.getD i [] = x at hsg hsr
    refine Ev.loopD (st := fun j => ((q : Int), (i : Int), (j : Int), a, b, c, ph, gs, f, g)) x.length (fun j => (x.getD j zRow).2.any fun s => strEq s P) (fun j => .inl ((i : Int), (j : Int))) (.inr ((q : Int), (i : Int), a, b, c, ph, gs, f, g)) rfl (fun j hj _ => ?_) (fun _ => ?_) (fun j hj hjk hjp => ?_) (fun h => ?_)
    · have hz : x.getD j (false, []) = x.getD j zRow := rfl
      have hss := hsr _ (getD_mem x j zRow hj)
      simp only [inB_nat, hi, decide_true, cond_true, atI_nat, hgx, ofNat_lt_true hj]
      generalize hrx : x.getD j zRow = r at hss
      refine Ev.loopD (st := fun m => ((q : Int), (i : Int), (j : Int), (m : Int), a, b, c, ph, gs, f, g)) r.2.length (fun m => strEq (r.2.getD m (ByteArray.mk #[])) P) (fun m => .inl ((i : Int), (j : Int))) (.inr ((q : Int), (i : Int), (j : Int), a, b, c, ph, gs, f, g)) rfl (fun m hm _ => ?_) (fun _ => ?_) (fun m hm _ hmp => ?_) (fun h => ?_)
      · simp only [inB_nat, hi, hj, hm, hql, decide_true, cond_true, atI_nat, hgx, hz, hrx, ofNat_lt_true hm, hPz, wrap_succ (show m < 9223372036854775807 by omega)]
        cases strEq (r.2.getD m (ByteArray.mk #[])) P <;> exact Ev.ret _
      · simp only [inB_nat, hi, hj, decide_true, cond_true, atI_nat, hgx, hz, hrx, ofNat_lt_irrefl, cond_false]; exact Ev.ret _
      · rw [(any_getD _ (ByteArray.mk #[]) _).2 ⟨m, hm, hmp⟩]; exact Ev.ret _
      · rw [any_false h]
        simp only [Sum.elim_inr, wrap_succ (show j < 9223372036854775807 by omega)]
        exact Ev.ret _
    · simp only [inB_nat, hi, decide_true, cond_true, atI_nat, hgx, ofNat_lt_irrefl, cond_false]; exact Ev.ret _
    · have e1 : hasG P x = true := (any_getD _ zRow _).2 ⟨j, hj, hjp⟩
      rw [e1, idxI_hit _ zRow x j hj hjk hjp]; exact Ev.ret _
    · have e1 : hasG P x = false := any_false h
      rw [e1]
      simp only [Sum.elim_inr, wrap_succ (show i < 9223372036854775807 by omega)]
      exact Ev.ret _
  · simp only [letJ, ofNat_lt_irrefl, cond_false]; exact Ev.ret _
  · have e := idxI_hit (hasG P) [] gs i hi hk hp
    unfold locOf
    rw [e]; exact Ev.ret _
  · rw [any_false h] at hex; cases hex
theorem locOf_mem {gs : List (List RowT)} {k : ByteArray} (h : k ∈ allNames gs) : ∃ gi ri : Nat, locOf gs k = ((gi : Int), (ri : Int)) ∧ gi < gs.length ∧ ri < (gs.getD gi []).length ∧ k ∈ ((gs.getD gi []).getD ri zRow).2 := by
  have hex : gs.any (hasG k) = true := by
    obtain ⟨gi, ri, h1, h2, h3⟩ := mem_allNames.1 h
    refine (any_getD _ [] _).2 ⟨gi, h1, (any_getD _ zRow _).2 ⟨ri, h2, ?_⟩⟩
    rw [List.any_eq_true]
    exact ⟨k, h3, (strEq_iff _ _).2 rfl⟩
  rw [← idxI_any] at hex
  obtain ⟨gi, e1, h1, h2, _⟩ := idxI_spec _ [] _ (of_decide_eq_true hex)
  have h2' : ((gs.getD gi []).any fun r => r.2.any fun s => strEq s k) = true := h2
  rw [← idxI_any] at h2'
  obtain ⟨ri, e2, h3, h4, _⟩ := idxI_spec _ zRow _ (of_decide_eq_true h2')
  refine ⟨gi, ri, ?_, h1, h3, ?_⟩
  · unfold locOf
    rw [e1, Int.toNat_natCast, e2]
  · rw [List.any_eq_true] at h4
    obtain ⟨s, hs, hk⟩ := h4
    rw [strEq_iff] at hk
    rw [← hk]; exact hs
/-! ### Ticks -/
theorem total_none {c : Int} (hc : 1 ≤ c ∧ c ≤ 6000) {a b : List (Int × Int)} (h : ∀ j, ¬ (TS c a j ∧ TS c b j)) : totalOf (piecesOf c (meetOf c a b)) = 0 := by
  have hA := meetOf_arcs hc.1 hc.2 a b
  have e : meetOf c a b = [] := by
    cases hq : meetOf c a b with
    | nil => rfl
    | cons x r =>
      exfalso
      have hx := (hA.mem x).1 (by rw [hq]; simp)
      exact h _ (hx.2.2.2.2.1 0 (by omega) (by have := hx.2.2.1; omega))
  rw [e]
  have hp := (piecesOf_ok hc.1 ([] : List (Int × Int)))
  have e2 : piecesOf c [] = [] := by
    have hl := piecesOf_len c []
    exact List.eq_nil_of_length_eq_zero (by simpa using hl)
  rw [e2]; rfl
theorem has_in {c o at_ n : Int} (hc : 1 ≤ c ∧ c ≤ 6000) (h0 : 0 ≤ at_) (hn : at_ + n ≤ c) {j : Int} (h : HasT c (arcOf c o at_ n) j) : at_ ≤ (j - o) % c ∧ (j - o) % c < at_ + n := by
  unfold arcOf at h
  rw [normOf_in hc.1 hc.2] at h
  have u0 := Int.emod_nonneg (j - o) (b := c) (by omega)
  have u1 := Int.emod_lt_of_pos (j - o) (b := c) (by omega)
  have e : (j - (o + at_)) % c = ((j - o) % c - at_) % c := by
    rw [Int.emod_sub_emod]; congr 1; omega
  obtain ⟨h1, h2⟩ := h
  simp only at h1 h2
  rw [e] at h2
  generalize (j - o) % c = u at *
  by_cases hcn : c ≤ n
  · omega
  · rcases h2 with h2 | h2
    · omega
    · have ha : at_ < c := by omega
      rw [emod_sub h0 ha u0 u1] at h2
      split at h2 <;> omega
theorem normOf_le {c : Int} (a : Int × Int) (ha : 0 ≤ a.2) : (normOf c a).2 ≤ a.2 := by
  unfold normOf
  split
  · simp only; exact ha
  · split <;> simp only <;> omega
set_option maxHeartbeats 2000000 in
theorem TimesApart_ (x : NetT) (t : TimT) (hsh : NetSh x) : Ev (fun n => law18_TimesApart n (x.1, x.2.1, x.2.2.1, x.2.2.2.1, x.2.2.2.2.1, x.2.2.2.2.2.1, x.2.2.2.2.2.2.1, x.2.2.2.2.2.2.2.1, x.2.2.2.2.2.2.2.2, t)) true := by
  have k1 := net07_ x hsh
  have k2 := few06_ x
  have k3 := @netE_good x
  obtain ⟨a, b, c0, d, e, ns, ss, f0, g0⟩ := x
  unfold law18_TimesApart
  have aw : Ev (fun n => (law18_awake n ()).bind fun y6 => some y6) true := Ev.bind awake18_ (Ev.ret _)
  simp only [letJ] at k1 k2 k3 ⊢
  refine Ev.bind k1 ?_
  rcases k2 with ⟨hF, ⟨_, _⟩, hN⟩ | hF
  rotate_left
  · refine Ev.bind hF ?_
    exact aw
  refine Ev.bind hF ?_
  refine Ev.no rfl ?_
  by_cases hok : (netE (a, b, c0, d, e, ns, ss, f0, g0)).1 = 0
  rotate_left
  · exact Ev.yes (by rw [beq_eq_false_iff_ne.2 hok]; rfl) aw
  obtain ⟨hpos, hgood⟩ := k3 hok
  refine Ev.no (by rw [hok]; rfl) ?_
  simp only [inB_zero, hpos, decide_true, cond_true, atI_zero]
  have hx0 : ns.getD 0 zNode ∈ ns := getD_mem _ _ _ hpos
  have hz : ns.getD 0 (ByteArray.mk #[], [], [], [], [], [], 0) = ns.getD 0 zNode := rfl
  simp only [hz]
  have gd := hgood _ hx0
  have hph := hsh.phase _ hx0
  have sn := hN _ hx0
  generalize ns.getD 0 zNode = x at gd hph sn
  have k4 := few18_ x t
  obtain ⟨x1, x2, x3, x4, x5, x6, x7⟩ := x
  simp only at gd hph sn k4 ⊢
  rcases k4 with ⟨hF, ⟨hN2, hT⟩, hlen⟩ | hF
  rotate_left
  · refine Ev.bind hF ?_
    exact aw
  refine Ev.bind hF ?_
  refine Ev.no rfl ?_
  have kH := heads_ (x1, x2, x3, x4, x5, x6, x7) t hN2.bd hT.bd
  have kL := length_ t hT.bd
  obtain ⟨nm, off, spans, ta, tb⟩ := t
  simp only at kH kL hT hlen ⊢
  refine Ev.bind kH ?_
  cases hfit : fitsOf x3 x5 spans with
  | false => exact Ev.yes rfl aw
  | true =>
  obtain ⟨hs, hgl, _, c1, c2⟩ := fits_bd hfit
  have hlo : lengthOf spans = totOf spans := by unfold lengthOf; rw [if_pos hs]
  simp only [if_true]
  refine Ev.no rfl ?_
  refine Ev.bind kL ?_
  have hll : (headsOf x2 x4 off spans).length = x2.length := by simp [headsOf]
  have hgt := headsOf_get x2 x4 off spans
  generalize headsOf x2 x4 off spans = L at hll hgt
  generalize hcc : lengthOf spans = c at *
  generalize off % c = o at *
  refine Ev.no (by rw [hll]; simp) ?_
  -- each head's slot
  have hslot : ∀ i, i < x2.length → ∃ (q : Nat) (p : SlotT × Int) (gi ri m : Nat), homeOf x4 (x2.getD i zHead).1 = (q : Int) ∧ q < x4.length ∧ At spans gi ri m p ∧ p.1.1 = (x4.getD q zPhase).1 ∧
      locOf x5 (x4.getD q zPhase).1 = ((gi : Int), (ri : Int)) ∧ headOf c o x4 spans (x2.getD i zHead).1 = bars4 c o p ∧ p.1.2.2.1 + p.1.2.2.2.1 < p.1.2.1 := by
    intro i hi
    have h0 := gd.home _ (getD_mem x2 i zHead hi)
    obtain ⟨q, hq⟩ := Int.eq_ofNat_of_zero_le h0
    have hlt : homeOf x4 (x2.getD i zHead).1 < x4.length := (idxI_ge _ _).2
    have hql : q < x4.length := by simp only at hq; omega
    have hP := gd.all _ (getD_mem x4 q zPhase hql)
    simp only at hP hq
    obtain ⟨gi, ri, e1, g1, g2, g3⟩ := locOf_mem hP
    have g1' : gi < spans.length := by omega
    have hrl := fits_ring hfit (gi := gi) (ri := ri) g1'
    have g2' : ri < (spans.getD gi []).length := by
      have := (fits_bd hfit).2.2.1 gi g1'
      simp only [groupOk, Bool.and_eq_true, decide_eq_true_eq] at this
      omega
    obtain ⟨m, hm, hmk⟩ := (ringOf_ok (hrl g2').1).2.2 _ g3
    obtain ⟨p, hp⟩ := slotOf_some g1' g2' hm hmk
    obtain ⟨hpk, gi', ri', m', hat⟩ := slotOf_at hp
    have hr' := fits_ring hfit hat.lg hat.lr
    have hs' := (ringOf_ok hr'.1).1 m' hat.lm
    rw [← hat.slot, hpk] at hs'
    have huniq := ring_unique gd.nodup (k := (x4.getD q zPhase).1) g1 g2 g3 (gi' := gi') (ri' := ri') (by have := hat.lg; simp only; omega) (by have := hat.lr; have := hr'.2; simp only; omega) hs'.1
    obtain ⟨rfl, rfl⟩ := huniq
    refine ⟨q, p, gi, ri, m', hq, hql, hat, hpk, e1, ?_, hs'.2⟩
    unfold headOf
    rw [hq, if_pos (Int.natCast_nonneg q), Int.toNat_natCast]
    have : slotOf spans (x4.getD q (ByteArray.mk #[], [], 0)).1 = some p := hp
    rw [this]
  have slotF : ∀ i, i < x2.length → ∀ {p : SlotT × Int} {gi ri m : Nat}, At spans gi ri m p → p.1.2.2.1 + p.1.2.2.2.1 < p.1.2.1 → 1 ≤ greenOf p.1 ∧ 0 ≤ p.1.2.2.1 ∧ 0 ≤ p.2 ∧ p.2 + greenOf p.1 + p.1.2.2.1 ≤ p.2 + p.1.2.1 ∧ p.2 + p.1.2.1 ≤ c := by
    intro i _ p gi ri m hat hlt
    obtain ⟨ht, b1, b2, b3, b4⟩ := hat.bd hs
    obtain ⟨_, t2, t3⟩ := timed_bd ht
    unfold greenOf
    refine ⟨by omega, t2.1, b3, by omega, by omega⟩
  have sPh : Sh x4 := by have := hN2.phases; show x4.length ≤ _; simp only at this; omega
  have sG : Sh x5 := by have := hN2.groups; show x5.length ≤ _; simp only at this; omega
  have sGG : ∀ y ∈ x5, Sh y := fun y hy => by have := hN2.rings y hy; show y.length ≤ _; omega
  have sGR : ∀ y ∈ x5, ∀ r ∈ y, Sh r.2 := fun y hy r hr => by have := hN2.rows y hy r hr; show r.2.length ≤ _; omega
  have hx2l : x2.length ≤ 50 := hN2.heads
  refine Ev.loopB (st := fun i => (c, (i : Int), x1, x2, x3, x4, x5, x6, x7, L)) x2.length (.inr ()) rfl (fun i hi => ?_) ?_ ?_
  · have hiL : i < L.length := by omega
    simp only [ofNat_lt_true hiL, cond_true, inB_nat, hiL, decide_true, atI_nat, hgt i hi]
    have hzh : x2.getD i (ByteArray.mk #[], 0, 0, 0, 0, 0, 0, 0, 0, 0, 0) = x2.getD i zHead := rfl
    obtain ⟨q, p, gi, ri, m, e1, e2, hat, e4, e5, e6, e7⟩ := hslot i hi
    obtain ⟨s1, s2, s3, s4, s5⟩ := slotF i hi hat e7
    have hbars : headOf c o x4 spans (x2.getD i (ByteArray.mk #[], 0, 0, 0, 0, 0, 0, 0, 0, 0, 0)).1 = bars4 c o p := e6
    simp only [hbars]
    have p1 := normOf_pos c1 c2 (a := (o + p.2, greenOf p.1)) s1
    have p2 := normOf_le (c := c) (o + p.2, greenOf p.1) (by show 0 ≤ greenOf p.1; omega)
    have p3 := normOf_le (c := c) (o + (p.2 + greenOf p.1), p.1.2.2.1) (by show 0 ≤ p.1.2.2.1; omega)
    have p4 := normOf_at c1 (o + (p.2 + greenOf p.1), p.1.2.2.1)
    simp only at p2 p3
    have q1 : (bars4 c o p).2.1 = (normOf c (o + p.2, greenOf p.1)).2 := rfl
    have q2 : (bars4 c o p).2.2.2 = (normOf c (o + (p.2 + greenOf p.1), p.1.2.2.1)).2 := rfl
    refine Ev.no (decide_eq_false (by rw [q1]; omega)) ?_
    rw [wrap64_id (n := (bars4 c o p).2.1 + (bars4 c o p).2.2.2) (by rw [q1, q2]; omega) (by rw [q1, q2]; omega), decide_eq_false (show ¬ c < (bars4 c o p).2.1 + (bars4 c o p).2.2.2 by rw [q1, q2]; omega)]
    simp only [cond_false]
    refine Ev.loopB (st := fun k => (c, (i : Int), (k : Int), x1, x2, x3, x4, x5, x6, x7, L)) i (.inr (c, (i : Int), x1, x2, x3, x4, x5, x6, x7, L)) rfl (fun k hk => ?_) ?_ ?_
    · have hk2 : k < x2.length := by omega
      have hkL : k < L.length := by omega
      have hzk : ∀ z, x2.getD z (ByteArray.mk #[], 0, 0, 0, 0, 0, 0, 0, 0, 0, 0) = x2.getD z zHead := fun _ => rfl
      simp only [ofNat_lt_true hk, cond_true, inB_nat, hi, hk2, hiL, hkL, decide_true, atI_nat, hgt i hi, hgt k hk2, hzk, e6]
      obtain ⟨q', p', gi', ri', m', f1, f2, hat', f4, f5, f6, f7⟩ := hslot k hk2
      obtain ⟨r1, r2, r3, r4, r5⟩ := slotF k hk2 hat' f7
      rw [f6]
      have hq0 : (homeOf x4 (x2.getD i zHead).1).toNat = q := by rw [e1]; rfl
      have hq0' : (homeOf x4 (x2.getD k zHead).1).toNat = q' := by rw [f1]; rfl
      have i1 := phase18_ x1 x2 x3 x4 x5 x6 x7 (x2.getD i zHead).1 sPh hph sG sGG sGR (by rw [e1]; omega) (by rw [hq0]; exact gd.all _ (getD_mem x4 q zPhase e2))
      have i2 := phase18_ x1 x2 x3 x4 x5 x6 x7 (x2.getD k zHead).1 sPh hph sG sGG sGR (by rw [f1]; omega) (by rw [hq0']; exact gd.all _ (getD_mem x4 q' zPhase f2))
      rw [hq0, e5] at i1
      rw [hq0', f5] at i2
      refine Ev.bind i1 ?_
      refine Ev.bind i2 ?_
      refine Ev.bind (rhome07_ _ _ _ _ _ _ _ _ sPh hph) ?_
      refine Ev.bind (rhome07_ _ _ _ _ _ _ _ _ sPh hph) ?_
      rw [e1, f1]
      by_cases hqq : q = q'
      · -- one phase
        subst hqq
        have hpp : bars4 c o p = bars4 c o p' := by rw [← e6, ← f6]; unfold headOf; rw [e1, f1]
        rw [hpp]
        simp only [beq_self_eq_true, Bool.and_self, Bool.and_true, Bool.not_true, cond_true, cond_false, wrap_succ (show k < 9223372036854775807 by omega)]
        exact Ev.ret _
      · have hqi : (((q : Int) == (q' : Int)) : Bool) = false := by
          rw [beq_eq_false_iff_ne]; intro h; exact hqq (by omega)
        rw [hqi]
        simp only [cond_false, Bool.not_false, cond_true]
        -- the slots are two
        have hnm : p.1.1 ≠ p'.1.1 := by
          rw [e4, f4]
          rcases Nat.lt_or_gt_of_ne hqq with h | h
          · exact gd.dist q q' h f2
          · exact fun h' => gd.dist q' q h e2 h'.symm
        have meet0 : (gi ≠ gi' ∨ ri = ri') → Ev (fun n => law18_meet n (c, (x2.getD i zHead).1, (bars4 c o p).1, (bars4 c o p).2.1, (bars4 c o p).2.2.1, (bars4 c o p).2.2.2, (x2.getD k zHead).1, bars4 c o p')) false := by
          intro hor
          unfold law18_meet
          refine Ev.bind (rmeet_ c _ _ (by simp) (by simp)) ?_
          refine Ev.bind (rtotal_ c _ (Nat.le_trans (meetOf_len c _ _) (by simp))) ?_
          refine (Ev.ret _).of_eq (decide_eq_false ?_)
          rw [total_none ⟨c1, c2⟩]
          · omega
          · intro j ⟨h1, h2⟩
            have hin : ∀ {p : SlotT × Int}, 1 ≤ greenOf p.1 → 0 ≤ p.1.2.2.1 → 0 ≤ p.2 → p.2 + greenOf p.1 + p.1.2.2.1 ≤ p.2 + p.1.2.1 → p.2 + p.1.2.1 ≤ c → TS c [((bars4 c o p).1, (bars4 c o p).2.1), ((bars4 c o p).2.2.1, (bars4 c o p).2.2.2)] j → p.2 ≤ (j - o) % c ∧ (j - o) % c < p.2 + p.1.2.1 := by
              intro p s1 s2 s3 s4 s5 h
              simp only [TS, List.mem_cons, List.not_mem_nil, or_false, exists_eq_or_imp, exists_eq_left] at h
              rcases h with h | h
              · have := has_in ⟨c1, c2⟩ s3 (n := greenOf p.1) (by omega) (j := j) (o := o) h
                omega
              · have := has_in ⟨c1, c2⟩ (at_ := p.2 + greenOf p.1) (by omega) (n := p.1.2.2.1) (by omega) (j := j) (o := o) h
                omega
            have a1 := hin s1 s2 s3 s4 s5 h1
            have a2 := hin r1 r2 r3 r4 r5 h2
            have hne : gi ≠ gi' ∨ (gi = gi' ∧ ri = ri' ∧ m ≠ m') := by
              by_cases hgi : gi = gi'
              · right
                rcases hor with h | h
                · exact absurd hgi h
                · refine ⟨hgi, h, fun hm => hnm ?_⟩
                  rw [hat.slot, hat'.slot, hgi, h, hm]
              · exact .inl hgi
            have := hat.apart hat' hs hne
            omega
        by_cases hgi : gi = gi'
        · refine Ev.no (by rw [hgi]; simp) ?_
          by_cases hri : ri = ri'
          · refine Ev.yes (by rw [hri]; simp) ?_
            refine Ev.bind (meet0 (.inr hri)) ?_
            simp only [cond_false, wrap_succ (show k < 9223372036854775807 by omega)]
            exact Ev.ret _
          · refine Ev.no (by rw [beq_eq_false_iff_ne]; intro h; exact hri (by have h' : (ri : Int) = (ri' : Int) := h; omega)) ?_
            simp only [wrap_succ (show k < 9223372036854775807 by omega)]
            exact Ev.ret _
        · refine Ev.yes (by
            have : (((gi : Int) == (gi' : Int)) : Bool) = false := by
              rw [beq_eq_false_iff_ne]; intro h; exact hgi (by omega)
            show (!((gi : Int) == (gi' : Int))) = true
            rw [this]; rfl) ?_
          refine Ev.bind (meet0 (.inl hgi)) ?_
          simp only [cond_false, wrap_succ (show k < 9223372036854775807 by omega)]
          exact Ev.ret _
    · simp only [ofNat_lt_irrefl, cond_false]; exact Ev.ret _
    · simp only [Sum.elim_inr, wrap_succ (show i < 9223372036854775807 by omega)]
      exact Ev.ret _
  · have : L.length = x2.length := hll
    simp only [this, ofNat_lt_irrefl, cond_false]; exact Ev.ret _
  · exact aw
end Go.Proofs.YtakkhnoelnpfdaaGreat.Fn
