/- Chapter 7: which networks may be, by the document: rings, nodes, stops, networks. -/
import Derived.Test.YtbcejiobmeglgaaValid
namespace Go.Proofs.Ytbcejiobmeglgaa.Fn
open Go Go.RowKit Go.Den
set_option linter.unusedVariables false
def namesG (g : List RowT) : List ByteArray := g.flatMap (·.2)
def allNames (gs : List (List RowT)) : List ByteArray := gs.flatMap namesG
def nameE (ph : List PhaseT) (pos : Int) (seen : List ByteArray) (s : ByteArray) : Err := if phaseIx ph s < 0 then (72, pos) else if inOf seen s = true then (71, pos) else (0, 0)
def lineE (ph : List PhaseT) (pos : Int) (seen names : List ByteArray) : Err := scanE names.length fun m => nameE ph pos (seen ++ names.take m) (names.getD m (ByteArray.mk #[]))
def ringE (ph : List PhaseT) (pos : Int) (seen : List ByteArray) (r : RowT) : Err := if r.2.length < 1 ∨ 4 < r.2.length then (74, pos) else lineE ph pos seen r.2
def groupE (ph : List PhaseT) (pos : Int) (seen : List ByteArray) (g : List RowT) : Err := if g.length < 1 ∨ 2 < g.length then (74, pos) else scanE g.length fun k => ringE ph pos (seen ++ namesG (g.take k)) (g.getD k zRow)
def groupsE (ph : List PhaseT) (pos : Int) (gs : List (List RowT)) : Err := scanE gs.length fun i => groupE ph pos (allNames (gs.take i)) (gs.getD i [])
def seenE (ph : List PhaseT) (names : List ByteArray) : Err := scanE ph.length fun i => if inOf names (ph.getD i zPhase).1 = true then (0, 0) else (74, (ph.getD i zPhase).2.2)
def ringsE (ph : List PhaseT) (pos : Int) (gs : List (List RowT)) : Err := if (groupsE ph pos gs).1 = 0 then seenE ph (allNames gs) else groupsE ph pos gs
theorem namesG_snoc (g : List RowT) (k : Nat) (h : k < g.length) : namesG (g.take (k + 1)) = namesG (g.take k) ++ (g.getD k zRow).2 := by
  rw [take_snoc g k zRow h]; simp [namesG, List.flatMap_append]
theorem allNames_snoc (gs : List (List RowT)) (k : Nat) (h : k < gs.length) : allNames (gs.take (k + 1)) = allNames (gs.take k) ++ namesG (gs.getD k []) := by
  rw [take_snoc gs k [] h]; simp [allNames, List.flatMap_append]
theorem err_ne {a b : Int} (h : a ≠ 0) : ((a, b) : Err).1 ≠ 0 := h
theorem ringE_len {ph : List PhaseT} {pos : Int} {seen : List ByteArray} {r : RowT} (h : (ringE ph pos seen r).1 = 0) : 1 ≤ r.2.length ∧ r.2.length ≤ 4 := by
  unfold ringE at h
  split at h
  · exact absurd h (err_ne (show (74 : Int) ≠ 0 by decide))
  · omega
theorem namesG_len {ph : List PhaseT} {pos : Int} {seen : List ByteArray} {g : List RowT} (k : Nat) (hk : k ≤ g.length) (h : ∀ j, j < k → (ringE ph pos (seen ++ namesG (g.take j)) (g.getD j zRow)).1 = 0) : (namesG (g.take k)).length ≤ 4 * k := by
  induction k with
  | zero => simp [namesG]
  | succ k ih =>
    rw [namesG_snoc g k (by omega), List.length_append]
    have := ih (by omega) fun j hj => h j (by omega)
    have := (ringE_len (h k (by omega))).2
    omega
theorem groupE_len {ph : List PhaseT} {pos : Int} {seen : List ByteArray} {g : List RowT} (h : (groupE ph pos seen g).1 = 0) : (1 ≤ g.length ∧ g.length ≤ 2) ∧ ∀ k, k < g.length → (ringE ph pos (seen ++ namesG (g.take k)) (g.getD k zRow)).1 = 0 := by
  unfold groupE at h
  split at h
  · exact absurd h (err_ne (show (74 : Int) ≠ 0 by decide))
  · exact ⟨by omega, scanE_ok h⟩
theorem allNames_len {ph : List PhaseT} {pos : Int} {gs : List (List RowT)} (i : Nat) (hi : i ≤ gs.length) (h : ∀ j, j < i → (groupE ph pos (allNames (gs.take j)) (gs.getD j [])).1 = 0) : (allNames (gs.take i)).length ≤ 8 * i := by
  induction i with
  | zero => simp [allNames]
  | succ i ih =>
    rw [allNames_snoc gs i (by omega), List.length_append]
    have h1 := ih (by omega) fun j hj => h j (by omega)
    obtain ⟨h2, h3⟩ := groupE_len (h i (by omega))
    have h4 := namesG_len _ (Nat.le_refl _) h3
    rw [List.take_length] at h4
    omega
set_option maxHeartbeats 1000000 in
theorem rings07_ (x : NodeT) (hp : Sh x.2.2.2.1) (hg : x.2.2.2.2.1.length ≤ 1000) : Ev (fun n => ref07_rings n x) (ringsE x.2.2.2.1 x.2.2.2.2.2.2 x.2.2.2.2.1) := by
  obtain ⟨x1, x2, x3, x4, x5, x6, x7⟩ := x
  unfold ref07_rings ringsE groupsE
  simp only at hp hg ⊢
  refine Ev.loopS (st := fun i => ((i : Int), x1, x2, x3, x4, x5, x6, x7, allNames (x5.take i))) x5.length (fun i => groupE x4 x7 (allNames (x5.take i)) (x5.getD i [])) (x1, x2, x3, x4, x5, x6, x7, allNames x5) rfl (fun i hi hpre => ?_) (fun _ => ?_) (fun h => ?_) (fun h => ?_)
  · have hal := allNames_len i (by omega) hpre
    rw [allNames_snoc x5 i hi]
    generalize allNames (x5.take i) = seen at hal
    simp only [ofNat_lt_true hi, cond_true, inB_nat, hi, decide_true, atI_nat, letJ]
    generalize x5.getD i [] = g
    by_cases h1 : g.length < 1
    · have e : groupE x4 x7 seen g = (74, x7) := by unfold groupE; rw [if_pos (.inl h1)]
      rw [e, if_neg (err_ne (by decide))]
      exact Ev.yes (decide_eq_true (by omega)) (Ev.ret _)
    · refine Ev.no (decide_eq_false (by omega)) ?_
      by_cases h2 : 2 < g.length
      · have e : groupE x4 x7 seen g = (74, x7) := by unfold groupE; rw [if_pos (.inr h2)]
        rw [e, if_neg (err_ne (by decide)), decide_eq_true (show (2 : Int) < (g.length : Int) by omega)]
        exact Ev.ret _
      · have e : groupE x4 x7 seen g = scanE g.length fun k => ringE x4 x7 (seen ++ namesG (g.take k)) (g.getD k zRow) := by unfold groupE; rw [if_neg (by omega)]
        rw [e, decide_eq_false (show ¬ (2 : Int) < (g.length : Int) by omega)]
        simp only [cond_false]
        refine Ev.loopS (st := fun k => ((i : Int), g, (k : Int), x1, x2, x3, x4, x5, x6, x7, seen ++ namesG (g.take k))) g.length (fun k => ringE x4 x7 (seen ++ namesG (g.take k)) (g.getD k zRow)) ((i : Int), x1, x2, x3, x4, x5, x6, x7, seen ++ namesG g) (by simp [namesG]) (fun k hk hpre2 => ?_) (fun _ => ?_) (fun h => ?_) (fun h => ?_)
        · have hnl := namesG_len k (by omega) hpre2
          have hz : g.getD k (false, []) = g.getD k zRow := rfl
          rw [namesG_snoc g k hk, ← List.append_assoc]
          have hsl : (seen ++ namesG (g.take k)).length ≤ 100000 := by rw [List.length_append]; omega
          generalize seen ++ namesG (g.take k) = seen2 at hsl
          simp only [ofNat_lt_true hk, cond_true, inB_nat, hk, decide_true, atI_nat, hz]
          generalize hr : g.getD k zRow = r
          by_cases h3 : r.2.length < 1
          · have e : ringE x4 x7 seen2 r = (74, x7) := by unfold ringE; rw [if_pos (.inl h3)]
            rw [e, if_neg (err_ne (by decide))]
            exact Ev.yes (decide_eq_true (by omega)) (Ev.ret _)
          · refine Ev.no (decide_eq_false (by omega)) ?_
            by_cases h4 : 4 < r.2.length
            · have e : ringE x4 x7 seen2 r = (74, x7) := by unfold ringE; rw [if_pos (.inr h4)]
              rw [e, if_neg (err_ne (by decide)), decide_eq_true (show (4 : Int) < (r.2.length : Int) by omega)]
              exact Ev.ret _
            · have e : ringE x4 x7 seen2 r = lineE x4 x7 seen2 r.2 := by unfold ringE; rw [if_neg (by omega)]
              rw [e, decide_eq_false (show ¬ (4 : Int) < (r.2.length : Int) by omega)]
              unfold lineE
              simp only [cond_false]
              refine Ev.loopS (st := fun m => ((i : Int), g, (k : Int), (m : Int), x1, x2, x3, x4, x5, x6, x7, seen2 ++ r.2.take m)) r.2.length (fun m => nameE x4 x7 (seen2 ++ r.2.take m) (r.2.getD m (ByteArray.mk #[]))) ((i : Int), g, (k : Int), x1, x2, x3, x4, x5, x6, x7, seen2 ++ r.2) (by simp) (fun m hm _ => ?_) (fun _ => ?_) (fun h => ?_) (fun h => ?_)
              · have hsl3 : (seen2 ++ r.2.take m).length ≤ 100010 := by rw [List.length_append]; simp; omega
                rw [take_snoc r.2 m (ByteArray.mk #[]) hm, ← List.append_assoc]
                generalize seen2 ++ r.2.take m = seen3 at hsl3
                simp only [inB_nat, hk, decide_true, cond_true, atI_nat, hz, hr, ofNat_lt_true hm, hm, wrap_succ (show m < 9223372036854775807 by omega)]
                generalize r.2.getD m (ByteArray.mk #[]) = s
                unfold nameE
                refine Ev.bind (rphase07_ _ _ _ _ _ _ _ _ hp) ?_
                by_cases h5 : phaseIx x4 s < 0
                · rw [if_pos h5]
                  exact Ev.yes (decide_eq_true h5) (Ev.ret _)
                · rw [if_neg h5]
                  refine Ev.no (decide_eq_false h5) ?_
                  refine Ev.bind (rin04_ _ s (by show seen3.length ≤ _; omega)) ?_
                  cases hin : inOf seen3 s with
                  | true => exact Ev.ret _
                  | false =>
                    rw [fitB_ok (by simp only [List.length_cons, List.length_nil]; omega)]
                    exact Ev.ret _
              · simp only [inB_nat, hk, decide_true, cond_true, atI_nat, hz, hr, ofNat_lt_irrefl, cond_false, List.take_length]; exact Ev.ret _
              · rw [if_neg h]; exact Ev.ret _
              · rw [scanE_none h]
                simp only [Sum.elim_inr, if_true, wrap_succ (show k < 9223372036854775807 by omega)]
                exact Ev.ret _
        · simp only [ofNat_lt_irrefl, cond_false, List.take_length]; exact Ev.ret _
        · rw [if_neg h]; exact Ev.ret _
        · rw [scanE_none h]
          simp only [Sum.elim_inr, if_true, wrap_succ (show i < 9223372036854775807 by omega)]
          exact Ev.ret _
  · simp only [ofNat_lt_irrefl, cond_false, List.take_length]; exact Ev.ret _
  · rw [if_neg h]; exact Ev.ret _
  · have hal := allNames_len x5.length (Nat.le_refl _) h
    rw [List.take_length] at hal
    rw [scanE_none h]
    simp only [Sum.elim_inr, if_true]
    unfold seenE
    refine Ev.loopS (st := fun i => ((i : Int), x1, x2, x3, x4, x5, x6, x7, allNames x5)) x4.length (fun i => if inOf (allNames x5) (x4.getD i zPhase).1 = true then (0, 0) else (74, (x4.getD i zPhase).2.2)) () rfl (fun i hi _ => ?_) (fun _ => ?_) (fun _ => Ev.ret _) (fun h => by rw [scanE_none h]; exact Ev.ret _)
    · have hz : x4.getD i (ByteArray.mk #[], [], 0) = x4.getD i zPhase := rfl
      simp only [ofNat_lt_true hi, cond_true, inB_nat, hi, decide_true, atI_nat, hz, wrap_succ (show i < 9223372036854775807 by omega)]
      refine Ev.bind (rin04_ _ _ (by show (allNames x5).length ≤ _; omega)) ?_
      cases inOf (allNames x5) (x4.getD i zPhase).1 <;> exact Ev.ret _
    · simp only [ofNat_lt_irrefl, cond_false]; exact Ev.ret _
def thenE (a b : Err) : Err := if a.1 = 0 then b else a
def sizesOk (x : NodeT) : Bool := !(decide (16 < x.2.1.length) || (decide (16 < x.2.2.2.1.length) || (decide (8 < x.2.2.1.length) || (decide (4 < x.2.2.2.2.1.length) || decide (64 < x.2.2.2.2.2.1.length)))))
def someOk (x : NodeT) : Bool := !(decide (x.2.1.length = 0) || (decide (x.2.2.2.1.length = 0) || decide (x.2.2.2.2.1.length = 0)))
def nodeE (x : NodeT) : Err :=
  if sizesOk x then (if someOk x then thenE (thenE (thenE (thenE (headsE x.2.1) (phasesE x.2.1 x.2.2.2.1)) (pedsE x.2.2.1 x.2.2.2.1)) (ringsE x.2.2.2.1 x.2.2.2.2.2.2 x.2.2.2.2.1)) (foesE x.2.1 x.2.2.2.1 x.2.2.2.2.2.1) else (73, x.2.2.2.2.2.2)) else (4, x.2.2.2.2.2.2)
theorem Ev.thenE_ {F : Nat → Option Err} {B : Type} {K : Nat → Err → Option B} {a b : Err} {v : B} (h : a.1 = 0 → Ev F b) (hK : Ev (fun n => K n (thenE a b)) v) :
    Ev (fun n => bif a.1 == 0 then (F n).bind (K n) else K n a) v := by
  unfold thenE at hK
  by_cases h0 : a.1 = 0
  · rw [if_pos h0] at hK
    exact Ev.yes (by simp [h0]) (Ev.bind (h h0) hK)
  · rw [if_neg h0] at hK
    exact Ev.no (by simp [h0]) hK
theorem len_eq0 {A : Type} (l : List A) : ((((l.length : Nat) : Int) == 0) : Bool) = decide (l.length = 0) := by
  by_cases h : l.length = 0
  · rw [h]; rfl
  · rw [decide_eq_false h]; simp; intro e; exact h (by simp [e])
theorem nat_lt_int (k n : Nat) : decide ((k : Int) < ((n : Nat) : Int)) = decide (k < n) := by
  by_cases h : k < n
  · rw [decide_eq_true h]; simp [h]
  · rw [decide_eq_false h]; simp; omega
set_option maxHeartbeats 1000000 in
theorem node07_ (x : NodeT) (hpp : ∀ p ∈ x.2.2.2.1, Sh p.2.1) : Ev (fun n => ref07_node n x) (nodeE x) := by
  have k1 := heads07_ x
  have k2 := phases07_ x
  have k3 := walks07_ x
  have k4 := rings07_ x
  have k5 := foes07_ x
  obtain ⟨x1, x2, x3, x4, x5, x6, x7⟩ := x
  simp only at hpp k1 k2 k3 k4 k5 ⊢
  unfold ref07_node nodeE sizesOk
  simp only [letJ]
  by_cases h1 : 16 < x2.length
  · rw [decide_eq_true h1]; exact Ev.yes (decide_eq_true (by omega)) (Ev.ret _)
  refine Ev.no (decide_eq_false (by omega)) ?_
  rw [decide_eq_false h1]
  by_cases h2 : 16 < x4.length
  · rw [decide_eq_true h2]; exact Ev.yes (decide_eq_true (by omega)) (Ev.ret _)
  refine Ev.no (decide_eq_false (by omega)) ?_
  rw [decide_eq_false h2]
  by_cases h3 : 8 < x3.length
  · rw [decide_eq_true h3]; exact Ev.yes (decide_eq_true (by omega)) (Ev.ret _)
  refine Ev.no (decide_eq_false (by omega)) ?_
  rw [decide_eq_false h3]
  by_cases h4 : 4 < x5.length
  · rw [decide_eq_true h4]; exact Ev.yes (decide_eq_true (by omega)) (Ev.ret _)
  refine Ev.no (decide_eq_false (by omega)) ?_
  rw [decide_eq_false h4]
  by_cases h5 : 64 < x6.length
  · rw [decide_eq_true h5]; exact Ev.yes (decide_eq_true (by omega)) (Ev.ret _)
  refine Ev.no (decide_eq_false (by omega)) ?_
  rw [decide_eq_false h5]
  simp only [Bool.false_or, Bool.not_false, if_true]
  unfold someOk
  simp only [len_eq0]
  by_cases g1 : x2.length = 0
  · rw [decide_eq_true g1]; exact Ev.ret _
  rw [decide_eq_false g1]
  simp only [cond_false]
  by_cases g2 : x4.length = 0
  · rw [decide_eq_true g2]; exact Ev.ret _
  rw [decide_eq_false g2]
  simp only [cond_false]
  by_cases g3 : x5.length = 0
  · rw [decide_eq_true g3]; exact Ev.ret _
  rw [decide_eq_false g3]
  simp only [cond_false, Bool.false_or, Bool.not_false, if_true]
  have s1 : Sh x2 := by show x2.length ≤ _; omega
  have s2 : Sh x4 := by show x4.length ≤ _; omega
  have s3 : Sh x3 := by show x3.length ≤ _; omega
  have s4 : Sh x6 := by show x6.length ≤ _; omega
  refine Ev.bind (k1 s1) ?_
  refine Ev.thenE_ (K := fun n y => _) (fun _ => k2 s1 s2 hpp) ?_
  refine Ev.thenE_ (K := fun n y => _) (fun _ => k3 s3 s2) ?_
  refine Ev.thenE_ (K := fun n y => _) (fun _ => k4 s2 (by omega)) ?_
  exact Ev.thenE_ (K := fun n y => some y) (fun _ => k5 s1 s2 hpp s4) (Ev.ret _)
def stopRest (hs : List HeadT) (s : StopT) (i : Nat) : Err :=
  if headIx hs s.2.1 < 0 ∨ headIx hs s.2.2.1 < 0 then (72, s.2.2.2.2.2)
  else if (inR s.2.2.2.1 0 6000 && inR s.2.2.2.2.1 0 6000) = false then (70, s.2.2.2.2.2)
  else if i = 0 ∧ (s.2.2.2.1 ≠ 0 ∨ s.2.2.2.2.1 ≠ 0) then (76, s.2.2.2.2.2) else (0, 0)
def stopE (ns : List NodeT) (ss : List StopT) (i : Nat) : Err :=
  if nodeIx ns (ss.getD i zStop).1 < 0 then (72, (ss.getD i zStop).2.2.2.2.2) else if (ss.take i).any (fun q => strEq q.1 (ss.getD i zStop).1) = true then (71, (ss.getD i zStop).2.2.2.2.2)
  else stopRest (ns.getD (nodeIx ns (ss.getD i zStop).1).toNat zNode).2.1 (ss.getD i zStop) i
def stopsE (ns : List NodeT) (ss : List StopT) : Err := scanE ss.length (stopE ns ss)
set_option maxHeartbeats 1000000 in
theorem stops07_ (x : NetT) (hn : Sh x.2.2.2.2.2.1) (hs : Sh x.2.2.2.2.2.2.1) (hh : ∀ y ∈ x.2.2.2.2.2.1, Sh y.2.1) : Ev (fun n => ref07_stops n x) (stopsE x.2.2.2.2.2.1 x.2.2.2.2.2.2.1) := by
  obtain ⟨a, b, c, d, e, ns, ss, f, g⟩ := x
  unfold ref07_stops stopsE
  simp only at hn hs hh ⊢
  refine Ev.loopS (st := fun i => ((i : Int), a, b, c, d, e, ns, ss, f, g)) ss.length (stopE ns ss) () rfl (fun i hi _ => ?_) (fun _ => ?_) (fun _ => Ev.ret _) (fun h => by rw [scanE_none h]; exact Ev.ret _)
  · have hz : ∀ k, ss.getD k (ByteArray.mk #[], ByteArray.mk #[], ByteArray.mk #[], 0, 0, 0) = ss.getD k zStop := fun _ => rfl
    simp only [ofNat_lt_true hi, cond_true, inB_nat, hi, decide_true, atI_nat, hz]
    unfold stopE
    generalize hse : ss.getD i zStop = s
    obtain ⟨s1, s2, s3, s4, s5, s6⟩ := s
    simp only
    refine Ev.bind (rnode07_ _ _ _ _ _ _ _ _ _ _ hn) ?_
    by_cases h1 : nodeIx ns s1 < 0
    · rw [if_pos h1]; exact Ev.yes (decide_eq_true h1) (Ev.ret _)
    rw [if_neg h1]
    refine Ev.no (decide_eq_false h1) ?_
    have hg := idxI_ge (fun h : NodeT => strEq h.1 s1) ns
    have hlt : nodeIx ns s1 < ns.length := hg.2
    obtain ⟨at_, hat⟩ := Int.eq_ofNat_of_zero_le (show 0 ≤ nodeIx ns s1 by omega)
    rw [hat] at hlt ⊢
    have hal : at_ < ns.length := by omega
    simp only [Int.toNat_natCast]
    have hlt2 : (ss.take i).length = i := by simp; omega
    refine Ev.loopD (st := fun k => ((i : Int), (at_ : Int), (k : Int), a, b, c, d, e, ns, ss, f, g, s1, s2, s3, s4, s5, s6)) i (fun k => strEq (ss.getD k zStop).1 s1) (fun _ => .inl (71, s6)) (.inr ((i : Int), (at_ : Int), a, b, c, d, e, ns, ss, f, g, s1, s2, s3, s4, s5, s6)) rfl (fun k hk _ => ?_) (fun _ => ?_) (fun k hk _ hp => ?_) (fun h => ?_)
    · have hk3 : k < ss.length := by omega
      simp only [ofNat_lt_true hk, cond_true, inB_nat, hk3, decide_true, atI_nat, hz, wrap_succ (show k < 9223372036854775807 by omega)]
      cases strEq (ss.getD k zStop).1 s1 <;> exact Ev.ret _
    · simp only [ofNat_lt_irrefl, cond_false]; exact Ev.ret _
    · have : (ss.take i).any (fun q => strEq q.1 s1) = true := (any_getD _ zStop _).2 ⟨k, by omega, by rw [take_getD _ _ _ _ hk]; exact hp⟩
      rw [if_pos this]
      exact Ev.ret _
    · have : ¬ (ss.take i).any (fun q => strEq q.1 s1) = true := fun hq => by
        obtain ⟨k, hk, hp⟩ := (any_getD _ zStop _).1 hq
        rw [take_getD _ _ _ _ (by omega), h k (by omega)] at hp; cases hp
      rw [if_neg this]
      have hzn : ns.getD at_ (ByteArray.mk #[], [], [], [], [], [], 0) = ns.getD at_ zNode := rfl
      simp only [Sum.elim_inr, letJ, inB_nat, hal, decide_true, cond_true, atI_nat, hzn, rin07_, Option.bind_some, wrap_succ (show i < 9223372036854775807 by omega)]
      have hsh := hh _ (getD_mem ns at_ zNode hal)
      generalize ns.getD at_ zNode = y at hsh
      unfold stopRest
      simp only
      refine Ev.bind (rhead07_ _ _ _ _ _ _ _ _ hsh) ?_
      by_cases h2 : headIx y.2.1 s2 < 0
      · rw [if_pos (show headIx y.2.1 s2 < 0 ∨ headIx y.2.1 s3 < 0 from .inl h2)]
        exact Ev.yes (decide_eq_true h2) (Ev.ret _)
      refine Ev.no (decide_eq_false h2) ?_
      refine Ev.bind (rhead07_ _ _ _ _ _ _ _ _ hsh) ?_
      by_cases h3 : headIx y.2.1 s3 < 0
      · rw [if_pos (show headIx y.2.1 s2 < 0 ∨ headIx y.2.1 s3 < 0 from .inr h3)]
        exact Ev.yes (decide_eq_true h3) (Ev.ret _)
      rw [if_neg (show ¬ (headIx y.2.1 s2 < 0 ∨ headIx y.2.1 s3 < 0) by omega)]
      refine Ev.no (decide_eq_false h3) ?_
      cases h4 : inR s4 0 6000 with
      | false => exact Ev.ret _
      | true =>
        cases h5 : inR s5 0 6000 with
        | false => exact Ev.ret _
        | true =>
          simp only [Bool.not_true, cond_false, Bool.and_self, Bool.true_eq_false, if_false]
          by_cases h6 : i = 0
          · subst h6
            refine Ev.yes rfl ?_
            by_cases h7 : s4 = 0
            · subst h7
              refine Ev.no rfl ?_
              by_cases h8 : s5 = 0
              · subst h8
                rw [if_neg (show ¬ (0 = 0 ∧ ((0 : Int) ≠ 0 ∨ (0 : Int) ≠ 0)) by simp)]
                exact Ev.ret _
              · rw [if_pos (show 0 = 0 ∧ ((0 : Int) ≠ 0 ∨ s5 ≠ 0) from ⟨rfl, .inr h8⟩)]
                have : (!(s5 == 0)) = true := by simp [h8]
                rw [this]; exact Ev.ret _
            · rw [if_pos (show 0 = 0 ∧ (s4 ≠ 0 ∨ s5 ≠ 0) from ⟨rfl, .inl h7⟩)]
              refine Ev.yes (by simp [h7]) (Ev.ret _)
          · rw [if_neg (show ¬ (i = 0 ∧ (s4 ≠ 0 ∨ s5 ≠ 0)) from fun h => h6 h.1)]
            exact Ev.no (by simp; omega) (Ev.ret _)
  · simp only [ofNat_lt_irrefl, cond_false]; exact Ev.ret _
def oneNodeE (ns : List NodeT) (i : Nat) : Err := if nodeIx ns (ns.getD i zNode).1 < i then (71, (ns.getD i zNode).2.2.2.2.2.2) else nodeE (ns.getD i zNode)
def netRange (x : NetT) : Bool := !(decide (x.1 < 1) || (decide (x.2.1 < x.1) || (decide (6000 < x.2.1) || decide (x.2.2.1 < 1)))) && (inR x.2.2.2.1 1 1000000000 && (inR x.2.2.2.2.1 1 1000000000 && (inR x.2.2.2.2.2.2.2.1 0 1000000000 && inR x.2.2.2.2.2.2.2.2 0 1000000000)))
def netE (x : NetT) : Err :=
  if 12 < x.2.2.2.2.2.1.length ∨ 12 < x.2.2.2.2.2.2.1.length then (4, 0) else if netRange x then (if x.2.2.2.2.2.1.length = 0 then (73, 0) else if (scanE x.2.2.2.2.2.1.length (oneNodeE x.2.2.2.2.2.1)).1 = 0 then stopsE x.2.2.2.2.2.1 x.2.2.2.2.2.2.1 else scanE x.2.2.2.2.2.1.length (oneNodeE x.2.2.2.2.2.1)) else (70, 0)
structure NetSh (x : NetT) : Prop where
  heads : ∀ y ∈ x.2.2.2.2.2.1, Sh y.2.1
  phase : ∀ y ∈ x.2.2.2.2.2.1, ∀ p ∈ y.2.2.2.1, Sh p.2.1
set_option maxHeartbeats 1000000 in
theorem net07_ (x : NetT) (hx : NetSh x) : Ev (fun n => ref07_Check n x) (netE x) := by
  have hh := hx.heads
  have hpp := hx.phase
  have k1 := stops07_ x
  obtain ⟨a, b, c, d, e, ns, ss, f, g⟩ := x
  unfold ref07_Check netE
  simp only [letJ] at hh hpp k1 ⊢
  by_cases h1 : 12 < ns.length
  · rw [if_pos (show 12 < ns.length ∨ 12 < ss.length from .inl h1)]
    exact Ev.yes (decide_eq_true (by omega)) (Ev.ret _)
  refine Ev.no (decide_eq_false (by omega)) ?_
  by_cases h2 : 12 < ss.length
  · rw [if_pos (show 12 < ns.length ∨ 12 < ss.length from .inr h2)]
    exact Ev.yes (decide_eq_true (by omega)) (Ev.ret _)
  rw [if_neg (show ¬ (12 < ns.length ∨ 12 < ss.length) by omega)]
  refine Ev.no (decide_eq_false (by omega)) ?_
  unfold netRange
  simp only [rin07_, Option.bind_some]
  cases h3 : decide (a < 1) with
  | true => exact Ev.ret _
  | false =>
  cases h4 : decide (b < a) with
  | true => exact Ev.ret _
  | false =>
  cases h5 : decide (6000 < b) with
  | true => exact Ev.ret _
  | false =>
  cases h6 : decide (c < 1) with
  | true => exact Ev.ret _
  | false =>
  cases h7 : inR d 1 1000000000 with
  | false => exact Ev.ret _
  | true =>
  cases h8 : inR e 1 1000000000 with
  | false => exact Ev.ret _
  | true =>
  cases h9 : inR f 0 1000000000 with
  | false => exact Ev.ret _
  | true =>
  cases h10 : inR g 0 1000000000 with
  | false => exact Ev.ret _
  | true =>
  simp only [cond_false, Bool.not_true, Bool.not_false, Bool.or_self, Bool.and_self, if_true, len_eq0]
  by_cases h11 : ns.length = 0
  · rw [decide_eq_true h11, if_pos h11]; exact Ev.ret _
  rw [decide_eq_false h11, if_neg h11]
  simp only [cond_false]
  have sn : Sh ns := by show ns.length ≤ _; omega
  have sss : Sh ss := by show ss.length ≤ _; omega
  refine Ev.loopS (st := fun i => ((i : Int), a, b, c, d, e, ns, ss, f, g)) ns.length (oneNodeE ns) (a, b, c, d, e, ns, ss, f, g) rfl (fun i hi _ => ?_) (fun _ => ?_) (fun h => ?_) (fun h => ?_)
  · have hz : ns.getD i (ByteArray.mk #[], [], [], [], [], [], 0) = ns.getD i zNode := rfl
    simp only [ofNat_lt_true hi, cond_true, inB_nat, hi, decide_true, atI_nat, hz, wrap_succ (show i < 9223372036854775807 by omega)]
    refine Ev.bind (rnode07_ _ _ _ _ _ _ _ _ _ _ sn) ?_
    unfold oneNodeE
    by_cases g1 : nodeIx ns (ns.getD i zNode).1 < i
    · rw [if_pos g1]; exact Ev.yes (decide_eq_true g1) (Ev.ret _)
    rw [if_neg g1]
    refine Ev.no (decide_eq_false g1) ?_
    refine Ev.bind (node07_ _ (hpp _ (getD_mem ns i zNode hi))) ?_
    by_cases g2 : (nodeE (ns.getD i zNode)).1 = 0
    · rw [if_pos g2]; exact Ev.no (by rw [g2]; rfl) (Ev.ret _)
    · rw [if_neg g2]; exact Ev.yes (by rw [beq_eq_false_iff_ne.2 g2]; rfl) (Ev.ret _)
  · simp only [ofNat_lt_irrefl, cond_false]; exact Ev.ret _
  · rw [if_neg h]; exact Ev.ret _
  · rw [scanE_none h]
    simp only [if_true, Sum.elim_inr]
    exact Ev.bind (k1 sn sss hh) (Ev.ret _)
end Go.Proofs.Ytbcejiobmeglgaa.Fn
