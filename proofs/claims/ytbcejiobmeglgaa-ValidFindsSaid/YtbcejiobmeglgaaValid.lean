/- Chapter 7: which networks may be, by the document: what each of its functions computes. -/
import Derived.Test.YtbcejiobmeglgaaPre07
namespace Go.Proofs.Ytbcejiobmeglgaa.Fn
open Go Go.RowKit Go.Den
set_option linter.unusedVariables false
abbrev Err := Int × Int
def zHead : HeadT := (ByteArray.mk #[], 0, 0, 0, 0, 0, 0, 0, 0, 0, 0)
def zPhase : PhaseT := (ByteArray.mk #[], [], 0)
def zPed : PedT := (ByteArray.mk #[], ByteArray.mk #[], 0, 0, 0, 0)
def zFoe : FoeT := (ByteArray.mk #[], ByteArray.mk #[], 0)
def zStop : StopT := (ByteArray.mk #[], ByteArray.mk #[], ByteArray.mk #[], 0, 0, 0)
def zNode : NodeT := (ByteArray.mk #[], [], [], [], [], [], 0)
abbrev Sh {A : Type} (l : List A) : Prop := l.length ≤ 9223372036854775807
def headIx (hs : List HeadT) (k : ByteArray) : Int := idxI (fun h => strEq h.1 k) hs
def phaseIx (ph : List PhaseT) (k : ByteArray) : Int := idxI (fun h => strEq h.1 k) ph
def nodeIx (ns : List NodeT) (k : ByteArray) : Int := idxI (fun h => strEq h.1 k) ns
theorem inOf_comm (l : List ByteArray) (k : ByteArray) : inOf l k = l.any fun x => strEq x k := by
  unfold inOf
  congr 1
  funext x; exact strEq_comm k x
theorem rin04_ (l : List ByteArray) (k : ByteArray) (hl : Sh l) : Ev (fun n => ref04_In n (k, l)) (inOf l k) := by
  rw [inOf_comm]
  unfold ref04_In
  refine Ev.loopD (st := fun i => (k, l, (i : Int))) l.length (fun i => strEq (l.getD i (ByteArray.mk #[])) k) (fun _ => .inl true) (.inr ()) rfl (fun i hi _ => ?_) (fun _ => ?_) (fun i hi hk hp => ?_) (fun h => ?_)
  · simp only [ofNat_lt_true hi, cond_true, inB_nat, hi, decide_true, atI_nat, wrap_succ (show i < 9223372036854775807 by omega)]
    cases strEq (l.getD i (ByteArray.mk #[])) k <;> exact Ev.ret _
  · simp only [ofNat_lt_irrefl, cond_false]; exact Ev.ret _
  · rw [(any_getD _ (ByteArray.mk #[]) l).2 ⟨i, hi, hp⟩]; exact Ev.ret _
  · have : (l.any fun x => strEq x k) = false := by
      cases hq : l.any fun x => strEq x k with
      | false => rfl
      | true =>
        obtain ⟨i, hi, hp⟩ := (any_getD _ (ByteArray.mk #[]) l).1 hq
        rw [h i hi] at hp; cases hp
    rw [this]; exact Ev.ret _
theorem rhead07_ (a : ByteArray) (b : List HeadT) (c : List PedT) (ph : List PhaseT) (e : List (List RowT)) (f : List FoeT) (g : Int) (k : ByteArray) (hl : Sh b) : Ev (fun n => ref07_Head n (a, b, c, ph, e, f, g, k)) (headIx b k) := by
  unfold ref07_Head
  refine Ev.loopD (st := fun i => (k, (i : Int), a, b, c, ph, e, f, g)) b.length (fun i => strEq (b.getD i zHead).1 k) (fun i => .inl (i : Int)) (.inr ()) rfl (fun i hi _ => ?_) (fun _ => ?_) (fun i hi hk hp => ?_) (fun h => ?_)
  · have hz : b.getD i (ByteArray.mk #[], 0, 0, 0, 0, 0, 0, 0, 0, 0, 0) = b.getD i zHead := rfl
    simp only [ofNat_lt_true hi, cond_true, inB_nat, hi, decide_true, atI_nat, hz, wrap_succ (show i < 9223372036854775807 by omega)]
    cases strEq (b.getD i zHead).1 k <;> exact Ev.ret _
  · simp only [ofNat_lt_irrefl, cond_false]; exact Ev.ret _
  · unfold headIx; rw [idxI_hit _ zHead b i hi hk hp]; exact Ev.ret _
  · unfold headIx; rw [idxI_none _ zHead b h]; exact Ev.ret _
theorem rphase07_ (a : ByteArray) (b : List HeadT) (c : List PedT) (ph : List PhaseT) (e : List (List RowT)) (f : List FoeT) (g : Int) (k : ByteArray) (hl : Sh ph) : Ev (fun n => ref07_Phase n (a, b, c, ph, e, f, g, k)) (phaseIx ph k) := by
  unfold ref07_Phase
  refine Ev.loopD (st := fun i => (k, (i : Int), a, b, c, ph, e, f, g)) ph.length (fun i => strEq (ph.getD i zPhase).1 k) (fun i => .inl (i : Int)) (.inr ()) rfl (fun i hi _ => ?_) (fun _ => ?_) (fun i hi hk hp => ?_) (fun h => ?_)
  · have hz : ph.getD i (ByteArray.mk #[], [], 0) = ph.getD i zPhase := rfl
    simp only [ofNat_lt_true hi, cond_true, inB_nat, hi, decide_true, atI_nat, hz, wrap_succ (show i < 9223372036854775807 by omega)]
    cases strEq (ph.getD i zPhase).1 k <;> exact Ev.ret _
  · simp only [ofNat_lt_irrefl, cond_false]; exact Ev.ret _
  · unfold phaseIx; rw [idxI_hit _ zPhase ph i hi hk hp]; exact Ev.ret _
  · unfold phaseIx; rw [idxI_none _ zPhase ph h]; exact Ev.ret _
theorem rnode07_ (a b c d e : Int) (ns : List NodeT) (ss : List StopT) (f g : Int) (k : ByteArray) (hl : Sh ns) : Ev (fun n => ref07_Node n (a, b, c, d, e, ns, ss, f, g, k)) (nodeIx ns k) := by
  unfold ref07_Node
  refine Ev.loopD (st := fun i => (k, (i : Int), a, b, c, d, e, ns, ss, f, g)) ns.length (fun i => strEq (ns.getD i zNode).1 k) (fun i => .inl (i : Int)) (.inr ()) rfl (fun i hi _ => ?_) (fun _ => ?_) (fun i hi hk hp => ?_) (fun h => ?_)
  · have hz : ns.getD i (ByteArray.mk #[], [], [], [], [], [], 0) = ns.getD i zNode := rfl
    simp only [ofNat_lt_true hi, cond_true, inB_nat, hi, decide_true, atI_nat, hz, wrap_succ (show i < 9223372036854775807 by omega)]
    cases strEq (ns.getD i zNode).1 k <;> exact Ev.ret _
  · simp only [ofNat_lt_irrefl, cond_false]; exact Ev.ret _
  · unfold nodeIx; rw [idxI_hit _ zNode ns i hi hk hp]; exact Ev.ret _
  · unfold nodeIx; rw [idxI_none _ zNode ns h]; exact Ev.ret _
theorem rhome07_ (a : ByteArray) (b : List HeadT) (c : List PedT) (ph : List PhaseT) (e : List (List RowT)) (f : List FoeT) (g : Int) (k : ByteArray) (hl : Sh ph) (hp : ∀ p ∈ ph, Sh p.2.1) : Ev (fun n => ref07_Home n (a, b, c, ph, e, f, g, k)) (homeOf ph k) := by
  unfold ref07_Home
  refine Ev.loopD (st := fun i => (k, (i : Int), a, b, c, ph, e, f, g)) ph.length (fun i => inOf (ph.getD i zPhase).2.1 k) (fun i => .inl (i : Int)) (.inr ()) rfl (fun i hi _ => ?_) (fun _ => ?_) (fun i hi hk hp => ?_) (fun h => ?_)
  · have hz : ph.getD i (ByteArray.mk #[], [], 0) = ph.getD i zPhase := rfl
    simp only [ofNat_lt_true hi, cond_true, inB_nat, hi, decide_true, atI_nat, hz, wrap_succ (show i < 9223372036854775807 by omega)]
    refine Ev.bind (rin04_ _ k (hp _ (getD_mem ph i zPhase hi))) ?_
    cases inOf (ph.getD i zPhase).2.1 k <;> exact Ev.ret _
  · simp only [ofNat_lt_irrefl, cond_false]; exact Ev.ret _
  · unfold homeOf; rw [idxI_hit _ zPhase ph i hi hk hp]; exact Ev.ret _
  · unfold homeOf; rw [idxI_none _ zPhase ph h]; exact Ev.ret _
def inR (a lo hi : Int) : Bool := decide (lo ≤ a) && decide (a ≤ hi)
theorem rin07_ (n : Nat) (a lo hi : Int) : ref07_in n (a, lo, hi) = some (inR a lo hi) := by
  unfold ref07_in inR
  by_cases h : lo ≤ a <;> simp [h]
def headRange (h : HeadT) : Bool := inR h.2.1 0 1000000000 && (inR h.2.2.1 1 1000000000 && (inR h.2.2.2.1 1 1000000000 && (inR h.2.2.2.2.1 1 1000000000 && (inR h.2.2.2.2.2.1 1 10000 && (inR h.2.2.2.2.2.2.1 (-200) 200 && (inR h.2.2.2.2.2.2.2.1 0 100000 && (inR h.2.2.2.2.2.2.2.2.1 0 100000 && inR h.2.2.2.2.2.2.2.2.2.1 1 6000)))))))
def headE (hs : List HeadT) (i : Nat) : Err := if headIx hs (hs.getD i zHead).1 < i then (71, (hs.getD i zHead).2.2.2.2.2.2.2.2.2.2) else if headRange (hs.getD i zHead) then (0, 0) else (70, (hs.getD i zHead).2.2.2.2.2.2.2.2.2.2)
def headsE (hs : List HeadT) : Err := scanE hs.length (headE hs)
theorem heads07_ (x : NodeT) (hl : Sh x.2.1) : Ev (fun n => ref07_heads n x) (headsE x.2.1) := by
  obtain ⟨x1, x2, x3, x4, x5, x6, x7⟩ := x
  unfold ref07_heads headsE
  simp only at hl ⊢
  refine Ev.loopS (st := fun i => ((i : Int), x1, x2, x3, x4, x5, x6, x7)) x2.length (headE x2) () rfl (fun i hi _ => ?_) (fun _ => ?_) (fun _ => Ev.ret _) (fun h => by rw [scanE_none h]; exact Ev.ret _)
  · have hz : x2.getD i (ByteArray.mk #[], 0, 0, 0, 0, 0, 0, 0, 0, 0, 0) = x2.getD i zHead := rfl
    simp only [ofNat_lt_true hi, cond_true, inB_nat, hi, decide_true, atI_nat, hz, wrap_succ (show i < 9223372036854775807 by omega)]
    refine Ev.bind (rhead07_ _ _ _ _ _ _ _ _ hl) ?_
    unfold headE
    by_cases h1 : headIx x2 (x2.getD i zHead).1 < i
    · rw [if_pos h1]
      exact Ev.yes (decide_eq_true h1) (Ev.ret _)
    · rw [if_neg h1]
      refine Ev.no (decide_eq_false h1) ?_
      generalize x2.getD i zHead = h
      simp only [letJ, rin07_, Option.bind_some, wrap_succ (show i < 9223372036854775807 by omega)]
      unfold headRange
      cases inR h.2.1 0 1000000000 with
      | false => exact Ev.ret _
      | true => cases inR h.2.2.1 1 1000000000 with
        | false => exact Ev.ret _
        | true => cases inR h.2.2.2.1 1 1000000000 with
          | false => exact Ev.ret _
          | true => cases inR h.2.2.2.2.1 1 1000000000 with
            | false => exact Ev.ret _
            | true => cases inR h.2.2.2.2.2.1 1 10000 with
              | false => exact Ev.ret _
              | true => cases inR h.2.2.2.2.2.2.1 (-200) 200 with
                | false => exact Ev.ret _
                | true => cases inR h.2.2.2.2.2.2.2.1 0 100000 with
                  | false => exact Ev.ret _
                  | true => cases inR h.2.2.2.2.2.2.2.2.1 0 100000 with
                    | false => exact Ev.ret _
                    | true => cases inR h.2.2.2.2.2.2.2.2.2.1 1 6000 <;> exact Ev.ret _
  · simp only [ofNat_lt_irrefl, cond_false]; exact Ev.ret _
def phHeadE (hs : List HeadT) (ph : List PhaseT) (i : Nat) (p : PhaseT) (k : Nat) : Err :=
  if headIx hs (p.2.1.getD k (ByteArray.mk #[])) < 0 then (72, p.2.2) else if homeOf ph (p.2.1.getD k (ByteArray.mk #[])) < i ∨ inOf (p.2.1.take k) (p.2.1.getD k (ByteArray.mk #[])) = true then (71, p.2.2) else (0, 0)
def phaseE (hs : List HeadT) (ph : List PhaseT) (i : Nat) : Err :=
  if phaseIx ph (ph.getD i zPhase).1 < i then (71, (ph.getD i zPhase).2.2) else if (scanE (ph.getD i zPhase).2.1.length (phHeadE hs ph i (ph.getD i zPhase))).1 = 0 then (if (ph.getD i zPhase).2.1.length = 0 then (73, (ph.getD i zPhase).2.2) else (0, 0)) else scanE (ph.getD i zPhase).2.1.length (phHeadE hs ph i (ph.getD i zPhase))
def homeE (hs : List HeadT) (ph : List PhaseT) (i : Nat) : Err := if homeOf ph (hs.getD i zHead).1 < 0 then (73, (hs.getD i zHead).2.2.2.2.2.2.2.2.2.2) else (0, 0)
def phasesE (hs : List HeadT) (ph : List PhaseT) : Err := if (scanE ph.length (phaseE hs ph)).1 = 0 then scanE hs.length (homeE hs ph) else scanE ph.length (phaseE hs ph)
set_option maxHeartbeats 1000000 in
theorem phases07_ (x : NodeT) (hh : Sh x.2.1) (hp : Sh x.2.2.2.1) (hpp : ∀ p ∈ x.2.2.2.1, Sh p.2.1) : Ev (fun n => ref07_phases n x) (phasesE x.2.1 x.2.2.2.1) := by
  obtain ⟨x1, x2, x3, x4, x5, x6, x7⟩ := x
  unfold ref07_phases phasesE
  simp only at hh hp hpp ⊢
  refine Ev.loopS (st := fun i => ((i : Int), x1, x2, x3, x4, x5, x6, x7)) x4.length (phaseE x2 x4) (x1, x2, x3, x4, x5, x6, x7) rfl (fun i hi _ => ?_) (fun _ => ?_) (fun h => ?_) (fun h => ?_)
  · have hz : x4.getD i (ByteArray.mk #[], [], 0) = x4.getD i zPhase := rfl
    simp only [ofNat_lt_true hi, cond_true, inB_nat, hi, decide_true, atI_nat, hz]
    refine Ev.bind (rphase07_ _ _ _ _ _ _ _ _ hp) ?_
    unfold phaseE
    have hsp := hpp _ (getD_mem x4 i zPhase hi)
    generalize x4.getD i zPhase = p at hsp
    by_cases h1 : phaseIx x4 p.1 < i
    · rw [if_pos h1]
      exact Ev.yes (decide_eq_true h1) (Ev.ret _)
    · rw [if_neg h1]
      refine Ev.no (decide_eq_false h1) ?_
      obtain ⟨p1, p2, p3⟩ := p
      simp only at hsp ⊢
      refine Ev.loopS (st := fun k => ((i : Int), (k : Int), x1, x2, x3, x4, x5, x6, x7, p1, p2, p3)) p2.length (phHeadE x2 x4 i (p1, p2, p3)) ((i : Int), x1, x2, x3, x4, x5, x6, x7, p1, p2, p3) rfl (fun k hk _ => ?_) (fun _ => ?_) (fun h => ?_) (fun h => ?_)
      · simp only [ofNat_lt_true hk, cond_true, inB_nat, hk, decide_true, atI_nat, wrap_succ (show k < 9223372036854775807 by omega)]
        unfold phHeadE
        simp only
        have hcut : cutOk none (some (k : Int)) p2.length = true := by simp [cutOk]; omega
        have hcl : cutList none (some (k : Int)) p2 = p2.take k := by simp [cutList]
        generalize p2.getD k (ByteArray.mk #[]) = nm
        refine Ev.bind (rhead07_ _ _ _ _ _ _ _ _ hh) ?_
        by_cases h2 : headIx x2 nm < 0
        · rw [if_pos h2]
          exact Ev.yes (decide_eq_true h2) (Ev.ret _)
        · rw [if_neg h2]
          refine Ev.no (decide_eq_false h2) ?_
          simp only [letJ]
          refine Ev.bind (rhome07_ _ _ _ _ _ _ _ _ hp hpp) ?_
          by_cases h3 : homeOf x4 nm < i
          · rw [if_pos (show homeOf x4 nm < i ∨ inOf (p2.take k) nm = true from .inl h3)]
            exact Ev.yes (decide_eq_true h3) (Ev.ret _)
          · refine Ev.no (decide_eq_false h3) ?_
            rw [hcut, hcl]
            simp only [cond_true]
            refine Ev.bind (rin04_ _ nm (by have : (p2.take k).length ≤ p2.length := by simp; omega
                                            show (p2.take k).length ≤ _
                                            omega)) ?_
            cases hi4 : inOf (p2.take k) nm with
            | true => rw [if_pos (show homeOf x4 nm < i ∨ true = true from .inr rfl)]; exact Ev.ret _
            | false =>
              rw [if_neg (show ¬ (homeOf x4 nm < i ∨ false = true) by simp [h3])]
              simp only [cond_false, if_true, wrap_succ (show k < 9223372036854775807 by omega)]
              exact Ev.ret _
      · simp only [ofNat_lt_irrefl, cond_false]; exact Ev.ret _
      · rw [if_neg h, if_neg h]; exact Ev.ret _
      · rw [scanE_none h]
        simp only [Sum.elim_inr, if_true, wrap_succ (show i < 9223372036854775807 by omega)]
        by_cases h2 : p2.length = 0
        · rw [if_pos h2]
          exact Ev.yes (by simp [h2]) (Ev.ret _)
        · rw [if_neg h2]
          exact Ev.no (by simp; intro e; exact h2 (by simp [e])) (Ev.ret _)
  · simp only [ofNat_lt_irrefl, cond_false]; exact Ev.ret _
  · rw [if_neg h]; exact Ev.ret _
  · rw [scanE_none h]
    simp only [if_true, Sum.elim_inr]
    refine Ev.loopS (st := fun i => ((i : Int), x1, x2, x3, x4, x5, x6, x7)) x2.length (homeE x2 x4) () rfl (fun i hi _ => ?_) (fun _ => ?_) (fun h => Ev.ret _) (fun h => by rw [scanE_none h]; exact Ev.ret _)
    · have hz : x2.getD i (ByteArray.mk #[], 0, 0, 0, 0, 0, 0, 0, 0, 0, 0) = x2.getD i zHead := rfl
      simp only [ofNat_lt_true hi, cond_true, inB_nat, hi, decide_true, atI_nat, hz, wrap_succ (show i < 9223372036854775807 by omega)]
      refine Ev.bind (rhome07_ _ _ _ _ _ _ _ _ hp hpp) ?_
      unfold homeE
      by_cases h2 : homeOf x4 (x2.getD i zHead).1 < 0
      · rw [if_pos h2]; exact Ev.yes (decide_eq_true h2) (Ev.ret _)
      · rw [if_neg h2]; exact Ev.no (decide_eq_false h2) (Ev.ret _)
    · simp only [ofNat_lt_irrefl, cond_false]; exact Ev.ret _
def pedRange (p : PedT) : Bool := inR p.2.2.1 1 100000 && (inR p.2.2.2.1 1 10000 && inR p.2.2.2.2.1 1 6000)
def pedE (ps : List PedT) (ph : List PhaseT) (i : Nat) : Err :=
  if (ps.take i).any (fun q => strEq q.1 (ps.getD i zPed).1) then (71, (ps.getD i zPed).2.2.2.2.2) else if phaseIx ph (ps.getD i zPed).2.1 < 0 then (72, (ps.getD i zPed).2.2.2.2.2) else if pedRange (ps.getD i zPed) then (0, 0) else (70, (ps.getD i zPed).2.2.2.2.2)
def pedsE (ps : List PedT) (ph : List PhaseT) : Err := scanE ps.length (pedE ps ph)
theorem take_getD {A : Type} (l : List A) (i k : Nat) (d : A) (h : k < i) : (l.take i).getD k d = l.getD k d := by
  simp [List.getD_eq_getElem?_getD, List.getElem?_take_of_lt h]
theorem walks07_ (x : NodeT) (hd : Sh x.2.2.1) (hp : Sh x.2.2.2.1) : Ev (fun n => ref07_walks n x) (pedsE x.2.2.1 x.2.2.2.1) := by
  obtain ⟨x1, x2, x3, x4, x5, x6, x7⟩ := x
  unfold ref07_walks pedsE
  simp only at hd hp ⊢
  refine Ev.loopS (st := fun i => ((i : Int), x1, x2, x3, x4, x5, x6, x7)) x3.length (pedE x3 x4) () rfl (fun i hi _ => ?_) (fun _ => ?_) (fun _ => Ev.ret _) (fun h => by rw [scanE_none h]; exact Ev.ret _)
  · have hz : ∀ k, x3.getD k (ByteArray.mk #[], ByteArray.mk #[], 0, 0, 0, 0) = x3.getD k zPed := fun _ => rfl
    simp only [ofNat_lt_true hi, cond_true, inB_nat, hi, decide_true, atI_nat, hz]
    unfold pedE
    generalize hpe : x3.getD i zPed = p
    obtain ⟨p1, p2, p3, p4, p5, p6⟩ := p
    simp only
    have hlt : (x3.take i).length = i := by simp; omega
    refine Ev.loopD (st := fun k => ((i : Int), (k : Int), x1, x2, x3, x4, x5, x6, x7, p1, p2, p3, p4, p5, p6)) i (fun k => strEq (x3.getD k zPed).1 p1) (fun _ => .inl (71, p6)) (.inr ((i : Int), x1, x2, x3, x4, x5, x6, x7, p1, p2, p3, p4, p5, p6)) rfl (fun k hk _ => ?_) (fun _ => ?_) (fun k hk _ hp => ?_) (fun h => ?_)
    · have hk3 : k < x3.length := by omega
      simp only [ofNat_lt_true hk, cond_true, inB_nat, hk3, decide_true, atI_nat, hz, wrap_succ (show k < 9223372036854775807 by omega)]
      cases strEq (x3.getD k zPed).1 p1 <;> exact Ev.ret _
    · simp only [ofNat_lt_irrefl, cond_false]; exact Ev.ret _
    · have : (x3.take i).any (fun q => strEq q.1 p1) = true := (any_getD _ zPed _).2 ⟨k, by omega, by rw [take_getD _ _ _ _ hk]; exact hp⟩
      rw [if_pos this]
      exact Ev.ret _
    · have : ¬ (x3.take i).any (fun q => strEq q.1 p1) = true := fun hq => by
        obtain ⟨k, hk, hp⟩ := (any_getD _ zPed _).1 hq
        rw [take_getD _ _ _ _ (by omega), h k (by omega)] at hp; cases hp
      rw [if_neg this]
      simp only [Sum.elim_inr]
      refine Ev.bind (rphase07_ _ _ _ _ _ _ _ _ hp) ?_
      by_cases h2 : phaseIx x4 p2 < 0
      · rw [if_pos h2]; exact Ev.yes (decide_eq_true h2) (Ev.ret _)
      · rw [if_neg h2]
        refine Ev.no (decide_eq_false h2) ?_
        simp only [letJ, rin07_, Option.bind_some, wrap_succ (show i < 9223372036854775807 by omega)]
        unfold pedRange
        simp only
        cases inR p3 1 100000 with
        | false => exact Ev.ret _
        | true => cases inR p4 1 10000 with
          | false => exact Ev.ret _
          | true => cases inR p5 1 6000 <;> exact Ev.ret _
  · simp only [ofNat_lt_irrefl, cond_false]; exact Ev.ret _
def foeE (hs : List HeadT) (ph : List PhaseT) (fs : List FoeT) (i : Nat) : Err :=
  if headIx hs (fs.getD i zFoe).1 < 0 ∨ headIx hs (fs.getD i zFoe).2.1 < 0 then (72, (fs.getD i zFoe).2.2) else if strEq (fs.getD i zFoe).1 (fs.getD i zFoe).2.1 = true ∨ homeOf ph (fs.getD i zFoe).1 = homeOf ph (fs.getD i zFoe).2.1 then (75, (fs.getD i zFoe).2.2) else (0, 0)
def foesE (hs : List HeadT) (ph : List PhaseT) (fs : List FoeT) : Err := scanE fs.length (foeE hs ph fs)
theorem foes07_ (x : NodeT) (hh : Sh x.2.1) (hp : Sh x.2.2.2.1) (hpp : ∀ p ∈ x.2.2.2.1, Sh p.2.1) (hf : Sh x.2.2.2.2.2.1) : Ev (fun n => ref07_foes n x) (foesE x.2.1 x.2.2.2.1 x.2.2.2.2.2.1) := by
  obtain ⟨x1, x2, x3, x4, x5, x6, x7⟩ := x
  unfold ref07_foes foesE
  simp only at hh hp hpp hf ⊢
  refine Ev.loopS (st := fun i => ((i : Int), x1, x2, x3, x4, x5, x6, x7)) x6.length (foeE x2 x4 x6) () rfl (fun i hi _ => ?_) (fun _ => ?_) (fun _ => Ev.ret _) (fun h => by rw [scanE_none h]; exact Ev.ret _)
  · have hz : x6.getD i (ByteArray.mk #[], ByteArray.mk #[], 0) = x6.getD i zFoe := rfl
    simp only [ofNat_lt_true hi, cond_true, inB_nat, hi, decide_true, atI_nat, hz, wrap_succ (show i < 9223372036854775807 by omega), letJ]
    unfold foeE
    generalize x6.getD i zFoe = f
    obtain ⟨f1, f2, f3⟩ := f
    simp only
    refine Ev.bind (rhead07_ _ _ _ _ _ _ _ _ hh) ?_
    by_cases h1 : headIx x2 f1 < 0
    · rw [if_pos (show headIx x2 f1 < 0 ∨ headIx x2 f2 < 0 from .inl h1)]
      exact Ev.yes (decide_eq_true h1) (Ev.ret _)
    · refine Ev.no (decide_eq_false h1) ?_
      refine Ev.bind (rhead07_ _ _ _ _ _ _ _ _ hh) ?_
      by_cases h2 : headIx x2 f2 < 0
      · rw [if_pos (show headIx x2 f1 < 0 ∨ headIx x2 f2 < 0 from .inr h2)]
        refine Ev.yes (decide_eq_true h2) (Ev.ret _)
      · rw [if_neg (show ¬ (headIx x2 f1 < 0 ∨ headIx x2 f2 < 0) by omega)]
        refine Ev.no (decide_eq_false h2) ?_
        cases h3 : strEq f1 f2 with
        | true => rw [if_pos (show true = true ∨ homeOf x4 f1 = homeOf x4 f2 from .inl rfl)]; exact Ev.ret _
        | false =>
          simp only [cond_false]
          refine Ev.bind (rhome07_ _ _ _ _ _ _ _ _ hp hpp) ?_
          refine Ev.bind (rhome07_ _ _ _ _ _ _ _ _ hp hpp) ?_
          by_cases h4 : homeOf x4 f1 = homeOf x4 f2
          · rw [if_pos (show false = true ∨ homeOf x4 f1 = homeOf x4 f2 from .inr h4)]
            refine Ev.yes (by simp [h4]) (Ev.ret _)
          · rw [if_neg (show ¬ (false = true ∨ homeOf x4 f1 = homeOf x4 f2) by simp [h4])]
            refine Ev.no (by simp [h4]) (Ev.ret _)
  · simp only [ofNat_lt_irrefl, cond_false]; exact Ev.ret _
end Go.Proofs.Ytbcejiobmeglgaa.Fn
