/- What the laws of networks lean on: short rows, places of names. -/
import Derived.Test.YtbcejiobmeglgaaFnV2
import Derived.Test.YtbcejiobmeglgaaLibF
namespace Go.Proofs.Ytbcejiobmeglgaa.Fn
open Go Go.RowKit Go.Den
set_option linter.unusedVariables false
abbrev HeadT := ByteArray × Int × Int × Int × Int × Int × Int × Int × Int × Int × Int
abbrev PedT := ByteArray × ByteArray × Int × Int × Int × Int
abbrev PhaseT := ByteArray × List ByteArray × Int
abbrev RowT := Bool × List ByteArray
abbrev FoeT := ByteArray × ByteArray × Int
abbrev NodeT := ByteArray × List HeadT × List PedT × List PhaseT × List (List RowT) × List FoeT × Int
theorem index_ (l : List ByteArray) (k : ByteArray) (hl : l.length < 9223372036854775807) : Ev (fun n => slices_Index_string n (l, k)) (idxI (fun x => strEq k x) l) := by
  unfold slices_Index_string
  refine Ev.loopD (st := fun i => (l, k, ((l.length : Nat) : Int), (i : Int))) l.length (fun i => strEq k (l.getD i (ByteArray.mk #[]))) (fun i => .inl (i : Int)) (.inr ()) rfl (fun i hi _ => ?_) (fun _ => ?_) (fun i hi hk hp => ?_) (fun h => ?_)
  · simp only [ofNat_lt_true hi, cond_true, inB_nat, hi, decide_true, atI_nat, wrap_succ (show i < 9223372036854775807 by omega)]
    cases strEq k (l.getD i (ByteArray.mk #[])) <;> exact Ev.ret _
  · simp only [ofNat_lt_irrefl, cond_false]; exact Ev.ret _
  · rw [idxI_hit _ (ByteArray.mk #[]) l i hi hk hp]; exact Ev.ret _
  · rw [idxI_none _ (ByteArray.mk #[]) l h]; exact Ev.ret _
def inOf (l : List ByteArray) (k : ByteArray) : Bool := l.any fun x => strEq k x
theorem contains_ (l : List ByteArray) (k : ByteArray) (hl : l.length < 9223372036854775807) : Ev (fun n => slices_Contains_string n (l, k)) (inOf l k) := by
  unfold slices_Contains_string
  refine Ev.bind (index_ l k hl) ?_
  rw [idxI_any]; exact Ev.ret _
def homeOf (ph : List PhaseT) (k : ByteArray) : Int := idxI (fun p => inOf p.2.1 k) ph
theorem home_ (a : ByteArray) (b : List HeadT) (c : List PedT) (ph : List PhaseT) (e : List (List RowT)) (f : List FoeT) (g : Int) (k : ByteArray) (hl : ph.length < 9223372036854775807) (hp : ∀ p ∈ ph, p.2.1.length < 9223372036854775807) :
    Ev (fun n => valid_Home n (a, b, c, ph, e, f, g, k)) (homeOf ph k) := by
  unfold valid_Home
  refine Ev.bind (a := (homeOf ph k, k)) ?_ (Ev.ret _)
  unfold slices_IndexFunc_valid_Home_1
  refine indexFuncV_ev (ByteArray.mk #[], [], 0) (fun n a s => valid_Home_1 n (a.1, a.2.1, a.2.2, s)) _ ph k hl fun p hm => ?_
  unfold valid_Home_1
  exact Ev.bind (contains_ _ _ (hp p hm)) (Ev.ret _)
def zRow : RowT := (false, [])
theorem mhas_put {V : Type} (k j : ByteArray) (v : V) (m : List (ByteArray × V)) : mhas k (mput j (j, v) m) = (mhas k m || strEq j k) := by
  unfold mhas mput
  induction m with
  | nil => simp [putP, hasP]
  | cons a m ih =>
    simp only [putP, hasP]
    cases h : strEq a.1 j with
    | true =>
      rw [strEq_iff] at h
      simp only [cond_true, hasP, h]
      cases h1 : strEq j k <;> simp
    | false =>
      simp only [cond_false, hasP, ih]
      cases strEq a.1 k <;> simp
theorem strings_ (l : List ByteArray) : EvO (fun n => law06_strings n l) true (l.length ≤ 50) false := by
  unfold law06_strings
  refine EvO.bindO (EvO.loop (st := fun i => (l, (i : Int))) (min l.length 50) (fun _ => True) (.inr l) (.inl false) rfl (fun i hi => ?_) ?_) (fun _ => ?_) (by exact .no (Ev.ret _))
  · have h1 : i < l.length := by omega
    simp only [letJ, ofNat_lt_true h1, cond_true, decide_eq_true (show (i : Int) < 50 by omega), inB_nat, h1, decide_true, atI_nat, wrap_succ (show i < 9223372036854775807 by omega)]
    exact EvO.cond (fun _ => .no (Ev.ret _)) (fun _ => .yes (Ev.ret _) trivial)
  · simp only [letJ]
    by_cases h1 : l.length ≤ 50
    · rw [Nat.min_eq_left h1]; simp only [ofNat_lt_irrefl, cond_false]; exact Ev.ret _
    · rw [Nat.min_eq_right (by omega)]
      simp only [ofNat_lt_true (show 50 < l.length by omega), cond_true, decide_eq_false (show ¬ ((50 : Nat) : Int) < 50 by omega), cond_false]; exact Ev.ret _
  · by_cases h1 : l.length ≤ 50
    · exact .yes ((Ev.ret _).of_eq (decide_eq_true (by omega))) h1
    · exact .no ((Ev.ret _).of_eq (decide_eq_false (by omega)))
structure SmallN (x : NodeT) : Prop where
  heads : x.2.1.length ≤ 50
  peds : x.2.2.1.length ≤ 50
  phases : x.2.2.2.1.length ≤ 50
  groups : x.2.2.2.2.1.length ≤ 50
  foes : x.2.2.2.2.2.1.length ≤ 80
  phase : ∀ p ∈ x.2.2.2.1, p.2.1.length ≤ 50
  rings : ∀ g ∈ x.2.2.2.2.1, g.length ≤ 5
  rows : ∀ g ∈ x.2.2.2.2.1, ∀ r ∈ g, r.2.length ≤ 50
theorem mem_getD {A : Type} {l : List A} {d : A} {Q : A → Prop} (h : ∀ i, i < l.length → Q (l.getD i d)) : ∀ a ∈ l, Q a := fun a ha => by
  obtain ⟨i, hi, rfl⟩ := List.getElem_of_mem ha
  have := h i hi
  rwa [getD_lt _ _ _ hi] at this
set_option maxHeartbeats 1000000 in
theorem node06_ (x : NodeT) : EvO (fun n => law06_node n x) true (SmallN x) false := by
  obtain ⟨x1, x2, x3, x4, x5, x6, x7⟩ := x
  unfold law06_node
  refine EvO.cond (fun _ => .no (Ev.ret _)) (fun h1 => ?_)
  refine EvO.cond (fun _ => .no (Ev.ret _)) (fun h2 => ?_)
  refine EvO.cond (fun _ => .no (Ev.ret _)) (fun h3 => ?_)
  refine EvO.cond (fun _ => .no (Ev.ret _)) (fun h4 => ?_)
  refine EvO.cond (fun _ => .no (Ev.ret _)) (fun h5 => ?_)
  simp only [decide_eq_false_iff_not] at h1 h2 h3 h4 h5
  have b1 : x2.length ≤ 50 := by omega
  have b2 : x3.length ≤ 50 := by omega
  have b3 : x4.length ≤ 50 := by omega
  have b4 : x5.length ≤ 50 := by omega
  have b5 : x6.length ≤ 80 := by omega
  refine EvO.bind1 (x := (x1, x2, x3, x4, x5, x6, x7, x1 :: x2.map (·.1))) (Ev.loop (st := fun i => ((i : Int), x1, x2, x3, x4, x5, x6, x7, x1 :: (x2.take i).map (·.1))) x2.length _ rfl (fun i hi => ?_) ?_) ?_
  · have hl : (x1 :: (x2.take i).map (·.1)).length ≤ 1000 := by simp; omega
    rw [take_snoc x2 i (ByteArray.mk #[], 0, 0, 0, 0, 0, 0, 0, 0, 0, 0) hi]
    simp only [ofNat_lt_true hi, cond_true, inB_nat, hi, decide_true, atI_nat, wrap_succ (show i < 9223372036854775807 by omega), List.map_append, List.map_cons, List.map_nil]
    refine Ev.yes (fitB_ok ?_) (Ev.ret _)
    simp only [List.length_cons, List.length_nil] at hl ⊢; omega
  · simp only [ofNat_lt_irrefl, cond_false, List.take_length]; exact Ev.ret _
  refine EvO.cond (fun _ => ?_) (fun h => ?_)
  rotate_left
  · exfalso
    simp only [cutOk, mn_eq, Bool.and_eq_false_iff, decide_eq_false_iff_not] at h
    omega
  refine EvO.bindO (strings_ _) (fun _ => ?_) (.no (Ev.ret _))
  refine EvO.bindO (EvO.loop (st := fun i => ((i : Int), x1, x2, x3, x4, x5, x6, x7)) x3.length (fun _ => True) (.inr (x1, x2, x3, x4, x5, x6, x7)) (.inl false) rfl (fun i hi => ?_) ?_) (fun _ => ?_) (by exact .no (Ev.ret _))
  · simp only [ofNat_lt_true hi, cond_true, inB_nat, hi, decide_true, atI_nat, wrap_succ (show i < 9223372036854775807 by omega)]
    exact EvO.bindO (strings_ _) (fun _ => .yes (Ev.ret _) trivial) (.no (Ev.ret _))
  · simp only [ofNat_lt_irrefl, cond_false]; exact Ev.ret _
  refine EvO.bindO (EvO.loop (st := fun i => ((i : Int), x1, x2, x3, x4, x5, x6, x7)) x4.length (fun i => (x4.getD i (ByteArray.mk #[], [], 0)).2.1.length ≤ 50) (.inr (x1, x2, x3, x4, x5, x6, x7)) (.inl false) rfl (fun i hi => ?_) ?_) (fun hph => ?_) (by exact .no (Ev.ret _))
  · simp only [ofNat_lt_true hi, cond_true, inB_nat, hi, decide_true, atI_nat, wrap_succ (show i < 9223372036854775807 by omega), letJ]
    exact EvO.bindO (strings_ _) (fun _ => EvO.bindO (strings_ _) (fun h => .yes (Ev.ret _) h) (.no (Ev.ret _))) (.no (Ev.ret _))
  · simp only [ofNat_lt_irrefl, cond_false]; exact Ev.ret _
  refine EvO.bindO (EvO.loop (st := fun i => ((i : Int), x1, x2, x3, x4, x5, x6, x7)) x5.length (fun i => (x5.getD i []).length ≤ 5 ∧ ∀ k, k < (x5.getD i []).length → ((x5.getD i []).getD k (false, [])).2.length ≤ 50) (.inr (x1, x2, x3, x4, x5, x6, x7)) (.inl false) rfl (fun i hi => ?_) ?_) (fun hgr => ?_) (by exact .no (Ev.ret _))
  · simp only [ofNat_lt_true hi, cond_true, inB_nat, hi, decide_true, atI_nat]
    refine EvO.cond (fun _ => .no (Ev.ret _)) (fun h6 => ?_)
    simp only [decide_eq_false_iff_not] at h6
    have b6 : (x5.getD i []).length ≤ 5 := by omega
    generalize hg : x5.getD i [] = g at b6
    refine EvO.bindO (EvO.loop (st := fun k => ((i : Int), (k : Int), x1, x2, x3, x4, x5, x6, x7)) g.length (fun k => (g.getD k (false, [])).2.length ≤ 50) (.inr ((i : Int), x1, x2, x3, x4, x5, x6, x7)) (.inl false) rfl (fun k hk => ?_) ?_) (fun h => ?_) (by exact .no (Ev.ret _))
    · simp only [inB_nat, hi, decide_true, cond_true, atI_nat, hg, ofNat_lt_true hk, hk, wrap_succ (show k < 9223372036854775807 by omega)]
      exact EvO.bindO (strings_ _) (fun h => .yes (Ev.ret _) h) (.no (Ev.ret _))
    · simp only [inB_nat, hi, decide_true, cond_true, atI_nat, hg, ofNat_lt_irrefl, cond_false]; exact Ev.ret _
    · simp only [Sum.elim_inr, wrap_succ (show i < 9223372036854775807 by omega)]
      exact .yes (Ev.ret _) ⟨b6, h⟩
  · simp only [ofNat_lt_irrefl, cond_false]; exact Ev.ret _
  refine EvO.bindO (EvO.loop (st := fun i => ((i : Int), x1, x2, x3, x4, x5, x6, x7)) x6.length (fun _ => True) (.inr ()) (.inl false) rfl (fun i hi => ?_) ?_) (fun _ => ?_) (by exact .no (Ev.ret _))
  · simp only [ofNat_lt_true hi, cond_true, inB_nat, hi, decide_true, atI_nat, wrap_succ (show i < 9223372036854775807 by omega)]
    exact EvO.bindO (strings_ _) (fun _ => .yes (Ev.ret _) trivial) (.no (Ev.ret _))
  · simp only [ofNat_lt_irrefl, cond_false]; exact Ev.ret _
  exact .yes (Ev.ret _) ⟨b1, b2, b3, b4, b5, mem_getD hph, mem_getD fun i hi => (hgr i hi).1, mem_getD fun i hi => mem_getD fun k hk => (hgr i hi).2 k hk⟩
abbrev StopT := ByteArray × ByteArray × ByteArray × Int × Int × Int
abbrev NetT := Int × Int × Int × Int × Int × List NodeT × List StopT × Int × Int
theorem few06_ (x : NetT) : EvO (fun n => law06_Few n x) true ((x.2.2.2.2.2.1.length ≤ 15 ∧ x.2.2.2.2.2.2.1.length ≤ 15) ∧ ∀ y ∈ x.2.2.2.2.2.1, SmallN y) false := by
  obtain ⟨a, b, c, d, e, ns, ss, f, g⟩ := x
  unfold law06_Few
  refine EvO.cond (fun _ => .no (Ev.ret _)) (fun h1 => ?_)
  refine EvO.cond (fun _ => .no (Ev.ret _)) (fun h2 => ?_)
  simp only [decide_eq_false_iff_not] at h1 h2
  have b1 : ns.length ≤ 15 := by omega
  have b2 : ss.length ≤ 15 := by omega
  refine EvO.bindO (EvO.loop (st := fun i => ((i : Int), a, b, c, d, e, ns, ss, f, g)) ns.length (fun i => SmallN (ns.getD i (ByteArray.mk #[], [], [], [], [], [], 0))) (.inr (a, b, c, d, e, ns, ss, f, g)) (.inl false) rfl (fun i hi => ?_) ?_) (fun hn => ?_) (by exact .no (Ev.ret _))
  · simp only [ofNat_lt_true hi, cond_true, inB_nat, hi, decide_true, atI_nat, wrap_succ (show i < 9223372036854775807 by omega)]
    exact EvO.bindO (node06_ _) (fun h => .yes (Ev.ret _) h) (.no (Ev.ret _))
  · simp only [ofNat_lt_irrefl, cond_false]; exact Ev.ret _
  refine EvO.bindO (EvO.loop (st := fun i => ((i : Int), a, b, c, d, e, ns, ss, f, g)) ss.length (fun _ => True) (.inr ()) (.inl false) rfl (fun i hi => ?_) ?_) (fun _ => ?_) (by exact .no (Ev.ret _))
  · simp only [ofNat_lt_true hi, cond_true, inB_nat, hi, decide_true, atI_nat, wrap_succ (show i < 9223372036854775807 by omega)]
    exact EvO.bindO (strings_ _) (fun _ => .yes (Ev.ret _) trivial) (.no (Ev.ret _))
  · simp only [ofNat_lt_irrefl, cond_false]; exact Ev.ret _
  exact .yes (Ev.ret _) ⟨⟨b1, b2⟩, mem_getD hn⟩
end Go.Proofs.Ytbcejiobmeglgaa.Fn
