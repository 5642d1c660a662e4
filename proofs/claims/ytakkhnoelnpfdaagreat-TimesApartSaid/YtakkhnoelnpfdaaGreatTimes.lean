/- Chapter 18's functions, of the program: what each computes: times, lengths, what fits. -/
import Derived.Test.YtakkhnoelnpfdaaGreatCircRef
import Derived.Test.YtakkhnoelnpfdaaGreatLibF
namespace Go.Proofs.YtakkhnoelnpfdaaGreat.Fn
open Go Go.RowKit Go.Den Go.Circ
set_option linter.unusedVariables false

/-! ### Types -/
abbrev WalkT := ByteArray × Int × Int
abbrev SlotT := ByteArray × Int × Int × Int × List WalkT
abbrev SpanT := List (List SlotT)
abbrev TimT := ByteArray × Int × List SpanT × Int × Int
abbrev HeadT := ByteArray × Int × Int × Int × Int × Int × Int × Int × Int × Int × Int
abbrev PedT := ByteArray × ByteArray × Int × Int × Int × Int
abbrev PhaseT := ByteArray × List ByteArray × Int
abbrev RowT := Bool × List ByteArray
abbrev FoeT := ByteArray × ByteArray × Int
abbrev NodeT := ByteArray × List HeadT × List PedT × List PhaseT × List (List RowT) × List FoeT × Int
abbrev BarsT := ByteArray × Int × Int × Int × Int

/-! ### Times -/
def timeOk (n : Int) : Bool := decide (0 ≤ n) && decide (n ≤ 6000)
theorem timeOk_iff {n : Int} : timeOk n = true ↔ 0 ≤ n ∧ n ≤ 6000 := by simp [timeOk]
theorem times1_ (n : Nat) (x : Int) : times_times_1 n x = some (!(timeOk x)) := by
  unfold times_times_1 timeOk
  by_cases h : 0 ≤ x <;> by_cases h' : x ≤ 6000 <;> simp [h, h', Int.not_lt.2, Int.not_le.1] <;> omega
theorem times_ (l : List Int) (hl : l.length < 9223372036854775807) : Ev (fun n => times_times n l) (l.all timeOk) := by
  unfold times_times slices_ContainsFunc_times_times_1
  refine Ev.bind (a := l.any fun x => !(timeOk x)) (Ev.bind (a := idxI (fun x => !(timeOk x)) l) ?_ (by rw [idxI_any]; exact Ev.ret _)) ?_
  · unfold slices_IndexFunc_times_times_1
    exact indexFunc_ev 0 (fun n a => times_times_1 n a) _ l hl fun a _ => Ev.const fun n => times1_ n a
  · refine (Ev.ret _).of_eq ?_
    rw [List.not_any_eq_all_not]
    congr 1
    funext x; simp
def walkOk (w : WalkT) : Bool := timeOk w.2.1 && timeOk w.2.2
theorem timed1_ (w : WalkT) : Ev (fun n => times_timed_1 n w) (!(walkOk w)) := by
  unfold times_timed_1
  refine Ev.bind (times_ _ (by simp)) ?_
  refine (Ev.ret _).of_eq ?_
  simp [walkOk]
def timedOf (s : SlotT) : Bool := (timeOk s.2.1 && (timeOk s.2.2.1 && timeOk s.2.2.2.1)) && s.2.2.2.2.all walkOk
theorem timed_ (s : SlotT) (hl : s.2.2.2.2.length < 9223372036854775807) : Ev (fun n => times_timed n s) (timedOf s) := by
  unfold times_timed
  refine Ev.bind (times_ _ (by simp)) ?_
  unfold timedOf
  have e : ([s.2.1, s.2.2.1, s.2.2.2.1].all timeOk) = (timeOk s.2.1 && (timeOk s.2.2.1 && timeOk s.2.2.2.1)) := by simp
  rw [e]
  cases (timeOk s.2.1 && (timeOk s.2.2.1 && timeOk s.2.2.2.1)) with
  | false => exact Ev.ret _
  | true =>
    simp only [cond_true, Bool.true_and]
    unfold slices_ContainsFunc_times_timed_1
    refine Ev.bind (a := s.2.2.2.2.any fun w => !(walkOk w)) (Ev.bind (a := idxI (fun w => !(walkOk w)) s.2.2.2.2) ?_ (by rw [idxI_any]; exact Ev.ret _)) ?_
    · unfold slices_IndexFunc_times_timed_1
      exact indexFunc_ev (ByteArray.mk #[], 0, 0) (fun n a => times_timed_1 n a) _ _ hl fun a _ => timed1_ a
    · refine (Ev.ret _).of_eq ?_
      rw [List.not_any_eq_all_not]
      congr 1
      funext x; simp
theorem sound1_ (s : SlotT) (hl : s.2.2.2.2.length < 9223372036854775807) : Ev (fun n => times_sound_1 n s) (!(timedOf s)) := by
  unfold times_sound_1; exact Ev.bind (timed_ s hl) (Ev.ret _)
/-- Are all rows of walks short enough? -/
def Bd (g : List SpanT) : Prop := ∀ x ∈ g, ∀ l ∈ x, ∀ s ∈ l, s.2.2.2.2.length < 9223372036854775807
def lineOk (l : List SlotT) : Bool := decide (l.length ≤ 4) && l.all timedOf
theorem line_ (l : List SlotT) (h4 : l.length < 9223372036854775807) (hb : ∀ s ∈ l, s.2.2.2.2.length < 9223372036854775807) : Ev (fun n => slices_ContainsFunc_times_sound_1 n l) (!(l.all timedOf)) := by
  unfold slices_ContainsFunc_times_sound_1
  refine (Ev.bind (a := idxI (fun w => !(timedOf w)) l) ?_ (by rw [idxI_any]; exact Ev.ret _)).of_eq ?_
  · unfold slices_IndexFunc_times_sound_1
    exact indexFunc_ev (ByteArray.mk #[], 0, 0, 0, []) (fun n a => times_sound_1 n a) _ _ h4 fun a ha => sound1_ a (hb a ha)
  · rw [List.any_eq_not_all_not]
    congr 2
    funext x; simp
def spanOk (g : SpanT) : Bool := decide (g.length ≤ 2) && g.all lineOk
def soundOf (g : List SpanT) : Bool := decide (g.length ≤ 4) && g.all spanOk
theorem sound_ (t : TimT) (hb : Bd t.2.2.1) : Ev (fun n => times_sound n t) (soundOf t.2.2.1) := by
  obtain ⟨nm, off, spans, a, b⟩ := t
  unfold times_sound soundOf
  simp only at hb ⊢
  by_cases h4 : spans.length ≤ 4
  · refine Ev.no (decide_eq_false (by omega)) ?_
    rw [decide_eq_true h4, Bool.true_and]
    refine Ev.loopD (st := fun i => (spans, ((spans.length : Nat) : Int), (i : Int))) spans.length (fun i => !(spanOk (spans.getD i []))) (fun i => .inl false) (.inr ()) rfl (fun i hi _ => ?_) (fun _ => ?_) (fun i hi hk hp => ?_) (fun h => ?_)
    · have hx : spans.getD i [] ∈ spans := getD_mem _ _ _ hi
      simp only [ofNat_lt_true hi, cond_true, inB_nat, hi, decide_true, atI_nat]
      generalize spans.getD i [] = g at hx
      unfold spanOk
      by_cases h2 : g.length ≤ 2
      · rw [decide_eq_true h2, decide_eq_false (show ¬ (2 : Int) < (g.length : Int) by omega)]
        simp only [cond_false, Bool.true_and]
        refine Ev.loopD (st := fun k => (spans, ((spans.length : Nat) : Int), (i : Int), g, ((g.length : Nat) : Int), (k : Int))) g.length (fun k => !(lineOk (g.getD k []))) (fun i => .inl false) (.inr (spans, ((spans.length : Nat) : Int), (i : Int))) rfl (fun k hk _ => ?_) (fun _ => ?_) (fun k hk _ hp => ?_) (fun h => ?_)
        · have hl : g.getD k [] ∈ g := getD_mem _ _ _ hk
          simp only [ofNat_lt_true hk, cond_true, inB_nat, hk, decide_true, atI_nat, letJ]
          generalize g.getD k [] = l at hl
          unfold lineOk
          by_cases h3 : l.length ≤ 4
          · rw [decide_eq_true h3, decide_eq_false (show ¬ (4 : Int) < (l.length : Int) by omega)]
            simp only [cond_false, Bool.true_and, wrap_succ (show k < 9223372036854775807 by omega)]
            refine Ev.bind (line_ l (by omega) (hb g hx l hl)) ?_
            cases l.all timedOf <;> exact Ev.ret _
          · rw [decide_eq_false h3, decide_eq_true (show (4 : Int) < (l.length : Int) by omega)]
            exact Ev.ret _
        · simp only [ofNat_lt_irrefl, cond_false]; exact Ev.ret _
        · rw [getD_true hk hp]; exact Ev.ret _
        · rw [getD_false h]
          simp only [Sum.elim_inr, wrap_succ (show i < 9223372036854775807 by omega)]
          exact Ev.ret _
      · rw [decide_eq_false h2, decide_eq_true (show (2 : Int) < (g.length : Int) by omega)]
        exact Ev.ret _
    · simp only [ofNat_lt_irrefl, cond_false]; exact Ev.ret _
    · rw [getD_true hi hp]; exact Ev.ret _
    · rw [getD_false h]; exact Ev.ret _
  · refine Ev.yes (decide_eq_true (by omega)) ?_
    rw [decide_eq_false h4]; exact Ev.ret _
/-! ### How long -/
def sumOf (l : List SlotT) : Int := (l.map fun s => s.2.1).sum
def longOf (g : SpanT) : Int := g.foldl (fun m l => max m (sumOf l)) 0
def totOf (g : List SpanT) : Int := (g.map longOf).sum
def lengthOf (g : List SpanT) : Int := if soundOf g then totOf g else 0
theorem sum_take {A : Type} (f : A → Int) (l : List A) (i : Nat) (d : A) (h : i < l.length) : ((l.take (i + 1)).map f).sum = ((l.take i).map f).sum + f (l.getD i d) := by
  rw [take_snoc l i d h]; simp [List.sum_append]
theorem sum_bd {A : Type} (f : A → Int) (M : Int) (l : List A) (h : ∀ a ∈ l, 0 ≤ f a ∧ f a ≤ M) : 0 ≤ (l.map f).sum ∧ (l.map f).sum ≤ M * l.length := by
  induction l with
  | nil => simp
  | cons a l ih =>
    have h1 := h a (by simp)
    have h2 := ih fun b hb => h b (by simp [hb])
    simp only [List.map_cons, List.sum_cons, List.length_cons]
    have : M * ((l.length + 1 : Nat) : Int) = M * (l.length : Int) + M := by rw [Int.natCast_add, Int.mul_add]; simp
    rw [this]; omega
theorem timed_bd {s : SlotT} (h : timedOf s = true) : (0 ≤ s.2.1 ∧ s.2.1 ≤ 6000) ∧ (0 ≤ s.2.2.1 ∧ s.2.2.1 ≤ 6000) ∧ (0 ≤ s.2.2.2.1 ∧ s.2.2.2.1 ≤ 6000) := by
  simp only [timedOf, Bool.and_eq_true, timeOk_iff] at h
  exact ⟨h.1.1, h.1.2.1, h.1.2.2⟩
theorem line_bd {l : List SlotT} (h : lineOk l = true) : l.length ≤ 4 ∧ (∀ s ∈ l, timedOf s = true) ∧ 0 ≤ sumOf l ∧ sumOf l ≤ 24000 := by
  simp only [lineOk, Bool.and_eq_true, decide_eq_true_eq, List.all_eq_true] at h
  refine ⟨h.1, h.2, ?_⟩
  have := sum_bd (fun s : SlotT => s.2.1) 6000 l fun s hs => (timed_bd (h.2 s hs)).1
  unfold sumOf
  omega
theorem sum_mono {l : List SlotT} (h : ∀ s ∈ l, timedOf s = true) (i : Nat) : 0 ≤ sumOf (l.take i) ∧ sumOf (l.take i) ≤ 6000 * i := by
  have := sum_bd (fun s : SlotT => s.2.1) 6000 (l.take i) fun s hs => (timed_bd (h s (List.mem_of_mem_take hs))).1
  unfold sumOf
  have h2 : ((l.take i).length : Int) ≤ i := by simp; omega
  omega
theorem span_bd {g : SpanT} (h : spanOk g = true) : g.length ≤ 2 ∧ ∀ l ∈ g, lineOk l = true := by
  simpa only [spanOk, Bool.and_eq_true, decide_eq_true_eq, List.all_eq_true] using h
theorem long_bd {g : SpanT} (h : ∀ l ∈ g, lineOk l = true) (m : Int) (hm : 0 ≤ m ∧ m ≤ 24000) : 0 ≤ g.foldl (fun m l => max m (sumOf l)) m ∧ g.foldl (fun m l => max m (sumOf l)) m ≤ 24000 := by
  induction g generalizing m with
  | nil => exact hm
  | cons a g ih =>
    have := (line_bd (h a (by simp))).2.2
    exact ih (fun l hl => h l (by simp [hl])) (max m (sumOf a)) (by omega)
theorem longOf_bd {g : SpanT} (h : spanOk g = true) : 0 ≤ longOf g ∧ longOf g ≤ 24000 := long_bd (span_bd h).2 0 (by omega)
theorem sound_bd {g : List SpanT} (h : soundOf g = true) : g.length ≤ 4 ∧ ∀ x ∈ g, spanOk x = true := by
  simpa only [soundOf, Bool.and_eq_true, decide_eq_true_eq, List.all_eq_true] using h
theorem tot_bd {g : List SpanT} (h : ∀ x ∈ g, spanOk x = true) (i : Nat) : 0 ≤ totOf (g.take i) ∧ totOf (g.take i) ≤ 24000 * i := by
  have := sum_bd longOf 24000 (g.take i) fun s hs => longOf_bd (h s (List.mem_of_mem_take hs))
  unfold totOf
  have h2 : ((g.take i).length : Int) ≤ i := by simp; omega
  omega
theorem long_ (g : SpanT) (h : spanOk g = true) : Ev (fun n => times_long n g) (longOf g) := by
  obtain ⟨h2, hl⟩ := span_bd h
  unfold times_long
  refine Ev.loopB (st := fun i => ((g.take i).foldl (fun m l => max m (sumOf l)) 0, g, ((g.length : Nat) : Int), (i : Int))) g.length (longOf g) rfl (fun i hi => ?_) ?_ (Ev.ret _)
  · have hx := hl _ (getD_mem g i [] hi)
    simp only [ofNat_lt_true hi, cond_true, inB_nat, hi, decide_true, atI_nat]
    rw [take_snoc g i [] hi, List.foldl_append]
    generalize (g.take i).foldl (fun m l => max m (sumOf l)) 0 = m
    generalize g.getD i [] = l at hx
    obtain ⟨l4, lt, _⟩ := line_bd hx
    refine Ev.loopB (st := fun k => (m, sumOf (l.take k), g, ((g.length : Nat) : Int), (i : Int), l, ((l.length : Nat) : Int), (k : Int))) l.length (m, sumOf l, g, ((g.length : Nat) : Int), (i : Int)) rfl (fun k hk => ?_) ?_ ?_
    · have hs := (timed_bd (lt _ (getD_mem l k (ByteArray.mk #[], 0, 0, 0, []) hk))).1
      have hm := sum_mono lt k
      simp only [ofNat_lt_true hk, cond_true, inB_nat, hk, decide_true, atI_nat, wrap_succ (show k < 9223372036854775807 by omega)]
      rw [wrap64_id (by omega) (by omega)]
      unfold sumOf
      rw [sum_take _ l k (ByteArray.mk #[], 0, 0, 0, []) hk]
      exact Ev.ret _
    · simp only [ofNat_lt_irrefl, cond_false, List.take_length]; exact Ev.ret _
    · simp only [mx_eq, wrap_succ (show i < 9223372036854775807 by omega), List.foldl_cons, List.foldl_nil]; exact Ev.ret _
  · simp only [ofNat_lt_irrefl, cond_false, List.take_length]; exact Ev.ret _
theorem length_ (t : TimT) (hb : Bd t.2.2.1) : Ev (fun n => times_Length n t) (lengthOf t.2.2.1) := by
  obtain ⟨nm, off, spans, a, b⟩ := t
  unfold times_Length
  refine Ev.bind (sound_ _ hb) ?_
  simp only at hb ⊢
  unfold lengthOf
  cases hs : soundOf spans with
  | false => exact Ev.ret _
  | true =>
    simp only [Bool.not_true, cond_false, if_true]
    obtain ⟨h4, hx⟩ := sound_bd hs
    refine Ev.loopB (st := fun i => (totOf (spans.take i), spans, ((spans.length : Nat) : Int), (i : Int))) spans.length (totOf spans) rfl (fun i hi => ?_) ?_ (Ev.ret _)
    · have hm := hx _ (getD_mem spans i [] hi)
      have h5 := tot_bd hx i
      have h6 := longOf_bd hm
      simp only [ofNat_lt_true hi, cond_true, inB_nat, hi, decide_true, atI_nat, wrap_succ (show i < 9223372036854775807 by omega)]
      refine Ev.bind (long_ _ hm) ?_
      rw [wrap64_id (by omega) (by omega)]
      unfold totOf
      rw [sum_take _ spans i [] hi]
      exact Ev.ret _
    · simp only [ofNat_lt_irrefl, cond_false, List.take_length]; exact Ev.ret _
theorem lengthOf_bd (g : List SpanT) : 0 ≤ lengthOf g ∧ lengthOf g ≤ 96000 := by
  unfold lengthOf
  split
  · rename_i h
    obtain ⟨h4, hx⟩ := sound_bd h
    have := tot_bd hx g.length
    rw [List.take_length] at this
    omega
  · omega
end Go.Proofs.YtakkhnoelnpfdaaGreat.Fn
