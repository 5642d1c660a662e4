/- Chapter 7, of the program: what valid.Check's helpers compute: its maps, and what is wrong with a node. -/
import Derived.Test.YtbcejiobmeglgaaValidB
namespace Go.Proofs.Ytbcejiobmeglgaa.Fn
open Go Go.RowKit Go.Den
set_option linter.unusedVariables false
def resE {A : Type} (e : Err) (v : A) : Err ⊕ A := if e.1 = 0 then .inr v else .inl e
theorem resE_ok {A : Type} {e : Err} {v : A} (h : e.1 = 0) : resE e v = .inr v := if_pos h
theorem resE_no {A : Type} {e : Err} {v : A} (h : e.1 ≠ 0) : resE e v = .inl e := if_neg h
theorem Ev.res {A B : Type} {F : Nat → Option (Err ⊕ A)} {e : Err} {v : A} {f : Nat → Err → Option B} {g : Nat → A → Option B} {w : B} (h : Ev F (resE e v)) (h1 : e.1 ≠ 0 → Ev (fun n => f n e) w) (h2 : e.1 = 0 → Ev (fun n => g n v) w) :
    Ev (fun n => (F n).bind (Sum.elim (f n) (g n))) w := by
  by_cases h0 : e.1 = 0
  · rw [resE_ok h0] at h; exact Ev.bind h (h2 h0)
  · rw [resE_no h0] at h; exact Ev.bind h (h1 h0)
theorem Ev.must {b : Bool} {e p : Int} {B : Type} {f : Nat → Err → Option B} {g : Nat → Unit → Option B} {v : B} (h1 : b = true → Ev (fun n => g n ()) v) (h2 : b = false → Ev (fun n => f n (e, p)) v) :
    Ev (fun n => (valid_must n (b, e, p)).bind (Sum.elim (f n) (g n))) v := by
  cases b with
  | true => exact (h1 rfl).congr fun n => rfl
  | false => exact (h2 rfl).congr fun n => rfl
theorem Ev.mustE {A : Type} {b : Bool} {e p : Int} {r : Err} {v : A} {g : Nat → Unit → Option (Err ⊕ A)} (he : e ≠ 0) (h : b = true → Ev (fun n => g n ()) (resE r v)) :
    Ev (fun n => (valid_must n (b, e, p)).bind (Sum.elim (fun y => some (.inl y)) (g n))) (resE (if b then r else (e, p)) v) := by
  refine Ev.must (f := fun _ y => some (Sum.inl y)) (fun hb => ?_) (fun hb => ?_)
  · rw [if_pos hb]; exact h hb
  · rw [if_neg (by rw [hb]; exact Bool.false_ne_true), resE_no he]; exact Ev.ret _
theorem within1_ (n : Nat) (a lo hi : Int) : valid_within_1 n (a, lo, hi) = some (!(inR a lo hi), lo, hi) := by
  unfold valid_within_1 inR
  by_cases h : lo ≤ a <;> by_cases h' : a ≤ hi <;> simp [h, h', Int.not_lt.2, Int.not_le.1] <;> omega
theorem within_ (lo hi : Int) (l : List Int) (hl : l.length < 9223372036854775807) : Ev (fun n => valid_within n (lo, hi, l)) (l.all fun a => inR a lo hi) := by
  unfold valid_within slices_ContainsFunc_valid_within_1
  refine Ev.bind (a := (l.any (fun a => !(inR a lo hi)), lo, hi)) (Ev.bind (a := (idxI (fun a => !(inR a lo hi)) l, lo, hi)) ?_ (by rw [← idxI_any]; exact Ev.ret _)) ?_
  · unfold slices_IndexFunc_valid_within_1
    exact indexFuncV_ev (S := Int × Int) 0 (fun n a s => valid_within_1 n (a, s)) _ l (lo, hi) hl fun a _ => Ev.const fun n => within1_ n a lo hi
  · refine (Ev.ret _).of_eq ?_
    rw [List.not_any_eq_all_not]
    congr 1
    funext x; simp
theorem mfind_putv {V : Type} (k j : ByteArray) (v : V) (z : ByteArray × V) (m : List (ByteArray × V)) : mfind k z (mput j (j, v) m) = if strEq j k then (j, v) else mfind k z m := by
  unfold mput mfind
  induction m with
  | nil => simp only [putP, findP]; cases strEq j k <;> simp
  | cons a m ih =>
    simp only [putP]
    cases h : strEq a.1 j with
    | true =>
      rw [strEq_iff] at h
      simp only [cond_true, findP, h]
      cases strEq j k <;> simp
    | false =>
      simp only [cond_false, findP, ih]
      by_cases h1 : strEq a.1 k = true
      · have : strEq j k = false := by
          cases h2 : strEq j k with
          | false => rfl
          | true => rw [strEq_iff] at h1 h2; rw [h1, ← h2, (strEq_iff j j).2 rfl] at h; cases h
        simp [h1, this]
      · have h1' : strEq a.1 k = false := by simpa using h1
        simp [h1']
def nset (l : List ByteArray) : List (ByteArray × Bool) := l.foldl (fun m k => mput k (k, true) m) []
theorem nset_snoc (l : List ByteArray) (k : ByteArray) : nset (l ++ [k]) = mput k (k, true) (nset l) := by simp [nset]
theorem nset_from (k : ByteArray) : ∀ (l : List ByteArray) (m : List (ByteArray × Bool)), (mfind k (k, false) (l.foldl (fun m k => mput k (k, true) m) m)).2 = (inOf l k || (mfind k (k, false) m).2) := by
  intro l
  induction l with
  | nil => intro m; rfl
  | cons a l ih =>
    intro m
    rw [List.foldl_cons, ih, mfind_putv]
    have : inOf (a :: l) k = (strEq k a || inOf l k) := by simp [inOf]
    rw [this, strEq_comm k a]
    cases strEq a k <;> simp
theorem nset_find (l : List ByteArray) (k : ByteArray) : (mfind k (k, false) (nset l)).2 = inOf l k := by
  unfold nset
  rw [nset_from]
  simp [mfind, findP]
theorem once_ (n : Nat) (l : List ByteArray) (k : ByteArray) : valid_once n (k, nset l) = some (!(inOf l k), nset (l ++ [k])) := by
  unfold valid_once
  rw [nset_find, nset_snoc]
theorem idx_lt_any {A : Type} (p : A → Bool) (d : A) (l : List A) (i : Nat) (hi : i < l.length) (hp : p (l.getD i d) = true) : decide (idxI p l < (i : Int)) = (l.take i).any p := by
  have h0 : 0 ≤ idxI p l := by
    have := idxI_any p l
    rw [(any_getD p d l).2 ⟨i, hi, hp⟩] at this
    simpa using this
  obtain ⟨j, hj, hjl, hpj, hk⟩ := idxI_spec p d l h0
  rw [hj]
  by_cases h : j < i
  · rw [decide_eq_true (by omega)]
    refine ((any_getD p d _).2 ⟨j, by simp; omega, ?_⟩).symm
    rw [take_getD _ _ _ _ h]; exact hpj
  · rw [decide_eq_false (by omega)]
    cases h2 : (l.take i).any p with
    | false => rfl
    | true =>
      obtain ⟨k, hk1, hk2⟩ := (any_getD p d _).1 h2
      have hki : k < i := by simp at hk1; omega
      rw [take_getD _ _ _ _ hki, hk k (by omega)] at hk2; cases hk2
abbrev MapB := List (ByteArray × Bool)
abbrev MapI := List (ByteArray × Int)
def sizesE (x : NodeT) : Err := if sizesOk x then (if someOk x then (0, 0) else (73, x.2.2.2.2.2.2)) else (4, x.2.2.2.2.2.2)
theorem len_pos {A : Type} (l : List A) : decide (0 < ((l.length : Nat) : Int)) = !(decide (l.length = 0)) := by
  by_cases h : l.length = 0
  · simp [h]
  · rw [decide_eq_true (by omega), decide_eq_false h]; rfl
theorem sizes_ (x1 : ByteArray) (x2 : List HeadT) (x3 : List PedT) (x4 : List PhaseT) (x5 : List (List RowT)) (x6 : List FoeT) (x7 : Int) (a b : MapB) (c : MapI) :
    Ev (fun n => valid_checker_sizes n (x1, x2, x3, x4, x5, x6, x7, a, b, c)) (resE (sizesE (x1, x2, x3, x4, x5, x6, x7)) (x1, x2, x3, x4, x5, x6, x7, a, b, c)) := by
  have key : ∀ q : Bool, Ev (fun n => (valid_must n (!q, 4, x7)).bind (Sum.elim (fun (y4 : Int × Int) => some (.inl y4)) (fun (y5 : Unit) =>
      bif decide (0 < ((x2.length : Nat) : Int)) then
        bif decide (0 < ((x4.length : Nat) : Int)) then
          (valid_must n (decide (0 < ((x5.length : Nat) : Int)), 73, x7)).bind (Sum.elim (fun (y7 : Int × Int) => some (.inl y7)) (fun (y8 : Unit) => some (.inr (x1, x2, x3, x4, x5, x6, x7, a, b, c))))
        else (valid_must n (false, 73, x7)).bind (Sum.elim (fun (y10 : Int × Int) => some (.inl y10)) (fun (y11 : Unit) => some (.inr (x1, x2, x3, x4, x5, x6, x7, a, b, c))))
      else (valid_must n (false, 73, x7)).bind (Sum.elim (fun (y13 : Int × Int) => some (.inl y13)) (fun (y14 : Unit) => some (.inr (x1, x2, x3, x4, x5, x6, x7, a, b, c)))))))
      (resE (if !q then (if someOk (x1, x2, x3, x4, x5, x6, x7) then (0, 0) else (73, x7)) else (4, x7)) (x1, x2, x3, x4, x5, x6, x7, a, b, c)) := by
    intro q
    refine Ev.mustE (by decide) fun _ => ?_
    unfold someOk
    simp only [len_pos]
    cases decide (x2.length = 0) with
    | true => exact Ev.ret _
    | false => cases decide (x4.length = 0) with
      | true => exact Ev.ret _
      | false => cases decide (x5.length = 0) <;> exact Ev.ret _
  unfold valid_checker_sizes
  simp only [letJ]
  unfold sizesE sizesOk
  have h1 := nat_lt_int 16 x2.length
  have h2 := nat_lt_int 16 x4.length
  have h3 := nat_lt_int 8 x3.length
  have h4 := nat_lt_int 4 x5.length
  have h5 := nat_lt_int 64 x6.length
  simp only [show ((16 : Nat) : Int) = 16 from rfl, show ((8 : Nat) : Int) = 8 from rfl, show ((4 : Nat) : Int) = 4 from rfl, show ((64 : Nat) : Int) = 64 from rfl] at h1 h2 h3 h4 h5
  simp only [h1, h2, h3, h4, h5]
  cases decide (16 < x2.length) with
  | true => exact key true
  | false => cases decide (16 < x4.length) with
    | true => exact key true
    | false => cases decide (8 < x3.length) with
      | true => exact key true
      | false => cases decide (4 < x5.length) with
        | true => exact key true
        | false => exact key (decide (64 < x6.length))
def headE1 (names : List ByteArray) (h : HeadT) : Err := if !(inOf names h.1) then (if headRange h then (0, 0) else (70, h.2.2.2.2.2.2.2.2.2.2)) else (71, h.2.2.2.2.2.2.2.2.2.2)
theorem all1 (a lo hi : Int) : ([a].all fun a => inR a lo hi) = inR a lo hi := by simp
theorem all2 (a b lo hi : Int) : ([a, b].all fun a => inR a lo hi) = (inR a lo hi && inR b lo hi) := by simp
theorem all3 (a b c lo hi : Int) : ([a, b, c].all fun a => inR a lo hi) = (inR a lo hi && (inR b lo hi && inR c lo hi)) := by simp
theorem chead_ (h : HeadT) (x : NodeT) (names : List ByteArray) (b : MapB) (c : MapI) :
    Ev (fun n => valid_checker_head n (h.1, h.2.1, h.2.2.1, h.2.2.2.1, h.2.2.2.2.1, h.2.2.2.2.2.1, h.2.2.2.2.2.2.1, h.2.2.2.2.2.2.2.1, h.2.2.2.2.2.2.2.2.1, h.2.2.2.2.2.2.2.2.2.1, h.2.2.2.2.2.2.2.2.2.2, x.1, x.2.1, x.2.2.1, x.2.2.2.1, x.2.2.2.2.1, x.2.2.2.2.2.1, x.2.2.2.2.2.2, nset names, b, c))
      (resE (headE1 names h) (x.1, x.2.1, x.2.2.1, x.2.2.2.1, x.2.2.2.2.1, x.2.2.2.2.2.1, x.2.2.2.2.2.2, nset (names ++ [h.1]), b, c)) := by
  obtain ⟨x1, x2, x3, x4, x5, x6, x7⟩ := x
  obtain ⟨a1, a2, a3, a4, a5, a6, a7, a8, a9, a10, a11⟩ := h
  unfold valid_checker_head
  refine Ev.bindS (fun n => once_ n _ _) ?_
  unfold headE1
  refine Ev.mustE (by decide) fun _ => ?_
  have key : ∀ q : Bool, Ev (fun n => (valid_must n (q, 70, a11)).bind (Sum.elim (fun (y14 : Int × Int) => some (.inl y14)) (fun (y15 : Unit) => some (.inr (x1, x2, x3, x4, x5, x6, x7, nset (names ++ [a1]), b, c)))))
      (resE (if q then (0, 0) else (70, a11)) (x1, x2, x3, x4, x5, x6, x7, nset (names ++ [a1]), b, c)) := fun q => Ev.mustE (by decide) fun _ => Ev.ret _
  simp only [letJ]
  unfold headRange
  refine Ev.bind (within_ _ _ _ (by simp)) ?_
  rw [all1]
  simp only
  cases inR a2 0 1000000000 with
  | false => exact key false
  | true =>
  refine Ev.bind (within_ _ _ _ (by simp)) ?_
  rw [all3]
  simp only [Bool.true_and]
  cases inR a3 1 1000000000 with
  | false => exact key false
  | true => cases inR a4 1 1000000000 with
    | false => exact key false
    | true => cases inR a5 1 1000000000 with
      | false => exact key false
      | true =>
      refine Ev.bind (within_ _ _ _ (by simp)) ?_
      rw [all1]
      simp only [Bool.true_and]
      cases inR a6 1 10000 with
      | false => exact key false
      | true =>
      refine Ev.bind (within_ _ _ _ (by simp)) ?_
      rw [all1]
      simp only [Bool.true_and]
      cases inR a7 (-200) 200 with
      | false => exact key false
      | true =>
      refine Ev.bind (within_ _ _ _ (by simp)) ?_
      rw [all2]
      simp only [Bool.true_and]
      cases inR a8 0 100000 with
      | false => exact key false
      | true => cases inR a9 0 100000 with
        | false => exact key false
        | true =>
        refine Ev.bind (within_ _ _ _ (by simp)) ?_
        rw [all1]
        simp only [Bool.true_and]
        exact key _
theorem headE1_eq (hs : List HeadT) (i : Nat) (hi : i < hs.length) : headE1 ((hs.take i).map (·.1)) (hs.getD i zHead) = headE hs i := by
  unfold headE1 headE headIx
  have h := idx_lt_any (fun h : HeadT => strEq h.1 (hs.getD i zHead).1) zHead hs i hi ((strEq_iff _ _).2 rfl)
  have h2 : inOf ((hs.take i).map (·.1)) (hs.getD i zHead).1 = (hs.take i).any fun h : HeadT => strEq h.1 (hs.getD i zHead).1 := by rw [inOf_comm, List.any_map]; rfl
  rw [h2, ← h]
  by_cases h3 : idxI (fun h : HeadT => strEq h.1 (hs.getD i zHead).1) hs < (i : Int)
  · rw [if_pos h3, decide_eq_true h3]; rfl
  · rw [if_neg h3, decide_eq_false h3]; rfl
end Go.Proofs.Ytbcejiobmeglgaa.Fn
