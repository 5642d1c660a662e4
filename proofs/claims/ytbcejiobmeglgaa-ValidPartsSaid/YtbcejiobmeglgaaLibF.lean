/- Plain tools: loops that may end early; places in lists; texts compared. -/
import Derived.Test.YtbcejiobmeglgaaLibE
namespace Go.Den
open Go Go.RowKit
namespace Ev
variable {A B X Y : Type}
theorem loopC {L : Nat → X → Option (X ⊕ Y)} {G : Nat → Y → Option B} (st : Nat → X) (N : Nat) (p : Nat → Bool) (hit : Nat → Y) (y : Y) {x0 : X} {b : B} (h0 : x0 = st 0)
    (h1 : ∀ i, i < N → (∀ k, k < i → p k = false) → p i = true → Ev (fun n => L n (st i)) (.inr (hit i)))
    (h2 : ∀ i, i < N → (∀ k, k < i → p k = false) → p i = false → Ev (fun n => L n (st i)) (.inl (st (i + 1))))
    (h3 : (∀ k, k < N → p k = false) → Ev (fun n => L n (st N)) (.inr y))
    (hb : ∀ i, i < N → (∀ k, k < i → p k = false) → p i = true → Ev (fun n => G n (hit i)) b)
    (he : (∀ k, k < N → p k = false) → Ev (fun n => G n y) b) : Ev (fun n => (iterL n (L n) x0).bind (G n)) b := by
  have first : ∀ m, (∀ i, i < m → p i = false) ∨ ∃ i, i < m ∧ p i = true ∧ ∀ k, k < i → p k = false := by
    intro m
    induction m with
    | zero => exact .inl fun i h => by omega
    | succ m ih =>
      rcases ih with h | ⟨i, hi, h⟩
      · cases hm : p m with
        | false =>
          left
          intro i hi
          by_cases e : i = m
          · rw [e]; exact hm
          · exact h i (by omega)
        | true => exact .inr ⟨m, by omega, hm, h⟩
      · exact .inr ⟨i, by omega, h⟩
  rcases first N with h | ⟨i, hi, hp, hk⟩
  · exact loopB st N y h0 (fun i hi => h2 i hi (fun k hk => h k (by omega)) (h i hi)) (h3 h) (he h)
  · exact loopB st i (hit i) h0 (fun j hj => h2 j (by omega) (fun k hk' => hk k (by omega)) (hk j hj)) (h1 i hi hk hp) (hb i hi hk hp)
theorem loopD {L : Nat → X → Option (X ⊕ Y)} {G : Nat → Y → Option B} (st : Nat → X) (N : Nat) (p : Nat → Bool) (hit : Nat → Y) (y : Y) {x0 : X} {b : B} (h0 : x0 = st 0)
    (h : ∀ i, i < N → (∀ k, k < i → p k = false) → Ev (fun n => L n (st i)) (cond (p i) (.inr (hit i)) (.inl (st (i + 1)))))
    (h3 : (∀ k, k < N → p k = false) → Ev (fun n => L n (st N)) (.inr y))
    (hb : ∀ i, i < N → (∀ k, k < i → p k = false) → p i = true → Ev (fun n => G n (hit i)) b)
    (he : (∀ k, k < N → p k = false) → Ev (fun n => G n y) b) : Ev (fun n => (iterL n (L n) x0).bind (G n)) b :=
  loopC st N p hit y h0 (fun i hi hk hp => by have := h i hi hk; rwa [hp] at this) (fun i hi hk hp => by have := h i hi hk; rwa [hp] at this) h3 hb he
end Ev
def EvO {A : Type} (F : Nat → Option A) (a : A) (P : Prop) (b : A) : Prop := (Ev F a ∧ P) ∨ Ev F b
namespace EvO
variable {A B X Y : Type}
theorem yes {F : Nat → Option A} {a b : A} {P : Prop} (h : Ev F a) (hP : P) : EvO F a P b := .inl ⟨h, hP⟩
theorem no {F : Nat → Option A} {a b : A} {P : Prop} (h : Ev F b) : EvO F a P b := .inr h
theorem mono {F : Nat → Option A} {a b : A} {P Q : Prop} (h : EvO F a P b) (hq : P → Q) : EvO F a Q b := h.elim (fun h => .inl ⟨h.1, hq h.2⟩) .inr
theorem bind1 {F : Nat → Option A} {G : Nat → A → Option B} {x : A} {a b : B} {P : Prop} (h : Ev F x) (h' : EvO (fun n => G n x) a P b) : EvO (fun n => (F n).bind (G n)) a P b :=
  h'.elim (fun q => .inl ⟨Ev.bind h q.1, q.2⟩) fun q => .inr (Ev.bind h q)
theorem bindO {F : Nat → Option A} {G : Nat → A → Option B} {x y : A} {Q : Prop} {a b : B} {P : Prop} (h : EvO F x Q y) (h1 : Q → EvO (fun n => G n x) a P b) (h2 : EvO (fun n => G n y) a P b) : EvO (fun n => (F n).bind (G n)) a P b :=
  h.elim (fun q => bind1 q.1 (h1 q.2)) fun q => bind1 q h2
theorem cond {c : Bool} {F G : Nat → Option A} {a b : A} {P : Prop} (h1 : c = true → EvO F a P b) (h2 : c = false → EvO G a P b) : EvO (fun n => cond c (F n) (G n)) a P b := by
  cases c with
  | true => exact h1 rfl
  | false => exact h2 rfl
theorem ev {F : Nat → Option A} {a b : A} {P : Prop} (h : EvO F a P b) : ∃ x, Ev F x ∧ (x = a → x ≠ b → P) := h.elim (fun q => ⟨a, q.1, fun _ _ => q.2⟩) fun q => ⟨b, q, fun _ h => absurd rfl h⟩
theorem loop {L : Nat → X → Option (X ⊕ Y)} (st : Nat → X) (N : Nat) (Q : Nat → Prop) (y bad : Y) {x0 : X} (h0 : x0 = st 0) (h : ∀ i, i < N → EvO (fun n => L n (st i)) (.inl (st (i + 1))) (Q i) (.inr bad)) (h3 : Ev (fun n => L n (st N)) (.inr y)) :
    EvO (fun n => iterL n (L n) x0) y (∀ i, i < N → Q i) bad := by
  classical
  by_cases hall : ∀ i, i < N → Ev (fun n => L n (st i)) (.inl (st (i + 1))) ∧ Q i
  · exact .inl ⟨Ev.loop st N y h0 (fun i hi => (hall i hi).1) h3, fun i hi => (hall i hi).2⟩
  · right
    have : ∃ i, i < N ∧ Ev (fun n => L n (st i)) (.inr bad) ∧ ∀ k, k < i → Ev (fun n => L n (st k)) (.inl (st (k + 1))) := by
      have key : ∀ m, m ≤ N → (∀ i, i < m → Ev (fun n => L n (st i)) (.inl (st (i + 1))) ∧ Q i) ∨ ∃ i, i < m ∧ Ev (fun n => L n (st i)) (.inr bad) ∧ ∀ k, k < i → Ev (fun n => L n (st k)) (.inl (st (k + 1))) := by
        intro m
        induction m with
        | zero => intro _; exact .inl fun i hi => by omega
        | succ m ih =>
          intro hm
          rcases ih (by omega) with h1 | ⟨i, hi, h1, h2⟩
          · rcases h m (by omega) with h4 | h4
            · left
              intro i hi
              by_cases e : i = m
              · subst e; exact h4
              · exact h1 i (by omega)
            · exact .inr ⟨m, by omega, h4, fun k hk => (h1 k hk).1⟩
          · exact .inr ⟨i, by omega, h1, h2⟩
      rcases key N (Nat.le_refl _) with h1 | h1
      · exact absurd h1 hall
      · exact h1
    obtain ⟨i, _, h1, h2⟩ := this
    exact Ev.loop st i bad h0 h2 h1
end EvO
def idxI {A : Type} (p : A → Bool) : List A → Int
  | [] => -1
  | a :: l => if p a then 0 else if idxI p l < 0 then -1 else idxI p l + 1
theorem idxI_ge {A : Type} (p : A → Bool) (l : List A) : -1 ≤ idxI p l ∧ idxI p l < l.length := by
  induction l with
  | nil => simp [idxI]
  | cons a l ih => simp only [idxI, List.length_cons]; split <;> (try split) <;> constructor <;> omega
theorem idxI_any {A : Type} (p : A → Bool) (l : List A) : decide (0 ≤ idxI p l) = l.any p := by
  induction l with
  | nil => rfl
  | cons a l ih =>
    simp only [idxI, List.any_cons]
    rw [← ih]
    by_cases h : p a = true
    · simp [h]
    · by_cases h2 : idxI p l < 0
      · simp [h, h2]
      · simp [h, h2]; omega
theorem idxI_neg {A : Type} (p : A → Bool) (l : List A) : decide (idxI p l < 0) = !(l.any p) := by
  rw [← idxI_any]; by_cases h : 0 ≤ idxI p l
  · rw [decide_eq_false (by omega), decide_eq_true h]; rfl
  · rw [decide_eq_true (by omega), decide_eq_false h]; rfl
theorem idxI_hit {A : Type} (p : A → Bool) (d : A) : ∀ (l : List A) (i : Nat), i < l.length → (∀ k, k < i → p (l.getD k d) = false) → p (l.getD i d) = true → idxI p l = (i : Int) := by
  intro l
  induction l with
  | nil => intro i h; simp at h
  | cons a l ih =>
    intro i hi hk hp
    cases i with
    | zero => simp at hp; simp [idxI, hp]
    | succ i =>
      have h0 := hk 0 (by omega)
      have := ih i (by simpa using hi) (fun k hk' => by simpa using hk (k + 1) (by omega)) (by simpa using hp)
      simp at h0
      simp only [idxI, h0, this]
      rw [if_neg (by simp), if_neg (by omega)]; omega
theorem idxI_none {A : Type} (p : A → Bool) (d : A) (l : List A) (h : ∀ k, k < l.length → p (l.getD k d) = false) : idxI p l = -1 := by
  induction l with
  | nil => rfl
  | cons a l ih =>
    have h0 := h 0 (by simp)
    have := ih fun k hk => by simpa using h (k + 1) (by simpa using hk)
    simp at h0
    simp [idxI, h0, this]
theorem idxI_spec {A : Type} (p : A → Bool) (d : A) (l : List A) (h : 0 ≤ idxI p l) : ∃ i : Nat, idxI p l = (i : Int) ∧ i < l.length ∧ p (l.getD i d) = true ∧ ∀ k, k < i → p (l.getD k d) = false := by
  induction l with
  | nil => simp [idxI] at h
  | cons a l ih =>
    simp only [idxI] at h ⊢
    by_cases hp : p a = true
    · rw [if_pos hp]; exact ⟨0, rfl, by simp, by simpa using hp, fun k hk => by omega⟩
    · rw [if_neg hp] at h ⊢
      by_cases h2 : idxI p l < 0
      · rw [if_pos h2] at h; omega
      · rw [if_neg h2] at h ⊢
        obtain ⟨i, h3, h4, h5, h6⟩ := ih (by omega)
        refine ⟨i + 1, by omega, by simpa using h4, by simpa using h5, fun k hk => ?_⟩
        cases k with
        | zero => simpa using hp
        | succ k => simpa using h6 k (by omega)
theorem any_getD {A : Type} (p : A → Bool) (d : A) (l : List A) : l.any p = true ↔ ∃ k, k < l.length ∧ p (l.getD k d) = true := by
  rw [List.any_eq_true]
  constructor
  · rintro ⟨a, ha, h⟩
    obtain ⟨k, hk, rfl⟩ := List.getElem_of_mem ha
    exact ⟨k, hk, by rwa [getD_lt _ _ _ hk]⟩
  · rintro ⟨k, hk, h⟩
    rw [getD_lt _ _ _ hk] at h
    exact ⟨_, List.getElem_mem hk, h⟩
theorem getD_mem {A : Type} (l : List A) (i : Nat) (d : A) (h : i < l.length) : l.getD i d ∈ l := by rw [getD_lt _ _ _ h]; exact List.getElem_mem h
theorem strEq_eq (a b : ByteArray) : strEq a b = decide (a = b) := by
  by_cases h : a = b
  · rw [decide_eq_true h]; exact (strEq_iff a b).2 h
  · rw [decide_eq_false h]
    cases hh : strEq a b with
    | false => rfl
    | true => exact absurd ((strEq_iff a b).1 hh) h
theorem indexFunc_ev {A : Type} (d : A) (f : Nat → A → Option Bool) (p : A → Bool) (l : List A) (hl : l.length < 9223372036854775807) (hf : ∀ a ∈ l, Ev (fun n => f n a) (p a)) :
    Ev (fun n => (iterL (Y := Int ⊕ Unit) n (fun (x1 : List A × Int × Int) =>
      bif decide (x1.2.2 < x1.2.1) then
        bif inB x1.2.2 x1.1.length then
          (f n (atI d x1.1 x1.2.2)).bind fun y2 =>
          bif y2 then some (.inr (.inl x1.2.2)) else some (.inl (x1.1, x1.2.1, wrap64 (x1.2.2 + 1)))
        else none
      else some (.inr (.inr ()))) (l, ((l.length : Nat) : Int), 0)).bind (Sum.elim (fun (z3 : Int) => some z3) (fun (_ : Unit) => some (-1)))) (idxI p l) := by
  refine Ev.loopC (st := fun i => (l, ((l.length : Nat) : Int), (i : Int))) l.length (fun i => p (l.getD i d)) (fun i => .inl (i : Int)) (.inr ()) rfl (fun i hi _ hp => ?_) (fun i hi _ hp => ?_) (fun _ => ?_) (fun i hi hk hp => ?_) (fun h => ?_)
  · simp only [Int.ofNat_lt, hi, decide_true, cond_true, inB_nat, atI_nat]
    exact Ev.bind (hf _ (getD_mem _ _ _ hi)) (by rw [hp]; exact Ev.ret _)
  · simp only [Int.ofNat_lt, hi, decide_true, cond_true, inB_nat, atI_nat]
    exact Ev.bind (hf _ (getD_mem _ _ _ hi)) (by rw [hp]; simp only [cond_false, wrap_succ (show i < 9223372036854775807 by omega)]; exact Ev.ret _)
  · simp only [Int.ofNat_lt, Nat.lt_irrefl, decide_false, cond_false]; exact Ev.ret _
  · rw [idxI_hit p d l i hi hk hp]; exact Ev.ret _
  · rw [idxI_none p d l h]; exact Ev.ret _
theorem indexFuncV_ev {A S : Type} (d : A) (f : Nat → A → S → Option (Bool × S)) (p : A → Bool) (l : List A) (s : S) (hl : l.length < 9223372036854775807) (hf : ∀ a ∈ l, Ev (fun n => f n a s) (p a, s)) :
    Ev (fun n => (iterL (Y := (Int × S) ⊕ S) n (fun (x1 : List A × Int × Int × S) =>
      bif decide (x1.2.2.1 < x1.2.1) then
        bif inB x1.2.2.1 x1.1.length then
          (f n (atI d x1.1 x1.2.2.1) x1.2.2.2).bind fun y2 =>
          bif y2.1 then some (.inr (.inl (x1.2.2.1, y2.2))) else some (.inl (x1.1, x1.2.1, wrap64 (x1.2.2.1 + 1), y2.2))
        else none
      else some (.inr (.inr x1.2.2.2))) (l, ((l.length : Nat) : Int), 0, s)).bind (Sum.elim (fun (z3 : Int × S) => some z3) (fun (z4 : S) => some ((-1), z4)))) (idxI p l, s) := by
  refine Ev.loopC (st := fun i => (l, ((l.length : Nat) : Int), (i : Int), s)) l.length (fun i => p (l.getD i d)) (fun i => .inl ((i : Int), s)) (.inr s) rfl (fun i hi _ hp => ?_) (fun i hi _ hp => ?_) (fun _ => ?_) (fun i hi hk hp => ?_) (fun h => ?_)
  · simp only [Int.ofNat_lt, hi, decide_true, cond_true, inB_nat, atI_nat]
    exact Ev.bind (hf _ (getD_mem _ _ _ hi)) (by rw [hp]; exact Ev.ret _)
  · simp only [Int.ofNat_lt, hi, decide_true, cond_true, inB_nat, atI_nat]
    exact Ev.bind (hf _ (getD_mem _ _ _ hi)) (by rw [hp]; simp only [cond_false, wrap_succ (show i < 9223372036854775807 by omega)]; exact Ev.ret _)
  · simp only [Int.ofNat_lt, Nat.lt_irrefl, decide_false, cond_false]; exact Ev.ret _
  · rw [idxI_hit p d l i hi hk hp]; exact Ev.ret _
  · rw [idxI_none p d l h]; exact Ev.ret _
theorem strEq_comm (a b : ByteArray) : strEq a b = strEq b a := by
  rw [strEq_eq, strEq_eq]
  by_cases h : a = b
  · subst h; rfl
  · rw [decide_eq_false h, decide_eq_false fun e => h e.symm]
def scanE (N : Nat) (f : Nat → Int × Int) : Int × Int := match (List.range N).find? (fun i => !((f i).1 == 0)) with
  | some i => f i
  | none => (0, 0)
theorem scanE_hit {N : Nat} {f : Nat → Int × Int} {i : Nat} (hi : i < N) (h : (f i).1 ≠ 0) (hk : ∀ k, k < i → (f k).1 = 0) : scanE N f = f i := by
  unfold scanE
  cases hq : (List.range N).find? (fun i => !((f i).1 == 0)) with
  | none =>
    have := List.find?_eq_none.1 hq i (List.mem_range.2 hi)
    simp [h] at this
  | some j =>
    have h1 := List.find?_some hq
    have h2 : j = i := by
      rcases Nat.lt_trichotomy j i with h3 | h3 | h3
      · have := hk j h3; simp [this] at h1
      · exact h3
      · exfalso
        rw [List.find?_range_eq_some] at hq
        have := hq.2.2 i h3
        simp [h] at this
    subst h2; rfl
theorem scanE_none {N : Nat} {f : Nat → Int × Int} (h : ∀ i, i < N → (f i).1 = 0) : scanE N f = (0, 0) := by
  unfold scanE
  cases hq : (List.range N).find? (fun i => !((f i).1 == 0)) with
  | none => rfl
  | some j =>
    have h1 := List.find?_some hq
    have h2 := List.mem_range.1 (List.mem_of_find?_eq_some hq)
    simp [h j h2] at h1
theorem scanE_ok {N : Nat} {f : Nat → Int × Int} (h : (scanE N f).1 = 0) : ∀ i, i < N → (f i).1 = 0 := by
  intro i hi
  unfold scanE at h
  cases hq : (List.range N).find? (fun i => !((f i).1 == 0)) with
  | none =>
    have := List.find?_eq_none.1 hq i (List.mem_range.2 hi)
    simpa using this
  | some j =>
    have h1 := List.find?_some hq
    rw [hq] at h
    simp only at h
    simp [h] at h1
theorem scanE_zero {N : Nat} {f : Nat → Int × Int} (h : (scanE N f).1 = 0) : scanE N f = (0, 0) := scanE_none (scanE_ok h)
theorem Ev.loopS {X Z B : Type} {L : Nat → X → Option (X ⊕ ((Int × Int) ⊕ Z))} {G : Nat → ((Int × Int) ⊕ Z) → Option B} (st : Nat → X) (N : Nat) (f : Nat → Int × Int) (y : Z) {x0 : X} {b : B} (h0 : x0 = st 0)
    (h : ∀ i, i < N → (∀ k, k < i → (f k).1 = 0) → Ev (fun n => L n (st i)) (if (f i).1 = 0 then .inl (st (i + 1)) else .inr (.inl (f i))))
    (h3 : (∀ k, k < N → (f k).1 = 0) → Ev (fun n => L n (st N)) (.inr (.inr y)))
    (hb : (scanE N f).1 ≠ 0 → Ev (fun n => G n (.inl (scanE N f))) b)
    (he : (∀ k, k < N → (f k).1 = 0) → Ev (fun n => G n (.inr y)) b) : Ev (fun n => (iterL n (L n) x0).bind (G n)) b := by
  have z : ∀ k, (!((f k).1 == 0)) = false ↔ (f k).1 = 0 := fun k => by simp
  have z2 : ∀ k, (!((f k).1 == 0)) = true ↔ (f k).1 ≠ 0 := fun k => by simp
  refine Ev.loopD st N (fun k => !((f k).1 == 0)) (fun i => .inl (f i)) (.inr y) h0 (fun i hi hk => ?_) (fun hk => h3 fun k h => (z k).1 (hk k h)) (fun i hi hk hp => ?_) (fun hk => he fun k h => (z k).1 (hk k h))
  · have := h i hi fun k hk' => (z k).1 (hk k hk')
    cases hq : !((f i).1 == 0) with
    | false => rw [if_pos ((z i).1 hq)] at this; exact this
    | true => rw [if_neg ((z2 i).1 hq)] at this; exact this
  · have h1 := scanE_hit hi ((z2 i).1 hp) fun k hk' => (z k).1 (hk k hk')
    rw [h1] at hb
    exact hb ((z2 i).1 hp)
theorem ofNat_lt_irrefl (n : Nat) : decide ((n : Int) < (n : Int)) = false := by simp
theorem ofNat_lt_true {a b : Nat} (h : a < b) : decide ((a : Int) < (b : Int)) = true := by simp [h]
end Go.Den
