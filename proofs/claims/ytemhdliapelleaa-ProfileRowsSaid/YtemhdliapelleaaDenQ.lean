/- Plain tools: a function that is told in enough rounds. -/
import Derived.Test.YtemhdliapelleaaDenP
namespace Go.Den
open Go Go.RowKit

/-- From some number of rounds on, F tells v. -/
def Ev {A : Type} (F : Nat → Option A) (v : A) : Prop := ∃ N, ∀ n, N ≤ n → F n = some v
namespace Ev
variable {A B X Y : Type}
theorem ret (v : A) : Ev (fun _ => some v) v := ⟨0, fun _ _ => rfl⟩
theorem of_eq {F : Nat → Option A} {v w : A} (h : Ev F v) (e : v = w) : Ev F w := e ▸ h
theorem congr {F G : Nat → Option A} {v : A} (h : Ev F v) (e : ∀ n, G n = F n) : Ev G v := by
  obtain ⟨N, h⟩ := h; exact ⟨N, fun n hn => by rw [e, h n hn]⟩
theorem bind {F : Nat → Option A} {G : Nat → A → Option B} {a : A} {b : B} (h : Ev F a) (h' : Ev (fun n => G n a) b) : Ev (fun n => (F n).bind (G n)) b := by
  obtain ⟨N, h⟩ := h
  obtain ⟨M, h'⟩ := h'
  exact ⟨max N M, fun n hn => by simp only [h n (by omega), Option.bind_some]; exact h' n (by omega)⟩
theorem ite {c : Bool} {F G : Nat → Option A} {v : A} (h1 : c = true → Ev F v) (h2 : c = false → Ev G v) : Ev (fun n => cond c (F n) (G n)) v := by
  cases c with
  | true => exact h1 rfl
  | false => exact h2 rfl
theorem yes {c : Bool} {F G : Nat → Option A} {v : A} (hc : c = true) (h : Ev F v) : Ev (fun n => cond c (F n) (G n)) v := by subst hc; exact h
theorem no {c : Bool} {F G : Nat → Option A} {v : A} (hc : c = false) (h : Ev G v) : Ev (fun n => cond c (F n) (G n)) v := by subst hc; exact h
/-- A loop: 'res' is what it comes to, from any state that I holds of. -/
theorem iter {L : Nat → X → Option (X ⊕ Y)} (I : X → Prop) (μ : X → Nat) (res : X → Y)
    (h : ∀ x, I x → (∃ x', Ev (fun n => L n x) (.inl x') ∧ I x' ∧ μ x' < μ x ∧ res x' = res x) ∨ (∃ y, Ev (fun n => L n x) (.inr y) ∧ y = res x)) (x : X) (h0 : I x) :
    Ev (fun n => iterL n (L n) x) (res x) := by
  have key : ∀ m x, μ x = m → I x → ∃ N, ∀ k n, N ≤ k → N ≤ n → iterL k (L n) x = some (res x) := by
    intro m
    induction m using Nat.strongRecOn with
    | _ m ih =>
      intro x hm hI
      rcases h x hI with ⟨x', ⟨N, hN⟩, hI', hlt, hr⟩ | ⟨y, ⟨N, hN⟩, hy⟩
      · obtain ⟨M, hM⟩ := ih (μ x') (by omega) x' rfl hI'
        refine ⟨max N M + 1, fun k n hk hn => ?_⟩
        cases k with
        | zero => omega
        | succ k =>
          simp only [iterL]
          have := hN n (by omega)
          simp only at this
          simp only [this, Option.bind_some]
          rw [hM k n (by omega) (by omega), hr]
      · refine ⟨N + 1, fun k n hk hn => ?_⟩
        cases k with
        | zero => omega
        | succ k =>
          simp only [iterL]
          have := hN n (by omega)
          simp only at this
          simp only [this, Option.bind_some]
          rw [hy]
  obtain ⟨N, hN⟩ := key _ x rfl h0
  exact ⟨N, fun n hn => hN n n hn hn⟩
/-- A loop, by what holds of its state. -/
theorem iterP {L : Nat → X → Option (X ⊕ Y)} (I : X → Prop) (μ : X → Nat) (Q : Y → Prop)
    (h : ∀ x, I x → (∃ x', Ev (fun n => L n x) (.inl x') ∧ I x' ∧ μ x' < μ x) ∨ (∃ y, Ev (fun n => L n x) (.inr y) ∧ Q y)) (x : X) (h0 : I x) :
    ∃ y, Ev (fun n => iterL n (L n) x) y ∧ Q y := by
  have key : ∀ m x, μ x = m → I x → ∃ y, Q y ∧ ∃ N, ∀ k n, N ≤ k → N ≤ n → iterL k (L n) x = some y := by
    intro m
    induction m using Nat.strongRecOn with
    | _ m ih =>
      intro x hm hI
      rcases h x hI with ⟨x', ⟨N, hN⟩, hI', hlt⟩ | ⟨y, ⟨N, hN⟩, hy⟩
      · obtain ⟨y, hy, M, hM⟩ := ih (μ x') (by omega) x' rfl hI'
        refine ⟨y, hy, max N M + 1, fun k n hk hn => ?_⟩
        cases k with
        | zero => omega
        | succ k =>
          simp only [iterL]
          have := hN n (by omega)
          simp only at this
          simp only [this, Option.bind_some]
          rw [hM k n (by omega) (by omega)]
      · refine ⟨y, hy, N + 1, fun k n hk hn => ?_⟩
        cases k with
        | zero => omega
        | succ k =>
          simp only [iterL]
          have := hN n (by omega)
          simp only at this
          simp only [this, Option.bind_some]
  obtain ⟨y, hy, N, hN⟩ := key _ x rfl h0
  exact ⟨y, ⟨N, fun n hn => hN n n hn hn⟩, hy⟩
theorem bindE {F : Nat → Option A} {G : Nat → A → Option B} {Q : A → Prop} {P : B → Prop} (h : ∃ a, Ev F a ∧ Q a) (h' : ∀ a, Q a → ∃ b, Ev (fun n => G n a) b ∧ P b) : ∃ b, Ev (fun n => (F n).bind (G n)) b ∧ P b := by
  obtain ⟨a, h1, h2⟩ := h
  obtain ⟨b, h3, h4⟩ := h' a h2
  exact ⟨b, bind h1 h3, h4⟩
theorem retE {P : A → Prop} (v : A) (h : P v) : ∃ b, Ev (fun _ => some v) b ∧ P b := ⟨v, ret v, h⟩
theorem eqE {F : Nat → Option A} {P : A → Prop} {v : A} (h : ∀ n, F n = some v) (h' : P v) : ∃ b, Ev F b ∧ P b := ⟨v, ⟨0, fun n _ => h n⟩, h'⟩
theorem const {F : Nat → Option A} {v : A} (h : ∀ n, F n = some v) : Ev F v := ⟨0, fun n _ => h n⟩
theorem some_at {F : Nat → Option A} {v : A} (h : Ev F v) : ∃ n, F n = some v := by obtain ⟨N, h⟩ := h; exact ⟨N, h N (Nat.le_refl _)⟩
end Ev
/-- Numbers of 64 bits. -/
def I64 (n : Int) : Prop := -9223372036854775808 ≤ n ∧ n ≤ 9223372036854775807
theorem wrap64_id {n : Int} (h1 : -9223372036854775808 ≤ n) (h2 : n ≤ 9223372036854775807) : wrap64 n = n := by
  rw [← IntWalk.i64_left]
  simp only [IntKind.wrap, IntKind.signed, IntKind.bits]
  by_cases h : n % 2 ^ 64 ≥ 2 ^ (64 - 1)
  · simp only [h, decide_true, Bool.and_self, if_true]; omega
  · simp only [h, decide_false, Bool.and_false, Bool.false_eq_true, if_false]; omega
theorem i64_of {n : Int} {Θ : Tab} (h : WfP Θ (.int .i64 n)) : I64 n := by
  cases h with | int _ _ h =>
  simp [Lit.wf, IntKind.min, IntKind.max, IntKind.signed, IntKind.bits] at h
  exact ⟨h.1, h.2⟩
theorem mx_eq (a b : Int) : mx a b = max a b := by unfold mx; split <;> omega
theorem mn_eq (a b : Int) : mn a b = min a b := by unfold mn; split <;> omega
theorem and_one {m : Int} (h : 0 ≤ m) (h' : m ≤ 9223372036854775807) : bits2 .and .i64 m 1 = m % 2 := by
  obtain ⟨k, rfl⟩ := Int.eq_ofNat_of_zero_le h
  have e : (BitVec.ofInt 64 (k : Int) &&& BitVec.ofInt 64 1).toNat = k % 2 := by
    rw [BitVec.toNat_and]
    have e1 : (BitVec.ofInt 64 (k : Int)).toNat = k := by
      rw [BitVec.toNat_ofInt]; omega
    have e2 : (BitVec.ofInt 64 1).toNat = 1 := by decide
    rw [e1, e2, Nat.and_one_is_mod]
  show IntKind.i64.wrap ((BitVec.ofInt 64 (k : Int) &&& BitVec.ofInt 64 1).toNat : Int) = _
  rw [e, IntWalk.i64_left, wrap64_id (by omega) (by omega)]
  omega
theorem shr_one (m : Int) : shr .i64 m 1 = m / 2 := by
  unfold shr
  rw [Int.fdiv_eq_ediv_of_nonneg _ (by decide)]
  rfl
end Go.Den
