/- What a state stands on may change: for ranges over functions. -/
import Derived.Test.YtemhdliapelleaaDenAA
import Derived.RangeFuncLeaves
import Derived.RangeFuncFrom
namespace Go.Den
open Go Go.RowKit

section
variable {Θ : Tab} {E E1 E2 : Env} {s : St Θ.T} {tm : Array Value} {W W' : World} {bx : Nat → Nat → Nat} {rw_ : Nat → Nat → Value}
/-- Another environment, another world: what the state speaks of is the same. -/
theorem Sim.move {row : Option Nat} (hS : Sim Θ E1 s tm W bx rw_) (hg : W.grownBy W' row) (hK : Keeps E2 W') (hPB : E2.PB = E1.PB) (hPR : E2.PR = E1.PR) (hO : ∀ b, Mut s bx rw_ b → E1.Own b → E2.Own b)
    (hF : ∀ b, FF E1 s bx rw_ W b → FF E2 s bx rw_ W' b) (hrow : ∀ q, row = some q → ¬ FF E1 s bx rw_ W q ∧ ¬ Mut s bx rw_ q) : Sim Θ E2 s tm W' bx rw_ := by
  have hW : ∀ b, FF E1 s bx rw_ W b → W'.heap[b]? = W.heap[b]? := fun b hb => hg.block b hb.2.1 fun e => (hrow b e.symm).1 hb
  refine ⟨hK, by rw [hPB]; exact hS.pinB, by rw [hPR]; exact hS.pinR, hS.rwsl, fun k B hB => ?_, fun r R hR => ?_, hS.bb, hS.rr, hS.br, hS.len, fun i => RAV.trans hF hW (fun _ _ => rfl) (fun _ _ => rfl) (hS.slots i)⟩
  · obtain ⟨h1, cv, hh, ha⟩ := hS.boxes k B hB
    have hm : Mut s bx rw_ (bx k B.gen) := .inl ⟨k, B, hB, rfl⟩
    have hlt : bx k B.gen < W.heap.size := (Array.getElem?_eq_some_iff.1 hh).1
    exact ⟨hO _ hm h1, cv, by rw [hg.block _ hlt fun e => (hrow _ e.symm).2 hm]; exact hh, RCs.trans hF hW (fun _ _ => rfl) (fun _ _ => rfl) ha⟩
  · obtain ⟨h1, us, ho, ha⟩ := hS.rows r R hR
    refine ⟨fun b hb => hO b (.inr ⟨r, R, hR, hb⟩) (h1 b hb), us, ho.kept hg ?_, ha.mono fun x u hx => Rep.mono hx hF hW⟩
    cases hob : ob (rw_ r R.gen) with
    | none => exact .inl rfl
    | some b => exact .inr fun e => (hrow b e.symm).2 (.inr ⟨r, R, hR, hob⟩)
/-! ### A block without cells stands for nothing -/
section
variable {F F' : Nat → Prop} {q : Nat}
theorem Rep.drop {v : Value} {x : PV Θ.T} (hq : ∀ ad : Addr, ad.block = q → W.cell? ad = none) (hf : ∀ b, F b → b ≠ q → F' b) (h : Rep Θ W F v x) : Rep Θ W F' v x := by
  induction h with
  | int k n => exact .int k n
  | bool b => exact .bool b
  | str s => exact .str s
  | sl e l A n cap us hn hcap hz hA _ ih =>
    refine .sl e l A n cap us hn hcap hz (fun hne => ?_) (fun i j y x hy hx => ih i j y x hy hx)
    obtain ⟨ad, e1, e2, e3, e4⟩ := hA hne
    refine ⟨ad, e1, e2, fun h => hf _ (e3 h) fun e => ?_, e4⟩
    have := e4 0 0 (List.length_pos_iff.2 hne) h
    rw [hq _ (by rw [Addr.add_block]; exact e)] at this
    cases this
theorem RCV.drop (hq : ∀ ad : Addr, ad.block = q → W.cell? ad = none) (hf : ∀ b, F b → b ≠ q → F' b) {c : CV Θ.T} {u : Value} (h : RCV Θ W F bx rw_ c u) : RCV Θ W F' bx rw_ c u := by
  cases c with
  | v x => exact Rep.drop hq hf h
  | _ => exact h
theorem RAV.drop (hq : ∀ ad : Addr, ad.block = q → W.cell? ad = none) (hf : ∀ b, F b → b ≠ q → F' b) {v : AV Θ.T} {u : Value} (hv : notYld v = true) (h : RAV Θ W F bx rw_ v u) : RAV Θ W F' bx rw_ v u := by
  have sums : ∀ (l : List (CV Θ.T ⊕ List (CV Θ.T))) (us : List Value), All2 (RSum Θ W F bx rw_) l us → All2 (RSum Θ W F' bx rw_) l us := fun l us ha => ha.mono fun a u h => by
    cases a with
    | inl c => exact RCV.drop hq hf h
    | inr cs => obtain ⟨us, e, ha⟩ := h; exact ⟨us, e, ha.mono fun _ _ h => RCV.drop hq hf h⟩
  cases v with
  | c x => exact RCV.drop hq hf h
  | agg cs => obtain ⟨us, e, ha⟩ := h; exact ⟨us, e, ha.mono fun _ _ h => RCV.drop hq hf h⟩
  | tup l => obtain ⟨us, e, ha⟩ := h; exact ⟨us, e, sums _ _ ha⟩
  | mth f l => obtain ⟨us, e, ha⟩ := h; exact ⟨us, e, sums _ _ ha⟩
  | cel xs =>
    obtain ⟨ad, e, hs, hF, hc⟩ := h
    refine ⟨ad, e, hs, fun hne => hf _ (hF hne) fun eq => ?_, fun j x hx => ?_⟩
    · cases xs with
      | nil => exact hne rfl
      | cons x xs =>
        obtain ⟨c, h1, _⟩ := hc 0 x (by simp)
        rw [hq _ (by rw [Addr.add_block]; exact eq)] at h1
        cases h1
    · obtain ⟨c, h1, h2⟩ := hc j x hx
      exact ⟨c, h1, Rep.drop hq hf h2⟩
  | yld y l => cases hv
  | _ => exact h
end
theorem Sim.drop {q : Nat} {o : Obj} (hS : Sim Θ E1 s tm W bx rw_) (hq : W.heap[q]? = some o) (ho : o.isCells = false) (hO : ¬ E1.Own q) (hny : s.slots.all notYld = true) : Sim Θ { E1 with F := fun b => E1.F b ∧ b ≠ q } s tm W bx rw_ := by
  have hcell : ∀ ad : Addr, ad.block = q → W.cell? ad = none := by
    intro ad e
    cases hc : W.cell? ad with
    | none => rfl
    | some v =>
      obtain ⟨o', h1, h2⟩ := cells_of_cell hc
      rw [e, hq] at h1
      cases h1
      rw [ho] at h2; cases h2
  have hF : ∀ b, FF E1 s bx rw_ W b → b ≠ q → FF { E1 with F := fun b => E1.F b ∧ b ≠ q } s bx rw_ W b := by
    rintro b ⟨h1, h2, h3⟩ hne
    refine ⟨?_, h2, h3⟩
    rcases h1 with h1 | h1
    · exact .inl ⟨h1, hne⟩
    · exact .inr h1
  refine ⟨⟨hS.below.os, hS.below.tape, hS.below.output, hS.below.size, hS.below.block⟩, hS.pinB, hS.pinR, hS.rwsl, fun k B hB => ?_, fun r R hR => ?_, hS.bb, hS.rr, hS.br, hS.len, fun i => ?_⟩
  · obtain ⟨a1, cv, hh, ha⟩ := hS.boxes k B hB
    exact ⟨a1, cv, hh, ha.mono fun _ _ h => RCV.drop hcell hF h⟩
  · obtain ⟨a1, us, ho, ha⟩ := hS.rows r R hR
    exact ⟨a1, us, ho, ha.mono fun _ _ h => Rep.drop hcell hF h⟩
  · refine RAV.drop hcell hF ?_ (hS.slots i)
    unfold St.at_
    rw [List.getD_eq_getElem?_getD]
    cases hi : s.slots[i]? with
    | none => rfl
    | some v => exact List.all_eq_true.1 hny v (List.mem_of_getElem? hi)
/-- The mark that an outermost range over a function leaves among an activation's deferred calls. -/
def mark (D : Nat) : Deferred := { target := .collected D, args := #[] }
/-- E2 is what E has come to: what was made since is the call's own, but for the blocks of marks. -/
structure Rebase (E E2 : Env) : Prop where
  os : E2.w0.os = E.w0.os
  tape : E2.w0.tape = E.w0.tape
  output : E2.w0.output = E.w0.output
  size : E.w0.heap.size ≤ E2.w0.heap.size
  own : ∀ b, E2.Own b → E.Own b
  keep : ∀ k, k < E.w0.heap.size → ¬ E.Z k → ¬ E2.Z k ∧ E2.w0.heap[k]? = E.w0.heap[k]?
  F : ∀ b, E2.F b → E.F b ∨ E.Own b
  PB : E2.PB = E.PB
  PR : E2.PR = E.PR
  marks : ∃ Ds : List Nat, E2.D = Ds.map mark ++ E.D ∧ Ds.Nodup ∧ ∀ D ∈ Ds, (D < E2.w0.heap.size ∧ ¬ E2.Z D ∧ E2.w0.heap[D]? = some (.deferred (some []))) ∧ ¬ E2.F D ∧ E.w0.heap.size ≤ D
theorem Rebase.refl (E : Env) : Rebase E E := ⟨rfl, rfl, rfl, Nat.le_refl _, fun _ h => h, fun _ _ h => ⟨h, rfl⟩, fun _ h => .inl h, rfl, rfl, [], rfl, .nil, fun _ h => by cases h⟩
theorem Rebase.keeps (h : Rebase E E2) (hK : Keeps E2 W) : Keeps E W :=
  ⟨hK.os.trans h.os, hK.tape.trans h.tape, hK.output.trans h.output, Nat.le_trans h.size hK.size, fun k hk hz => by
    obtain ⟨h1, h2⟩ := h.keep k hk hz
    exact (hK.block k (Nat.lt_of_lt_of_le hk h.size) h1).trans h2⟩
theorem Rebase.sim (h : Rebase E E2) (hS : Sim Θ E2 s tm W bx rw_) : Sim Θ E s tm W bx rw_ := by
  refine hS.move (row := none) ⟨rfl, rfl, rfl, Nat.le_refl _, fun _ _ _ => rfl⟩ (h.keeps hS.below) h.PB.symm h.PR.symm (fun b _ hb => h.own b hb) (fun b hb => ⟨?_, hb.2.1, hb.2.2⟩) (fun q e => by cases e)
  rcases hb.1 with h1 | h1
  · exact h.F b h1
  · exact .inr (h.own b h1)
end
end Go.Den
