/- The store of one text into a row of texts, by hand. -/
import Derived.Test.YtbcejiobmeglgaaAlter07
namespace Go.Proofs.Ytbcejiobmeglgaa.Fn
set_option linter.unusedVariables false
set_option maxRecDepth 100000
open Go Go.RowKit Go.Den
theorem rep_at {Θ : Tab} {W : World} {F : Nat → Prop} {u : Value} {e : TypeId} {l : List (Θ.T e)} (h : Rep Θ W F u (.sl e l)) {i j : Nat} {y : Θ.T e} {x : PV Θ.T} (hy : l[i]? = some y) (hx : (Θ.enc e y)[j]? = some x) :
    ∃ ad cap v, u = .slice (some ad) l.length cap ∧ ad.spot = none ∧ F ad.block ∧ (Θ.base ≤ ad.block → elOf W ad.block = some e) ∧ W.cell? (ad.add (i * Θ.sz e + j)) = some v ∧ Rep Θ W F v x := by
  cases h with
  | sl _ _ A n cap us hn hcap hz hA hr =>
    have hi := (List.getElem?_eq_some_iff.1 hy).1
    have hj := (List.getElem?_eq_some_iff.1 hx).1
    rw [Θ.length_enc] at hj
    obtain ⟨ad, rfl, e2, e3, e4⟩ := hA (fun h => by rw [h] at hi; simp at hi)
    subst hn
    exact ⟨ad, cap, us i j, rfl, e2, (e3 (by omega)).1, (e3 (by omega)).2, e4 i j hi hj, hr i j y x hy hx⟩
theorem not_frozen {W : World} {A : Addr} {e : TypeId} {v : Value} (he : elOf W A.block = some e) (hc : W.cell? A = some v) : W.frozen? A = false := by
  unfold elOf at he
  unfold World.cell? at hc
  unfold World.frozen?
  cases hh : W.heap[A.block]? with
  | none => simp [hh] at he
  | some o =>
    rw [hh] at he hc
    cases o <;> first
      | (cases he; done)
      | (rename_i c e' f
         obtain ⟨lo, hi⟩ := f
         simp only at he hc ⊢
         split at he
         · rename_i hf
           have hs : A.off < c.size := by
             split at hc
             · cases hc
             · exact (Array.getElem?_eq_some_iff.1 hc).1
           rcases hf with hf | hf <;> (simp at hf ⊢; omega)
         · cases he)
section
variable {b : Nat} {E : Env} {W : World} {bx : Nat → Nat → Nat} {rw_ : Nat → Nat → Value} {tm : Array Value}
abbrev s3 (b : Nat) (ns : List NodeT0) : St (Θ b).T := h3.st (xOf ns)
theorem boxes3 (ns : List NodeT0) : (s3 b ns).boxes = [(3, ⟨0, 27, [.v (.int .i64 30), .v (.int .i64 200), .v (.int .i64 10), .v (.int .i64 9), .v (.int .i64 10), .v (.sl 39 ns), .v (.sl 53 awS0), .v (.int .i64 1), .v (.int .i64 1)]⟩)] := rfl
theorem look3 (ns : List NodeT0) : Den.look (s3 b ns).boxes 3 = some ⟨0, 27, [.v (.int .i64 30), .v (.int .i64 200), .v (.int .i64 10), .v (.int .i64 9), .v (.int .i64 10), .v (.sl 39 ns), .v (.sl 53 awS0), .v (.int .i64 1), .v (.int .i64 1)]⟩ := rfl
theorem only3 {ns : List NodeT0} {k : Nat} {B : BoxS (Θ b).T} (h : Den.look (s3 b ns).boxes k = some B) : k = 3 ∧ B = ⟨0, 27, [.v (.int .i64 30), .v (.int .i64 200), .v (.int .i64 10), .v (.int .i64 9), .v (.int .i64 10), .v (.sl 39 ns), .v (.sl 53 awS0), .v (.int .i64 1), .v (.int .i64 1)]⟩ := by
  rw [boxes3] at h
  simp only [Den.look] at h
  split at h
  · rename_i e
    cases h
    exact ⟨e.symm, rfl⟩
  · cases h
theorem rows3 (ns : List NodeT0) : (s3 b ns).rows = [] := rfl
theorem slots3 (ns ns' : List NodeT0) (i : Nat) : (s3 b ns).at_ i = (s3 b ns').at_ i := rfl
theorem slot3 (ns : List NodeT0) (i : Nat) : (s3 b ns).at_ i = .undef ∨ (i = 1 ∧ (s3 b ns).at_ i = .c (.v (.int .i64 0))) ∨ (i = 2 ∧ (s3 b ns).at_ i = .c (.v (.int .i64 0))) ∨ (i = 3 ∧ (s3 b ns).at_ i = .c (.box 3 0 0)) := by
  match i with
  | 0 => exact .inl rfl
  | 1 => exact .inr (.inl ⟨rfl, rfl⟩)
  | 2 => exact .inr (.inr (.inl ⟨rfl, rfl⟩))
  | 3 => exact .inr (.inr (.inr ⟨rfl, rfl⟩))
  | n + 4 =>
    left
    have h : (s3 b ns).slots.drop 4 = List.replicate 65 .undef := rfl
    have h2 : (s3 b ns).at_ (n + 4) = ((s3 b ns).slots.drop 4).getD n .undef := by
      unfold St.at_
      rw [List.getD_eq_getElem?_getD, List.getD_eq_getElem?_getD, List.getElem?_drop, Nat.add_comm]
    rw [h2, h, List.getD_eq_getElem?_getD, List.getElem?_replicate]
    split <;> rfl
theorem mut3 (ns : List NodeT0) (k : Nat) : Mut (s3 b ns) bx rw_ k ↔ bx 3 0 = k := by
  constructor
  · rintro (⟨q, B, hB, rfl⟩ | ⟨r, R, hR, _⟩)
    · obtain ⟨rfl, rfl⟩ := only3 hB; rfl
    · rw [rows3] at hR; cases hR
  · rintro rfl; exact .inl ⟨3, _, look3 ns, rfl⟩
theorem setCell_size (W : World) (A : Addr) (u : Value) : (W.setCell A u).heap.size = W.heap.size := by simp [World.setCell]
theorem setCell_other (W : World) (A : Addr) (u : Value) (k : Nat) (h : k ≠ A.block) : (W.setCell A u).heap[k]? = W.heap[k]? := by
  simp only [World.setCell, Array.getElem?_modify]
  rw [if_neg (fun e => h e.symm)]
theorem ff3 (ns ns' : List NodeT0) (A : Addr) (u : Value) : FF E (s3 b ns') bx rw_ (W.setCell A u) = FF E (s3 b ns) bx rw_ W := by
  funext k
  unfold FF
  rw [propext (mut3 ns k), propext (mut3 ns' k), setCell_size]
theorem sim_store {ns : List NodeT0} {A : Addr} (hB : ∀ k, FF E (s3 b ns) bx rw_ W k → b ≤ k) (hS : Sim (Θ b) E (s3 b ns) tm W bx rw_) (hsp : A.spot = none) (hc : ∃ v, W.cell? A = some v) (hel : elOf W A.block = some 9) (hFA : FF E (s3 b ns) bx rw_ W A.block) (hown : E.Own A.block)
    {tm' : Array Value} (hsz : tm'.size = tm.size) (h1 : ∀ i, i = 1 ∨ i = 2 ∨ i = 3 → tm'.getD i undef = tm.getD i undef) :
    ∃ ns' u5, AltP (Θ b) 9 tN (.sl 39 ns) (.sl 39 ns') ∧ Sim (Θ b) E (s3 b ns') tm' (W.setCell A (.string tN)) bx rw_ ∧ W.cell? ⟨bx 3 0, 5, none⟩ = some u5 ∧ Rep (Θ b) W (FF E (s3 b ns) bx rw_ W) u5 (.sl 39 ns) ∧ Rep (Θ b) (W.setCell A (.string tN)) (FF E (s3 b ns) bx rw_ W) u5 (.sl 39 ns') := by
  obtain ⟨hown3, cs, hh, ha⟩ := hS.boxes 3 _ (look3 ns)
  have hne : bx 3 0 ≠ A.block := fun e => hFA.2.2 ((mut3 ns _).2 e)
  cases ha with | cons a0 ha =>
  cases ha with | cons a1 ha =>
  cases ha with | cons a2 ha =>
  cases ha with | cons a3 ha =>
  cases ha with | cons a4 ha =>
  cases ha with | cons a5 ha =>
  cases ha with | cons a6 ha =>
  cases ha with | cons a7 ha =>
  cases ha with | cons a8 ha =>
  cases ha
  rename_i u0 u1 u2 u3 u4 u5 u6 u7 u8
  have a5' : Rep (Θ b) W (FF E (s3 b ns) bx rw_ W) u5 (.sl 39 ns) := a5
  have a6' : Rep (Θ b) W (FF E (s3 b ns) bx rw_ W) u6 (.sl 53 awS0) := a6
  obtain ⟨x5, r5, l5⟩ := Rep.alter (s0 := tN) (tS := 9) rfl hsp hc hel hB a5'
  obtain ⟨x6, r6, l6⟩ := Rep.alter (s0 := tN) (tS := 9) rfl hsp hc hel hB a6'
  obtain ⟨ns', rfl⟩ : ∃ ns' : List NodeT0, x5 = .sl 39 ns' := by cases l5 with | sl _ _ l' _ _ => exact ⟨l', rfl⟩
  have e6 : x6 = .sl 53 awS0 := l6.flat (e := 53) (by decide) (fun u v h => h) rfl
  subst e6
  have hint : ∀ (n : Int) (u : Value), RCV (Θ b) W (FF E (s3 b ns) bx rw_ W) bx rw_ (.v (.int .i64 n)) u → RCV (Θ b) (W.setCell A (.string tN)) (FF E (s3 b ns) bx rw_ W) bx rw_ (.v (.int .i64 n)) u := fun n u h => by
    have h' : Rep (Θ b) W (FF E (s3 b ns) bx rw_ W) u (.int .i64 n) := h
    cases h' with | int _ _ => exact Rep.int _ _
  have hff := ff3 (b := b) (E := E) (W := W) (bx := bx) (rw_ := rw_) ns ns' A (.string tN)
  refine ⟨ns', u5, l5, ⟨⟨hS.below.os, hS.below.tape, hS.below.output, by rw [setCell_size]; exact hS.below.size, fun k hk hz => ?_⟩, hS.glob, fun k c hk => ⟨(hS.pinB k c hk).1, fun B hB' _ => ?_⟩, fun r v hr => ⟨(hS.pinR r v hr).1, fun R hR => (by rw [rows3] at hR; cases hR)⟩, hS.rwsl, fun k B hB' => ?_, fun r R hR => (by rw [rows3] at hR; cases hR), fun k B k' B' h2 h3 _ => (by rw [(only3 h2).1, (only3 h3).1]), fun r R r' R' c hR => (by rw [rows3] at hR; cases hR), fun k B r R _ hR => (by rw [rows3] at hR; cases hR), (by rw [hsz]; exact hS.len), fun i => ?_⟩, ?_, a5', r5⟩
  · rw [setCell_other _ _ _ k (fun e => by
      rw [e] at hk hz
      rcases hown with h | h
      · exact hz h
      · omega)]
    exact hS.below.block k hk hz
  · have h2 := (hS.pinB k c hk).1
    rw [(only3 hB').1] at h2
    exact absurd h2 (by decide)
  · obtain ⟨rfl, rfl⟩ := only3 hB'
    refine ⟨hown3, [u0, u1, u2, u3, u4, u5, u6, u7, u8], ?_, ?_⟩
    · rw [setCell_other _ _ _ _ hne]; exact hh
    · rw [hff]
      exact .cons (hint _ _ a0) (.cons (hint _ _ a1) (.cons (hint _ _ a2) (.cons (hint _ _ a3) (.cons (hint _ _ a4) (.cons r5 (.cons r6 (.cons (hint _ _ a7) (.cons (hint _ _ a8) .nil))))))))
  · rw [hff, slots3 ns' ns i]
    have h2 := hS.slots i
    rcases slot3 (b := b) ns i with h | ⟨rfl, h⟩ | ⟨rfl, h⟩ | ⟨rfl, h⟩
    · rw [h]; exact trivial
    · rw [h1 1 (.inl rfl)]; rw [h] at h2 ⊢; exact hint _ _ h2
    · rw [h1 2 (.inr (.inl rfl))]; rw [h] at h2 ⊢; exact hint _ _ h2
    · rw [h1 3 (.inr (.inr rfl))]; rw [h] at h2 ⊢; exact h2
  · unfold World.cell?
    simp only [hh]
    rfl
end
end Go.Proofs.Ytbcejiobmeglgaa.Fn
