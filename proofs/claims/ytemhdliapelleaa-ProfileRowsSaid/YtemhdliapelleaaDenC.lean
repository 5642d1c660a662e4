/- What it means that a state of 'den' stands for the machine's; operations that only compute or read keep it. -/
import Derived.Test.YtemhdliapelleaaDenB
import Derived.IntWalk
import Derived.Laws.StructEq
namespace Go.Den
open Go Go.RowKit

/-- What a call stands on: the world in which it began; the blocks that were lent to it; the blocks that it may read; where lent variables and rows lie. -/
structure Env where
  w0 : World
  Z : Nat → Prop
  F : Nat → Prop
  PB : Nat → Nat → Prop
  PR : Nat → Value → Prop
  D : List Deferred
/-- The blocks that a call may write: those lent, and new ones. -/
def Env.Own (E : Env) (b : Nat) : Prop := E.Z b ∨ E.w0.heap.size ≤ b
/-- But for what was lent the world is as it was. -/
structure Keeps (E : Env) (W : World) : Prop where
  os : W.os = E.w0.os
  tape : W.tape = E.w0.tape
  output : W.output = E.w0.output
  size : E.w0.heap.size ≤ W.heap.size
  block : ∀ k, k < E.w0.heap.size → ¬ E.Z k → W.heap[k]? = E.w0.heap[k]?
theorem Keeps.grown {E : Env} {W W' : World} {row : Option Nat} (h : Keeps E W) (hg : W.grownBy W' row) (hr : ∀ k, row = some k → E.Own k) : Keeps E W' :=
  ⟨hg.os.trans h.os, hg.tape.trans h.tape, hg.output.trans h.output, Nat.le_trans h.size hg.size, fun k hk hz => (hg.block k (Nat.lt_of_lt_of_le hk h.size) (fun e => by
    rcases hr k e.symm with h' | h'
    · exact hz h'
    · omega)).trans (h.block k hk hz)⟩
theorem Keeps.alloc {E : Env} {W : World} (h : Keeps E W) (o : Obj) : Keeps E (W.alloc o) := h.grown (World.grownBy_alloc W o none) (fun k e => by cases e)
theorem Env.own_new {E : Env} {W : World} (h : Keeps E W) {b : Nat} (hb : W.heap.size ≤ b) : E.Own b := .inr (Nat.le_trans h.size hb)

/-! ### Rows of the call's own -/
/-- The block that a slice may be written through: none, where it has no room. -/
def ob : Value → Option Nat
  | .slice (some a) _ c => if c = 0 then none else some a.block
  | _ => none
def Owns (W : World) (e sz : Nat) (v : Value) (n : Nat) (xs : List Value) : Prop := W.ownsRow 0 e sz v n xs ∨ ∃ ad, v = .slice (some ad) 0 0 ∧ n = 0 ∧ xs = []
section
variable {W W' : World} {e sz n : Nat} {v : Value} {xs : List Value}
theorem ob_of_own (h : W.ownsRow 0 e sz v n xs) {b : Nat} (hb : ob v = some b) : v.ownBlock = some b := by
  rcases h.2 with ⟨rfl, _⟩ | ⟨g, cap, cur, rfl, _⟩
  · cases hb
  · simp only [ob] at hb
    split at hb
    · cases hb
    · exact hb
theorem Owns.lt (h : Owns W e sz v n xs) {b : Nat} (hb : ob v = some b) : b < W.heap.size := by
  rcases h with h | ⟨ad, rfl, _⟩
  · exact (h.lt b (ob_of_own h hb)).2
  · simp [ob] at hb
theorem Owns.len (h : Owns W e sz v n xs) : xs.length = n * sz := by
  rcases h with h | ⟨ad, rfl, rfl, rfl⟩
  · exact h.1
  · simp
theorem Owns.slice (h : Owns W e sz v n xs) : ∃ A n c, v = .slice A n c := by
  rcases h with h | ⟨ad, rfl, _⟩
  · rcases h.2 with ⟨rfl, _⟩ | ⟨g, cap, cur, rfl, _⟩ <;> exact ⟨_, _, _, rfl⟩
  · exact ⟨_, _, _, rfl⟩
theorem Owns.form (h : Owns W e sz v n xs) : (∃ A c, v = .slice A n c) ∧ (0 < n → ∃ b c, v = .slice (some ⟨b, 0, none⟩) n c ∧ n ≤ c) := by
  rcases h with h | ⟨ad, rfl, rfl, _⟩
  · rcases h.2 with ⟨rfl, rfl⟩ | ⟨g, cap, cur, rfl, _, _, hc, _⟩
    · exact ⟨⟨_, _, rfl⟩, fun h => by omega⟩
    · exact ⟨⟨_, _, rfl⟩, fun _ => ⟨_, _, rfl, hc⟩⟩
  · exact ⟨⟨_, _, rfl⟩, fun h => by omega⟩
theorem Owns.nil : Owns W e sz (.slice none 0 0) 0 [] := .inl (World.ownsRow_nil W _ _ _)
theorem Owns.kept {row : Option Nat} (h : Owns W e sz v n xs) (hg : W.grownBy W' row) (hne : ob v = none ∨ ob v ≠ row) : Owns W' e sz v n xs := by
  rcases h with h | h
  · have h0 := h
    rcases h.2 with ⟨rfl, _⟩ | ⟨g, cap, cur, rfl, _, _, hnc, _⟩
    · exact .inl (h0.kept hg (.inl rfl))
    · by_cases hc : cap = 0
      · have hn : n = 0 := by omega
        subst hn
        subst hc
        exact .inr ⟨_, rfl, rfl, List.eq_nil_of_length_eq_zero (by simpa using h0.1)⟩
      · refine .inl (h0.kept hg (.inr fun e => ?_))
        rcases hne with h' | h'
        · simp [ob, hc] at h'
        · exact h' (by rw [← e]; simp [ob, hc, Value.ownBlock])
  · exact .inr h
theorem Owns.alloc (h : Owns W e sz v n xs) (o : Obj) : Owns (W.alloc o) e sz v n xs := h.kept (World.grownBy_alloc W o none) (by cases ob v <;> simp)
/-- A row at which something may be found lies at the head of a block. -/
theorem Owns.block (h : Owns W e sz v n xs) {ad : Addr} {m cap : Nat} (hv : v = .slice (some ad) m cap) (hc : cap ≠ 0) : m = n ∧ ad = ⟨ad.block, 0, none⟩ ∧ ob v = some ad.block ∧ W.ownsRow 0 e sz v n xs := by
  rcases h with h | ⟨ad', rfl, _⟩
  · have h0 := h
    rcases h.2 with ⟨rfl, _⟩ | ⟨g, cap', cur, rfl, _⟩
    · cases hv
    · cases hv; exact ⟨rfl, rfl, by simp [ob, hc], h0⟩
  · cases hv; exact absurd rfl hc
theorem Owns.cells (h : Owns W e sz v n xs) {g m cap : Nat} (hv : v = .slice (some ⟨g, 0, none⟩) m cap) : ∀ j u, xs[j]? = some u → W.cell? ((⟨g, 0, none⟩ : Addr).add j) = some u := by
  rcases h with h | ⟨ad', rfl, rfl, rfl⟩
  · exact h.cells (g := g) (by rw [hv]; rfl)
  · intro j u h; simp at h
end

section rel
variable (Θ : Tab) (W : World) (F : Nat → Prop) (bx : Nat → Nat → Nat) (rw_ : Nat → Nat → Value)
def RCV : CV Θ.T → Value → Prop
  | .v x, u => Rep Θ W F u x
  | .nil, u => u = .slice none 0 0
  | .e0, u => ∃ A, u = .slice A 0 0
  | .np, u => u = .pointer none
  | .row r g, u => u = rw_ r g
  | .box k g off, u => u = .pointer (some ⟨bx k g, off, none⟩)
  | .fn f caps, u => u = .func (.func f) #[] (caps.map fun kg => Value.pointer (some ⟨bx kg.1 kg.2, 0, none⟩)).toArray
def RCs (l : List (CV Θ.T)) (u : Value) : Prop := ∃ us : List Value, u = .agg us.toArray ∧ All2 (RCV Θ W F bx rw_) l us
def RSum : CV Θ.T ⊕ List (CV Θ.T) → Value → Prop
  | .inl c, u => RCV Θ W F bx rw_ c u
  | .inr cs, u => RCs Θ W F bx rw_ cs u
def RKV : KV Θ.T → Value → Prop
  | .c x, u => RCV Θ W F bx rw_ x u
  | .agg cs, u => RCs Θ W F bx rw_ cs u
  | .cel xs, u => ∃ ad, u = .pointer (some ad) ∧ ad.spot = none ∧ (xs ≠ [] → F ad.block) ∧ ∀ j x, xs[j]? = some x → ∃ c, W.cell? (ad.add j) = some c ∧ Rep Θ W F c x
/-- The record of a range over a function. -/
structure RRec (Θ : Tab) (W : World) (lb y : Nat) (R : Rng) (rec : Loop) : Prop where
  at_ : W.heap[lb]? = some (.loop rec)
  ready : rec.state = .ready
  pending : rec.pending = none
  tab : Θ.Y y = some R
  ps : rec.params = R.ps
  assign : rec.assign = R.assign
  body : rec.body = R.body
  size : rec.tmps.size = R.nt
def RAV : AV Θ.T → Value → Prop
  | .c x, u => RCV Θ W F bx rw_ x u
  | .agg cs, u => RCs Θ W F bx rw_ cs u
  | .tup l, u => ∃ us : List Value, u = .tuple us.toArray ∧ All2 (RSum Θ W F bx rw_) l us
  | .mth f l, u => ∃ us : List Value, u = .func (.func f) us.toArray #[] ∧ All2 (RSum Θ W F bx rw_) l us
  | .cel xs, u => ∃ ad, u = .pointer (some ad) ∧ ad.spot = none ∧ (xs ≠ [] → F ad.block) ∧ ∀ j x, xs[j]? = some x → ∃ c, W.cell? (ad.add j) = some c ∧ Rep Θ W F c x
  | .rel r g i sz off, u => ∃ b n cap, rw_ r g = .slice (some ⟨b, 0, none⟩) n cap ∧ 0 ≤ i ∧ i < (n : Int) ∧ u = .pointer (some ⟨b, i.toNat * sz + off, none⟩)
  | .yld y l, u => ∃ lb R rec, u = .func (.yield lb) #[] #[] ∧ F lb ∧ RRec Θ W lb y R rec ∧ All2 (RKV Θ W F bx rw_) l (R.live.map fun i => rec.tmps.getD i undef)
  | .nilq e, u => ∃ b, u = .bool b ∧ (e = false → b = false)
  | .skip, u => u = undef
  | .undef, _ => True
end rel

/-- Keys from here on are those of what was lent. -/
abbrev pin : Nat := 1000000
/-- What was lent keeps its name. -/
def pinned (r : Nat) : Bool := Nat.ble pin r && Nat.blt r (pin + pin)
theorem pin_le {r : Nat} (h : pinned r = true) : pin ≤ r := by
  simp only [pinned, Bool.and_eq_true, Nat.ble_eq] at h
  exact h.1
/-- The blocks that the call may write. -/
def Mut {T : TypeId → Type} (s : St T) (bx : Nat → Nat → Nat) (rw_ : Nat → Nat → Value) (b : Nat) : Prop :=
  (∃ k B, look s.boxes k = some B ∧ bx k B.gen = b) ∨ (∃ r R, look s.rows r = some R ∧ ob (rw_ r R.gen) = some b)
/-- The blocks that stand still. -/
def FF {T : TypeId → Type} (E : Env) (s : St T) (bx : Nat → Nat → Nat) (rw_ : Nat → Nat → Value) (W : World) (b : Nat) : Prop :=
  (E.F b ∨ E.Own b) ∧ b < W.heap.size ∧ ¬ Mut s bx rw_ b

structure Sim (Θ : Tab) (E : Env) (s : St Θ.T) (tm : Array Value) (W : World) (bx : Nat → Nat → Nat) (rw_ : Nat → Nat → Value) : Prop where
  below : Keeps E W
  pinB : ∀ k b, E.PB k b → pin ≤ k ∧ ∀ B, look s.boxes k = some B → B.gen = 0 → bx k 0 = b
  pinR : ∀ r v, E.PR r v → pinned r = true ∧ ∀ R, look s.rows r = some R → R.gen = 0 → rw_ r 0 = v
  rwsl : ∀ r g, ∃ A n c, rw_ r g = .slice A n c
  boxes : ∀ k B, look s.boxes k = some B → E.Own (bx k B.gen) ∧ ∃ cs : List Value, W.heap[bx k B.gen]? = some (.cells cs.toArray B.ty (0, 0)) ∧ All2 (RCV Θ W (FF E s bx rw_ W) bx rw_) B.cells cs
  rows : ∀ r R, look s.rows r = some R → (∀ b, ob (rw_ r R.gen) = some b → E.Own b) ∧ ∃ us, Owns W R.e (Θ.sz R.e) (rw_ r R.gen) R.l.length us ∧ All2 (fun x u => Rep Θ W (FF E s bx rw_ W) u x) (R.l.flatMap (Θ.enc R.e)) us
  bb : ∀ k B k' B', look s.boxes k = some B → look s.boxes k' = some B' → bx k B.gen = bx k' B'.gen → k = k'
  rr : ∀ r R r' R' b, look s.rows r = some R → look s.rows r' = some R' → ob (rw_ r R.gen) = some b → ob (rw_ r' R'.gen) = some b → r = r'
  br : ∀ k B r R, look s.boxes k = some B → look s.rows r = some R → ob (rw_ r R.gen) ≠ some (bx k B.gen)
  len : s.slots.length = tm.size
  slots : ∀ i, RAV Θ W (FF E s bx rw_ W) bx rw_ (s.at_ i) (tm.getD i undef)

theorem wr_eq (k : IntKind) (n : Int) : wr k n = k.wrap n := by
  unfold wr
  split
  · exact (Go.IntWalk.i64_left n).symm
  · rfl

section
variable {Θ : Tab} {E : Env} {s : St Θ.T} {tm : Array Value} {W : World} {bx : Nat → Nat → Nat} {rw_ : Nat → Nat → Value}
theorem RCV.cells {F : Nat → Prop} {c : CV Θ.T} {u : Value} (hr : ∀ r g, ∃ A n c, rw_ r g = .slice A n c) (h : RCV Θ W F bx rw_ c u) : u.cells = #[u] ∧ u.oneCell' = true := by
  cases c with
  | v x => exact ⟨Rep.cells h, Rep.one h⟩
  | nil => cases h; exact ⟨rfl, rfl⟩
  | e0 => obtain ⟨A, rfl⟩ := h; exact ⟨rfl, rfl⟩
  | np => cases h; exact ⟨rfl, rfl⟩
  | row r g => obtain ⟨A, n, c, e⟩ := hr r g; have : u = rw_ r g := h; rw [this, e]; exact ⟨rfl, rfl⟩
  | box k g off => cases h; exact ⟨rfl, rfl⟩
  | fn f caps => cases h; exact ⟨rfl, rfl⟩
theorem rcv_const {F : Nat → Prop} {v : Value} {c : CV Θ.T} (h : cvConst v = some c) : RCV Θ W F bx rw_ c v := by
  unfold cvConst at h
  split at h <;> try (cases h; done)
  · cases h; exact .int _ _
  · cases h; exact .bool _
  · cases h; exact .str _
  · cases h; rfl
  · cases h; rfl
theorem Sim.ev (h : Sim Θ E s tm W bx rw_) (a : Act) (ha : a.tmps = tm) (x : Operand) : RAV Θ W (FF E s bx rw_ W) bx rw_ (s.ev x) (a.eval x) := by
  cases x with
  | tmp t => simp only [St.ev, Act.eval, ha]; exact h.slots t
  | const v =>
    simp only [St.ev, Act.eval]
    cases hc : cvConst (T := Θ.T) v with
    | none => exact trivial
    | some c => exact rcv_const hc
  | func f => simp [St.ev, Act.eval, RAV, RCV]
  | global g => exact trivial
end

/-! ### One operation each -/
/-- The machine's value of a number, a bool, a text. -/
def flatVal {T : TypeId → Type} : CV T → Value
  | .v (.int k n) => .int k n
  | .v (.bool b) => .bool b
  | .v (.str s) => .string s
  | _ => undef
def isFlat {T : TypeId → Type} : CV T → Bool
  | .v (.sl _ _) => false
  | .v _ => true
  | _ => false
section
variable {Θ : Tab} {P : Program} {F : Nat → Prop} {W : World} {bx : Nat → Nat → Nat} {rw_ : Nat → Nat → Value}
theorem rcv_flat {c : CV Θ.T} (h : isFlat c = true) : RCV Θ W F bx rw_ c (flatVal c) := by
  cases c with
  | v x => cases x <;> first | (simp [isFlat] at h; done) | constructor
  | _ => simp [isFlat] at h
theorem run_int2 {op : BinOp} {t : TypeId} {x y : Operand} {k : IntKind} {a b : Int} {c : Bool} {v : CV Θ.T} (h : int2 op k a b = some (c, v)) (hc : c = true) :
    (do eqGuard op t x y (.int k a) (.int k b); binOp op t (.int k a) (.int k b) : Sem Value).run P W = .ok (flatVal v) W ∧ isFlat v = true := by
  subst hc
  cases op <;> simp only [int2] at h <;> first | (cases h; done) | skip
  case quo =>
    simp only [Option.some.injEq, Prod.mk.injEq, Bool.not_eq_true', beq_eq_false_iff_ne, ne_eq] at h
    obtain ⟨h0, rfl⟩ := h
    exact ⟨by simp [eqGuard, binOp, Op.intDiv, h0, flatVal, wr_eq], rfl⟩
  case rem =>
    simp only [Option.some.injEq, Prod.mk.injEq, Bool.not_eq_true', beq_eq_false_iff_ne, ne_eq] at h
    obtain ⟨h0, rfl⟩ := h
    exact ⟨by simp [eqGuard, binOp, Op.intDiv, h0, flatVal], rfl⟩
  all_goals
    simp only [Option.some.injEq, Prod.mk.injEq, true_and] at h
    subst h
    exact ⟨by simp [eqGuard, binOp, Op.intArith, Op.intBits, Op.intCmp, flatVal, wr_eq, bits2], rfl⟩
theorem run_shift2 {op : BinOp} {t : TypeId} {x y : Operand} {k k' : IntKind} {a b : Int} {c : Bool} {v : CV Θ.T} (h : shift2 op k a b = some (c, v)) (hc : c = true) :
    (do eqGuard op t x y (.int k a) (.int k' b); binOp op t (.int k a) (.int k' b) : Sem Value).run P W = .ok (flatVal v) W ∧ isFlat v = true := by
  subst hc
  cases op <;> simp only [shift2] at h <;> first | (cases h; done) | skip
  all_goals
    simp only [Option.some.injEq, Prod.mk.injEq, decide_eq_true_eq] at h
    obtain ⟨h0, rfl⟩ := h
    have h1 : ¬ b < 0 := by omega
    exact ⟨by simp [eqGuard, binOp, Op.shift, h1, flatVal, shl, shr, wr_eq], rfl⟩
theorem run_str2 {op : BinOp} {t : TypeId} {x y : Operand} {a b : ByteArray} {c : Bool} {v : CV Θ.T} (h : str2 op a b = some (c, v)) (hc : c = true) :
    (do eqGuard op t x y (.string a) (.string b); binOp op t (.string a) (.string b) : Sem Value).run P W = .ok (flatVal v) W ∧ isFlat v = true := by
  subst hc
  cases op <;> simp only [str2] at h <;> first | (cases h; done) | skip
  case add =>
    simp only [Option.some.injEq, Prod.mk.injEq, decide_eq_true_eq] at h
    obtain ⟨h0, rfl⟩ := h
    have h1 : ¬ (9223372036854775807 < (a.size : Int) + b.size) := by omega
    exact ⟨by simp [eqGuard, binOp, Op.stringOp, IntKind.max, IntKind.signed, IntKind.bits, h1, flatVal], rfl⟩
  all_goals
    simp only [Option.some.injEq, Prod.mk.injEq, true_and] at h
    subst h
    exact ⟨by simp [eqGuard, binOp, Op.stringOp, flatVal, strEq, strLt], rfl⟩
end

/-- '==' of structs whose cells are all plain. -/
def eqVals : List Value → List Value → Option Bool
  | [], [] => some true
  | .int k a :: r, .int k' b :: r' => if k = k' then (eqVals r r').map ((a == b) && ·) else none
  | .bool a :: r, .bool b :: r' => (eqVals r r').map ((a == b) && ·)
  | .string a :: r, .string b :: r' => (eqVals r r').map (strEq a b && ·)
  | _, _ => none
def kindV (P : Program) (ft : TypeId) : Value → Bool
  | .int _ _ => match P.underlying ft with
    | some (.int _) => true
    | _ => false
  | .bool _ => match P.underlying ft with
    | some .bool => true
    | _ => false
  | .string _ => match P.underlying ft with
    | some .string => true
    | _ => false
  | _ => false
def kindsV (P : Program) : List Field → List Value → Bool
  | [], [] => true
  | f :: fs, c :: cs => kindV P f.type c && kindsV P fs cs
  | _, _ => false
structure EqT (P : Program) (t : TypeId) : Prop where
  eql : ∀ (us vs : List Value) (r : Bool) (x y : Operand) (W : World), (P.info? t).map (·.size) = some us.length → kindsV P (P.fieldsOf t).toList us = true → eqVals us vs = some r →
    (do eqGuard .eql t x y (.agg us.toArray) (.agg vs.toArray); binOp .eql t (.agg us.toArray) (.agg vs.toArray) : Sem Value).run P W = .ok (.bool r) W
  neq : ∀ (us vs : List Value) (r : Bool) (x y : Operand) (W : World), (P.info? t).map (·.size) = some us.length → kindsV P (P.fieldsOf t).toList us = true → eqVals us vs = some r →
    (do eqGuard .neq t x y (.agg us.toArray) (.agg vs.toArray); binOp .neq t (.agg us.toArray) (.agg vs.toArray) : Sem Value).run P W = .ok (.bool (!r)) W

section
variable {Θ : Tab} {F : Nat → Prop} {W : World} {bx : Nat → Nat → Nat} {rw_ : Nat → Nat → Value}
theorem rcv_int {k : IntKind} {n : Int} {u : Value} (h : RCV Θ W F bx rw_ (.v (.int k n)) u) : u = .int k n := by cases h; rfl
theorem rcv_bool {b : Bool} {u : Value} (h : RCV Θ W F bx rw_ (.v (.bool b)) u) : u = .bool b := by cases h; rfl
theorem rcv_str {b : ByteArray} {u : Value} (h : RCV Θ W F bx rw_ (.v (.str b)) u) : u = .string b := by cases h; rfl
theorem kindsV_of {P : Program} : ∀ (fs : List Field) (a : List (CV Θ.T)) (us : List Value), kindsC P fs a = true → All2 (RCV Θ W F bx rw_) a us → kindsV P fs us = true := by
  intro fs
  induction fs with
  | nil =>
    intro a us h hu
    cases a with
    | nil => cases hu; rfl
    | cons x a => simp [kindsC] at h
  | cons f fs ih =>
    intro a us h hu
    cases a with
    | nil => simp [kindsC] at h
    | cons x a =>
      simp only [kindsC, Bool.and_eq_true] at h
      cases hu with | cons h1 t1 =>
      simp only [kindsV, Bool.and_eq_true]
      refine ⟨?_, ih _ _ h.2 t1⟩
      have hk := h.1
      cases x <;> simp only [kindC] at hk <;> try (cases hk; done)
      rename_i p
      cases p with
      | int k n => rw [rcv_int h1]; exact hk
      | bool b => rw [rcv_bool h1]; exact hk
      | str b => rw [rcv_str h1]; exact hk
      | sl e l => cases hk
theorem eqVals_of : ∀ (a b : List (CV Θ.T)) (r : Bool) (us vs : List Value), eqCells a b = some r → All2 (RCV Θ W F bx rw_) a us → All2 (RCV Θ W F bx rw_) b vs → eqVals us vs = some r := by
  intro a
  induction a with
  | nil =>
    intro b r us vs h hu hv
    cases b with
    | nil => cases hu; cases hv; exact h
    | cons y b => simp [eqCells] at h
  | cons x a ih =>
    intro b r us vs h hu hv
    cases b with
    | nil => simp [eqCells] at h
    | cons y b =>
      cases hu with | cons h1 t1 =>
      cases hv with | cons h2 t2 =>
      cases x <;> try (simp [eqCells] at h; done)
      cases y <;> try (simp [eqCells] at h; done)
      rename_i p q
      cases p <;> cases q <;> simp only [eqCells] at h <;> try (cases h; done)
      · rename_i k n k' n'
        split at h
        · rename_i hk
          cases he : eqCells a b with
          | none => simp [he] at h
          | some r' =>
            simp only [he, Option.map_some] at h
            rw [rcv_int h1, rcv_int h2]
            simp only [eqVals, hk, if_true, ih b r' _ _ he t1 t2, Option.map_some]
            exact h
        · cases h
      · cases he : eqCells a b with
        | none => simp [he] at h
        | some r' =>
          simp only [he, Option.map_some] at h
          rw [rcv_bool h1, rcv_bool h2]
          simp only [eqVals, ih b r' _ _ he t1 t2, Option.map_some]
          exact h
      · cases he : eqCells a b with
        | none => simp [he] at h
        | some r' =>
          simp only [he, Option.map_some] at h
          rw [rcv_str h1, rcv_str h2]
          simp only [eqVals, ih b r' _ _ he t1 t2, Option.map_some]
          exact h
end

/-! ### Addresses, cells -/
theorem add_add {ad : Addr} (h : ad.spot = none) (n j : Nat) : (ad.add n).add j = ad.add (n + j) := by
  obtain ⟨b, o, sp⟩ := ad
  simp only at h
  subst h
  by_cases hn : n = 0
  · subst hn; simp [Addr.add]
  · by_cases hj : j = 0
    · subst hj; simp [Addr.add]
    · have hnj : ¬ (n + j = 0) := by omega
      simp [Addr.add, hn, hj, Nat.add_assoc]
theorem add_spot {ad : Addr} (h : ad.spot = none) (n : Nat) : (ad.add n).spot = none := by
  unfold Addr.add; split
  · exact h
  · rfl
theorem plain_add (b o n : Nat) : (⟨b, o, none⟩ : Addr).add n = ⟨b, o + n, none⟩ := by
  unfold Addr.add; split <;> simp_all
theorem flatMap_get {A B : Type} (f : A → List B) (sz : Nat) (hf : ∀ a, (f a).length = sz) : ∀ (l : List A) (i j : Nat) (a : A), l[i]? = some a → j < sz → (l.flatMap f)[i * sz + j]? = (f a)[j]? := by
  intro l
  induction l with
  | nil => intro i j a h; simp at h
  | cons x l ih =>
    intro i j a h hj
    cases i with
    | zero =>
      simp at h; subst h
      rw [List.flatMap_cons, List.getElem?_append_left (by rw [hf]; omega)]
      simp
    | succ i =>
      simp at h
      have := ih i j a h hj
      rw [List.flatMap_cons, List.getElem?_append_right (by rw [hf, Nat.succ_mul]; omega), hf]
      rw [show (i + 1) * sz + j - sz = i * sz + j by rw [Nat.succ_mul]; omega]
      exact this
theorem flatMap_length {A B : Type} (f : A → List B) (sz : Nat) (hf : ∀ a, (f a).length = sz) (l : List A) : (l.flatMap f).length = l.length * sz := by
  induction l with
  | nil => simp
  | cons x l ih => rw [List.flatMap_cons, List.length_append, hf, ih, List.length_cons, Nat.succ_mul]; omega
theorem elAt_get {Θ : Tab} {e : TypeId} {l : List (Θ.T e)} {i : Int} (h0 : 0 ≤ i) (h1 : i < (l.length : Int)) : l[i.toNat]? = some (elAt Θ e l i) := by
  have : i.toNat < l.length := by omega
  simp [elAt, atI, List.getElem?_eq_getElem this, List.getD_eq_getElem?_getD]

section
variable {Θ : Tab} {E : Env} {s : St Θ.T} {tm : Array Value} {W : World} {bx : Nat → Nat → Nat} {rw_ : Nat → Nat → Value} {P : Program}
theorem moved_ok {F : Nat → Prop} {n : Nat} {x v : AV Θ.T} {u : Value} (h : moved n x = some v) (hr : RAV Θ W F bx rw_ x u) :
    ∃ ad, u = .pointer (some ad) ∧ ad.spot = none ∧ RAV Θ W F bx rw_ v (.pointer (some (ad.add n))) := by
  unfold moved at h
  split at h <;> try (cases h; done)
  · rename_i k g off
    cases h
    cases hr
    exact ⟨_, rfl, rfl, by rw [plain_add]; rfl⟩
  · rename_i xs
    cases h
    obtain ⟨ad, rfl, hs, hf, hc⟩ := hr
    refine ⟨ad, rfl, hs, ad.add n, rfl, add_spot hs n, fun hne => by rw [Addr.add_block]; exact hf fun e => hne (by rw [e]; simp), fun j x hx => ?_⟩
    rw [add_add hs]
    exact hc (n + j) x (by simpa using hx)
  · rename_i r g i sz off
    cases h
    obtain ⟨b, m, cap, e1, h0, h1, rfl⟩ := hr
    exact ⟨_, rfl, rfl, b, m, cap, e1, h0, h1, by rw [plain_add, Nat.add_assoc]⟩
/-- Where an address of a state leads. -/
theorem cellsAt_ok (hS : Sim Θ E s tm W bx rw_) {x : AV Θ.T} {cs : List (CV Θ.T)} {u : Value} (h : s.cellsAt Θ x = some cs) (hr : RAV Θ W (FF E s bx rw_ W) bx rw_ x u) :
    ∃ ad us, u = .pointer (some ad) ∧ All2 (RCV Θ W (FF E s bx rw_ W) bx rw_) cs us ∧ ∀ j v, us[j]? = some v → W.cell? (ad.add j) = some v := by
  unfold St.cellsAt at h
  split at h <;> try (cases h; done)
  · rename_i k g off
    split at h <;> try (cases h; done)
    rename_i B hB
    split at h <;> try (cases h; done)
    rename_i hg
    cases h
    cases hr
    obtain ⟨_, cv, hh, ha⟩ := hS.boxes k B hB
    subst hg
    refine ⟨_, cv.drop off, rfl, ha.drop off, fun j v hj => ?_⟩
    rw [plain_add, cell_of_row W (bx k B.gen) (off + j) cv.toArray B.ty (0, 0) hh]
    simpa using hj
  · rename_i xs
    cases h
    obtain ⟨ad, rfl, hs, hf, hc⟩ := hr
    -- the machine's cells, one by one
    have key : ∀ (ys : List (PV Θ.T)) (n : Nat), (∀ j x, ys[j]? = some x → ∃ c, W.cell? (ad.add (n + j)) = some c ∧ Rep Θ W (FF E s bx rw_ W) c x) →
        ∃ us : List Value, All2 (fun y u => Rep Θ W (FF E s bx rw_ W) u y) ys us ∧ ∀ j v, us[j]? = some v → W.cell? (ad.add (n + j)) = some v := by
      intro ys
      induction ys with
      | nil => intro n _; exact ⟨[], .nil, fun j v hj => by simp at hj⟩
      | cons y ys ih =>
        intro n hy
        obtain ⟨c, hc1, hc2⟩ := hy 0 y (by simp)
        obtain ⟨us, h1, h2⟩ := ih (n + 1) (fun j x hx => by
          have := hy (j + 1) x (by simpa using hx)
          rwa [show n + (j + 1) = n + 1 + j by omega] at this)
        refine ⟨c :: us, .cons hc2 h1, fun j v hj => ?_⟩
        cases j with
        | zero => simp at hj; subst hj; exact hc1
        | succ j =>
          have := h2 j v (by simpa using hj)
          rwa [show n + 1 + j = n + (j + 1) by omega] at this
    obtain ⟨us, h1, h2⟩ := key xs 0 (fun j x hx => by simpa using hc j x hx)
    exact ⟨ad, us, rfl, All2.map_left h1, fun j v hj => by simpa using h2 j v hj⟩
  · rename_i r g i sz off
    split at h <;> try (cases h; done)
    rename_i R hR
    split at h <;> try (cases h; done)
    rename_i hg
    split at h <;> try (cases h; done)
    rename_i hz
    cases h
    subst hg
    subst hz
    obtain ⟨b, m, cap, e1, h0, h1, rfl⟩ := hr
    obtain ⟨_, us, hown, ha⟩ := hS.rows r R hR
    have hm : m = R.l.length := by
      rcases hown with h | ⟨ad, hv, _⟩
      · rcases h.2 with ⟨hv, _⟩ | ⟨g', cap', cur, hv, _⟩
        · rw [e1] at hv; cases hv
        · rw [e1] at hv; cases hv; rfl
      · rw [e1] at hv; cases hv; simp only [Int.ofNat_zero] at h1; omega
    subst hm
    have hgot := elAt_get (Θ := Θ) h0 h1
    have hus : us.length = R.l.length * Θ.sz R.e := hown.len
    have hin : i.toNat < R.l.length := by omega
    have hle : (i.toNat + 1) * Θ.sz R.e ≤ R.l.length * Θ.sz R.e := Nat.mul_le_mul_right _ hin
    rw [Nat.succ_mul] at hle
    have hlen : (((Θ.enc R.e (elAt Θ R.e R.l i)).drop off).map (CV.v (T := Θ.T))).length = Θ.sz R.e - off := by simp [Θ.length_enc]
    refine ⟨_, ((us.drop (i.toNat * Θ.sz R.e)).take (Θ.sz R.e)).drop off, rfl, ?_, fun j v hj => ?_⟩
    · refine All2.map_left ?_
      refine All2.drop ?_ off
      refine All2.of_get ?_ (fun j x u' hx hu' => ?_)
      · rw [Θ.length_enc, List.length_take, List.length_drop, hus]; omega
      · have hj : j < Θ.sz R.e := by
          have := (List.getElem?_eq_some_iff.1 hx).1
          rwa [Θ.length_enc] at this
        have hfm := flatMap_get (Θ.enc R.e) (Θ.sz R.e) (Θ.length_enc R.e) R.l i.toNat j _ hgot hj
        rw [hx] at hfm
        obtain ⟨u2, hu2, hrep⟩ := ha.get _ hfm
        rw [List.getElem?_take, if_pos hj, List.getElem?_drop] at hu'
        rw [hu2] at hu'
        cases hu'
        exact hrep
    · rw [plain_add]
      rw [List.getElem?_drop, List.getElem?_take] at hj
      split at hj
      · rw [List.getElem?_drop] at hj
        have := hown.cells e1 (i.toNat * Θ.sz R.e + (off + j)) v hj
        rw [plain_add] at this
        rw [show i.toNat * Θ.sz R.e + off + j = 0 + (i.toNat * Θ.sz R.e + (off + j)) by omega]
        exact this
      · cases hj
end
end Go.Den
