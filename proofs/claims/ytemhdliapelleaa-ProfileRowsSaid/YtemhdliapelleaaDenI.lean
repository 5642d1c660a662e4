/- Contracts of functions: what a call does to the caller's state. -/
import Derived.Test.YtemhdliapelleaaDenT
import Derived.Shelf.Abstract
namespace Go.Den
open Go Go.RowKit

/-! ### Ways out -/
inductive Ex where
  | normal
  | exit (id : Nat)
  | ret
def Ex.same : Ex → Ex → Bool
  | .normal, .normal => true
  | .exit a, .exit b => a == b
  | .ret, .ret => true
  | _, _ => false
/-- What a loop, or a function, hands on: one of its ways out. -/
def Outs (T : TypeId → Type) : List (Ex × Shape) → Type
  | [] => Empty
  | [a] => a.2.X T
  | a :: b :: r => a.2.X T ⊕ Outs T (b :: r)
section
variable {T : TypeId → Type}
def outOf : (es : List (Ex × Shape)) → Ex → St T → Option (Outs T es)
  | [], _, _ => none
  | [a], e, s => if a.1.same e then a.2.ext s else none
  | a :: b :: r, e, s => if a.1.same e then (match a.2.ext s with
      | some x => some (.inl x)
      | none => match outOf (b :: r) e s with
        | some x => some (.inr x)
        | none => none) else (match outOf (b :: r) e s with
      | some x => some (.inr x)
      | none => none)
def outTo {R : Type} : (es : List (Ex × Shape)) → (Ex → Shape → St T → R) → Outs T es → R
  | [], _, x => nomatch x
  | [a], K, x => K a.1 a.2 (a.2.st x)
  | a :: b :: r, K, x => Sum.elim (fun x => K a.1 a.2 (a.2.st x)) (fun x => outTo (b :: r) K x) x
end

/-! ### Rows that are given up: what they hold stands still from then on -/
section
variable {T : TypeId → Type}
def dropRows : List (Nat × RowS T) → List Nat → List (Nat × RowS T)
  | [], _ => []
  | (k, R) :: r, ks => if ks.contains k then dropRows r ks else (k, R) :: dropRows r ks
def dropBoxes : List (Nat × BoxS T) → List Nat → List (Nat × BoxS T)
  | [], _ => []
  | (k, B) :: r, ks => if ks.contains k then dropBoxes r ks else (k, B) :: dropBoxes r ks
def frC (s : St T) (ks : List Nat) : CV T → CV T
  | .row r g => if ks.contains r then (match look s.rows r with
    | some R => if R.gen = g then .v (.sl R.e R.l) else .row r g
    | none => .row r g) else .row r g
  | c => c
def frS (s : St T) (ks : List Nat) : CV T ⊕ List (CV T) → CV T ⊕ List (CV T)
  | .inl c => .inl (frC s ks c)
  | .inr cs => .inr (cs.map (frC s ks))
def frK (s : St T) (ks : List Nat) : KV T → KV T
  | .c x => .c (frC s ks x)
  | .agg cs => .agg (cs.map (frC s ks))
  | .cel xs => .cel xs
def frA (s : St T) (ks : List Nat) : AV T → AV T
  | .yld y l => .yld y (l.map (frK s ks))
  | .c x => .c (frC s ks x)
  | .agg cs => .agg (cs.map (frC s ks))
  | .tup l => .tup (l.map (frS s ks))
  | .mth f l => .mth f (l.map (frS s ks))
  | v => v
def St.freeze (s : St T) (ks : List Nat) : St T := ⟨s.slots.map (frA s ks), s.boxes.map fun b => (b.1, ⟨b.2.gen, b.2.ty, b.2.cells.map (frC s ks)⟩), dropRows s.rows ks⟩
end
section
variable {Θ : Tab} {E : Env} {s : St Θ.T} {tm : Array Value} {W : World} {bx : Nat → Nat → Nat} {rw_ : Nat → Nat → Value}
theorem look_dropRows {T : TypeId → Type} {l : List (Nat × RowS T)} {ks : List Nat} {r : Nat} {R : RowS T} (h : look (dropRows l ks) r = some R) : look l r = some R ∧ r ∉ ks := by
  induction l with
  | nil => simp [dropRows, look] at h
  | cons x l ih =>
    obtain ⟨k, R'⟩ := x
    simp only [dropRows] at h
    split at h
    · rename_i hk
      obtain ⟨h1, h2⟩ := ih h
      refine ⟨?_, h2⟩
      simp only [look]
      rw [if_neg]
      · exact h1
      · rintro rfl; exact h2 (by simpa using hk)
    · rename_i hk
      simp only [look] at h ⊢
      split at h
      · rename_i e; subst e; cases h; exact ⟨by simp, by simpa using hk⟩
      · rename_i e; rw [if_neg e]; exact ih h
theorem look_dropBoxes {T : TypeId → Type} {l : List (Nat × BoxS T)} {ks : List Nat} {r : Nat} {R : BoxS T} (h : look (dropBoxes l ks) r = some R) : look l r = some R ∧ r ∉ ks := by
  induction l with
  | nil => simp [dropBoxes, look] at h
  | cons x l ih =>
    obtain ⟨k, R'⟩ := x
    simp only [dropBoxes] at h
    split at h
    · rename_i hk
      obtain ⟨h1, h2⟩ := ih h
      refine ⟨?_, h2⟩
      simp only [look]
      rw [if_neg]
      · exact h1
      · rintro rfl; exact h2 (by simpa using hk)
    · rename_i hk
      simp only [look] at h ⊢
      split at h
      · rename_i e; subst e; cases h; exact ⟨by simp, by simpa using hk⟩
      · rename_i e; rw [if_neg e]; exact ih h
theorem look_map {A B : Type} (f : A → B) (l : List (Nat × A)) (k : Nat) : look (l.map fun b => (b.1, f b.2)) k = (look l k).map f := by
  induction l with
  | nil => rfl
  | cons x l ih =>
    obtain ⟨i, a⟩ := x
    simp only [List.map_cons, look]
    split
    · rfl
    · exact ih
theorem Sim.freeze (hS : Sim Θ E s tm W bx rw_) (ks : List Nat) : Sim Θ E (s.freeze ks) tm W bx rw_ := by
  have hlookB : ∀ k B', look (s.freeze ks).boxes k = some B' → ∃ B, look s.boxes k = some B ∧ B' = ⟨B.gen, B.ty, B.cells.map (frC s ks)⟩ := by
    intro k B' h
    have := look_map (fun b : BoxS Θ.T => (⟨b.gen, b.ty, b.cells.map (frC s ks)⟩ : BoxS Θ.T)) s.boxes k
    simp only [St.freeze] at h
    rw [this] at h
    cases hl : look s.boxes k with
    | none => simp [hl] at h
    | some B => simp [hl] at h; exact ⟨B, rfl, h.symm⟩
  have hF : ∀ b, FF E s bx rw_ W b → FF E (s.freeze ks) bx rw_ W b := by
    rintro b ⟨h1, h2, h3⟩
    refine ⟨h1, h2, ?_⟩
    rintro (⟨k, B', hB', e⟩ | ⟨r, R, hR, hb⟩)
    · obtain ⟨B, hB, rfl⟩ := hlookB k B' hB'
      exact h3 (.inl ⟨k, B, hB, e⟩)
    · exact h3 (.inr ⟨r, R, (look_dropRows hR).1, hb⟩)
  have hW : ∀ b, FF E s bx rw_ W b → W.heap[b]? = W.heap[b]? := fun _ _ => rfl
  have one : ∀ c u, RCV Θ W (FF E s bx rw_ W) bx rw_ c u → RCV Θ W (FF E (s.freeze ks) bx rw_ W) bx rw_ (frC s ks c) u := by
    intro c u h
    have same : RCV Θ W (FF E (s.freeze ks) bx rw_ W) bx rw_ c u := RCV.trans hF hW (fun _ _ => rfl) (fun _ _ => rfl) h
    unfold frC
    split
    · rename_i r g
      split
      · rename_i hks
        split
        · rename_i R hR
          split
          · rename_i hg
            subst hg
            have e : u = rw_ r R.gen := h
            rw [e]
            refine row_rep hS hF hR (fun b hb => ⟨.inr ((hS.rows r R hR).1 b hb), ?_, ?_⟩)
            · obtain ⟨_, us, hown, _⟩ := hS.rows r R hR
              exact hown.lt hb
            · rintro (⟨k, B', hB', e⟩ | ⟨r', R', hR', hb'⟩)
              · obtain ⟨B, hB, rfl⟩ := hlookB k B' hB'
                exact hS.br k B r R hB hR (by rw [hb, e])
              · obtain ⟨h1, h2⟩ := look_dropRows hR'
                have := hS.rr r R r' R' b hR h1 hb hb'
                subst this
                exact h2 (by simpa using hks)
          · exact same
        · exact same
      · exact same
    · exact same
  have many : ∀ cs us, All2 (RCV Θ W (FF E s bx rw_ W) bx rw_) cs us → All2 (RCV Θ W (FF E (s.freeze ks) bx rw_ W) bx rw_) (cs.map (frC s ks)) us := by
    intro cs us h
    induction h with
    | nil => exact .nil
    | cons h _ ih => exact .cons (one _ _ h) ih
  have sums : ∀ l us, All2 (RSum Θ W (FF E s bx rw_ W) bx rw_) l us → All2 (RSum Θ W (FF E (s.freeze ks) bx rw_ W) bx rw_) (l.map (frS s ks)) us := by
    intro l us h
    induction h with
    | nil => exact .nil
    | cons h _ ih =>
      rename_i a b _ _ _
      refine .cons ?_ ih
      cases a with
      | inl c => exact one _ _ h
      | inr cs => obtain ⟨us, e, ha⟩ := h; exact ⟨us, e, many _ _ ha⟩
  refine ⟨hS.below, fun k b hkb => ?_, fun r v hrv => ?_, hS.rwsl, fun k B' hB' => ?_, fun r R hR => ?_, ?_, ?_, ?_, by simp [St.freeze, hS.len], fun i => ?_⟩
  · obtain ⟨h1, h2⟩ := hS.pinB k b hkb
    refine ⟨h1, fun B' hB' h0 => ?_⟩
    obtain ⟨B, hB, rfl⟩ := hlookB k B' hB'
    exact h2 B hB h0
  · obtain ⟨h1, h2⟩ := hS.pinR r v hrv
    exact ⟨h1, fun R hR h0 => h2 R (look_dropRows hR).1 h0⟩
  · obtain ⟨B, hB, rfl⟩ := hlookB k B' hB'
    obtain ⟨h1, cv, hh, ha⟩ := hS.boxes k B hB
    exact ⟨h1, cv, hh, many _ _ ha⟩
  · obtain ⟨hob, us, ho, ha⟩ := hS.rows r R (look_dropRows hR).1
    exact ⟨hob, us, ho, ha.mono fun x u hx => Rep.mono hx hF hW⟩
  · intro k B1 k' B2 h1 h2 he
    obtain ⟨B, hB, rfl⟩ := hlookB k B1 h1
    obtain ⟨B', hB', rfl⟩ := hlookB k' B2 h2
    exact hS.bb k B k' B' hB hB' he
  · intro r R r' R' b hR hR' hb hb'
    exact hS.rr r R r' R' b (look_dropRows hR).1 (look_dropRows hR').1 hb hb'
  · intro k B1 r R h1 hR
    obtain ⟨B, hB, rfl⟩ := hlookB k B1 h1
    exact hS.br k B r R hB (look_dropRows hR).1
  · have hsl : (s.freeze ks).at_ i = frA s ks (s.at_ i) := by
      simp only [St.freeze, St.at_, List.getD_eq_getElem?_getD, List.getElem?_map]
      cases s.slots[i]? <;> rfl
    rw [hsl]
    have h := hS.slots i
    revert h
    generalize s.at_ i = v
    generalize tm.getD i undef = u
    intro h
    cases v with
    | c x => exact one _ _ h
    | agg cs => obtain ⟨us, e, ha⟩ := h; exact ⟨us, e, many _ _ ha⟩
    | tup l => obtain ⟨us, e, ha⟩ := h; exact ⟨us, e, sums _ _ ha⟩
    | mth f l => obtain ⟨us, e, ha⟩ := h; exact ⟨us, e, sums _ _ ha⟩
    | cel xs => exact RAV.trans (v := .cel xs) hF hW (fun _ _ => rfl) (fun _ _ => rfl) h
    | rel r g j sz off => exact RAV.trans (v := .rel r g j sz off) hF hW (fun _ _ => rfl) (fun _ _ => rfl) h
    | yld y l =>
      obtain ⟨lb, R, rec, e, hf, hr', ha⟩ := h
      refine ⟨lb, R, rec, e, hF _ hf, hr', ?_⟩
      revert ha
      generalize (R.live.map fun i => rec.tmps.getD i undef) = us
      intro ha
      induction ha with
      | nil => exact .nil
      | cons h _ ih =>
        rename_i a b _ _ _
        refine .cons ?_ ih
        cases a with
        | c c => exact one _ _ h
        | agg cs => obtain ⟨us, e, ha⟩ := h; exact ⟨us, e, many _ _ ha⟩
        | cel xs => exact RKV.trans (v := .cel xs) hF hW (fun _ _ => rfl) (fun _ _ => rfl) h
    | nilq e => exact h
    | skip => exact h
    | undef => exact h
end

/-! ### Behind a call: the callee's names turned to the caller's -/
section
variable {T : TypeId → Type}
def keyIn {B : Type} : List (Nat × B) → Nat → Bool
  | [], _ => false
  | (j, _) :: r, k => j == k || keyIn r k
def freshK (base k : Nat) : Nat := 10000 + 100 * base + k
def entB (s : St T) (hin : Shape) (xs : List (Nat × Nat × Nat)) (base k : Nat) : Option (Nat × Nat) :=
  if keyIn hin.boxes k then look xs k
  else if (s.noB (freshK base k) (s.nextB (freshK base k)) && Nat.blt (freshK base k) pin) then some (freshK base k, s.nextB (freshK base k)) else none
def renBs (s : St T) (hin : Shape) (xs : List (Nat × Nat × Nat)) (base : Nat) : List (Nat × BoxS T) → Option (List (Nat × Nat × Nat))
  | [] => some []
  | b :: r => match entB s hin xs base b.1 with
    | some kg => if b.2.gen == 0 then (match renBs s hin xs base r with
      | some l => some ((b.1, kg) :: l)
      | none => none) else none
    | none => none
def freshR (s : St T) (base r : Nat) : Option (CV T) :=
  if (s.noR (freshK base r) (s.nextR (freshK base r)) && Nat.blt (freshK base r) pin) then some (.row (freshK base r) (s.nextR (freshK base r))) else none
def entR (s : St T) (hin : Shape) (bs : List (Nat × CV T)) (base r : Nat) : Option (CV T) :=
  if keyIn hin.rows r then look bs r
  else if (Nat.ble (pin + pin) r && keyIn hin.rows (r - pin)) then (match look bs (r - pin) with
    | some c => match c with
      | .row q _ => if (s.noR q (s.nextR q) && (keyIn s.rows q)) then some (.row q (s.nextR q)) else none
      | _ => freshR s base (r % 100)
    | none => none)
  else freshR s base r
def renRs (s : St T) (hin : Shape) (bs : List (Nat × CV T)) (base : Nat) : List (Nat × RowS T) → Option (List (Nat × CV T))
  | [] => some []
  | b :: r => match entR s hin bs base b.1 with
    | some c => if b.2.gen == 0 then (match renRs s hin bs base r with
      | some l => some ((b.1, c) :: l)
      | none => none) else none
    | none => none
def renCaps (nB : List (Nat × Nat × Nat)) : List (Nat × Nat) → Option (List (Nat × Nat))
  | [] => some []
  | p :: r => if p.2 == 0 then (match look nB p.1 with
    | some kg => match renCaps nB r with
      | some l => some (kg :: l)
      | none => none
    | none => none) else none
def renC (nB : List (Nat × Nat × Nat)) (nR : List (Nat × CV T)) : CV T → Option (CV T)
  | .row r g => if g == 0 then look nR r else none
  | .box k g off => if g == 0 then (match look nB k with
    | some kg => some (.box kg.1 kg.2 off)
    | none => none) else none
  | .fn f caps => match renCaps nB caps with
    | some l => some (.fn f l)
    | none => none
  | c => some c
def renCs (nB : List (Nat × Nat × Nat)) (nR : List (Nat × CV T)) : List (CV T) → Option (List (CV T))
  | [] => some []
  | c :: r => match renC nB nR c with
    | some c' => match renCs nB nR r with
      | some l => some (c' :: l)
      | none => none
    | none => none
def renA (nB : List (Nat × Nat × Nat)) (nR : List (Nat × CV T)) : AV T → Option (AV T)
  | .c x => (renC nB nR x).map .c
  | .agg cs => (renCs nB nR cs).map .agg
  | .rel r g i sz off => if g == 0 then (match look nR r with
    | some c => match c with
      | .row q g' => some (.rel q g' i sz off)
      | _ => none
    | none => none) else none
  | _ => none
def renS (nB : List (Nat × Nat × Nat)) (nR : List (Nat × CV T)) : AV T → Option (CV T ⊕ List (CV T))
  | .c x => (renC nB nR x).map .inl
  | .agg cs => (renCs nB nR cs).map .inr
  | _ => none
def renSs (nB : List (Nat × Nat × Nat)) (nR : List (Nat × CV T)) : List (AV T) → Option (List (CV T ⊕ List (CV T)))
  | [] => some []
  | v :: r => match renS nB nR v with
    | some x => match renSs nB nR r with
      | some l => some (x :: l)
      | none => none
    | none => none
/-- What is handed back: one value, or a tuple. -/
def resA (nB : List (Nat × Nat × Nat)) (nR : List (Nat × CV T)) (l : List (AV T)) : Option (AV T) := match l with
  | [v] => renA nB nR v
  | l => (renSs nB nR l).map .tup
def newBs (nB : List (Nat × Nat × Nat)) (nR : List (Nat × CV T)) : List (Nat × BoxS T) → Option (List (Nat × BoxS T))
  | [] => some []
  | b :: r => match look nB b.1 with
    | some kg => match renCs nB nR b.2.cells with
      | some cs => match newBs nB nR r with
        | some l => some ((kg.1, ⟨kg.2, b.2.ty, cs⟩) :: l)
        | none => none
      | none => none
    | none => none
def newRs (nR : List (Nat × CV T)) : List (Nat × RowS T) → Option (List (Nat × RowS T))
  | [] => some []
  | b :: r => match look nR b.1 with
    | some c => match newRs nR r with
      | some l => match c with
        | .row q g => some ((q, ⟨g, b.2.e, b.2.l⟩) :: l)
        | .nil => some l
        | _ => none
      | none => none
    | none => none
def apartKs : List Nat → Bool
  | [] => true
  | k :: r => !(r.contains k) && apartKs r
def keysOf {B : Type} : List (Nat × B) → List Nat
  | [] => []
  | b :: r => b.1 :: keysOf r
def boxKs : List (Nat × Nat × Nat) → List Nat
  | [] => []
  | p :: r => p.2.1 :: boxKs r
def rowKs : List (Nat × CV T) → List Nat
  | [] => []
  | p :: r => match p.2 with
    | .row q _ => q :: rowKs r
    | _ => rowKs r
def lentBs (xs : List (Nat × Nat × Nat)) : List (Nat × Nat × List CT) → List Nat
  | [] => []
  | b :: r => match look xs b.1 with
    | some kg => kg.1 :: lentBs xs r
    | none => lentBs xs r
def lentRs (bs : List (Nat × CV T)) : List (Nat × Nat) → List Nat
  | [] => []
  | b :: r => match look bs b.1 with
    | some c => match c with
      | .row q _ => q :: lentRs bs r
      | _ => lentRs bs r
    | none => lentRs bs r
def flatC : CV T → Bool
  | .v (.sl _ _) => false
  | _ => true
def flatA : AV T → Bool
  | .c x => flatC x
  | .agg cs => cs.all flatC
  | .rel _ _ _ _ _ => true
  | .undef => true
  | _ => false
/-- Do elements of a type hold no address? -/
def flatE (Θ : Tab) (e : TypeId) : Bool := (Θ.E e).leaves.all Leaf.flat
def St.flat (fe : TypeId → Bool) (t : St T) : Bool := t.slots.all flatA && (t.boxes.all (fun b => b.2.cells.all flatC) && t.rows.all fun r => fe r.2.e)
/-- The keys of what is lent: apart from all keys of a function's own. -/
def Shape.lentOk (h : Shape) : Bool := h.boxes.all (fun b => Nat.ble pin b.1) && h.rows.all fun r => pinned r.1
def baseOf (dst : Option Nat) (xs : List (Nat × Nat × Nat)) : Nat := match dst with
  | some d => d
  | none => match xs with
    | [] => 9800
    | p :: _ => 9000 + p.2.1 % 800
/-- The caller's state behind a call: t is the state that the callee left (what it hands back; what was lent to it, and is new). -/
def after (fe : TypeId → Bool) (s : St T) (hin : Shape) (y : Ext T hin) (t : St T) (flat : Bool) (dst : Option Nat) : Option (St T) :=
  if (flat && !(t.flat fe)) then none else match renBs s hin y.xs (baseOf dst y.xs) t.boxes with
  | some nB => match renRs s hin y.bs (baseOf dst y.xs) t.rows with
    | some nR => match newBs nB nR t.boxes with
      | some bs => match newRs nR t.rows with
        | some rs => match resA nB nR t.slots with
          | some v => if ((apartKs (keysOf t.boxes) && apartKs (keysOf t.rows)) && (apartKs (boxKs nB) && apartKs (rowKs nR))) then some (St.put ⟨s.slots, bs ++ dropBoxes s.boxes (keysOf bs ++ lentBs y.xs hin.boxes), rs ++ dropRows s.rows (keysOf rs ++ lentRs y.bs hin.rows)⟩ dst v) else none
          | none => none
        | none => none
      | none => none
    | none => none
  | none => none
end
end Go.Den
