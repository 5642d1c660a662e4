/- The evaluator of the model's code on typed values, and that it tells the truth: part B. -/
import Derived.Shelf.Abstract
import Derived.Laws.IdiomStrings
import Derived.RangeFuncIn
import Derived.Test.YtbcejiobmeglgaaLibA
namespace Go.Den
open Go Go.RowKit
inductive CT where
  | hole (l : Leaf)
  | nil
  | e0
  | np
  | ni
  | row (r : Nat)
  | box (k off : Nat)
  | fn (f : Nat) (caps : List Nat)
inductive KT where
  | c (x : CT)
  | agg (l : List CT)
  | cel (ls : List Leaf)
inductive AT where
  | c (x : CT)
  | agg (l : List CT)
  | rel (r sz off : Nat)
  | cel (ls : List Leaf)
  | yld (y : Nat) (l : List KT)
  | undef
structure Shape where
  slots : List AT
  boxes : List (Nat × Nat × List CT)
  rows : List (Nat × Nat)
def slotsFrom (l : List (Nat × AT)) : Nat → Nat → List AT
  | _, 0 => []
  | i, n + 1 => (match look l i with
    | some t => t
    | none => .undef) :: slotsFrom l (i + 1) n
def slotsOf (n : Nat) (l : List (Nat × AT)) : List AT := slotsFrom l 0 n
def CT.hs : CT → List Leaf
  | .hole l => [l]
  | _ => []
def CT.hss : List CT → List Leaf
  | [] => []
  | t :: r => t.hs ++ CT.hss r
def KT.hs : KT → List Leaf
  | .c x => x.hs
  | .agg l => CT.hss l
  | .cel ls => ls
def KT.hss : List KT → List Leaf
  | [] => []
  | t :: r => t.hs ++ KT.hss r
def AT.hs : AT → List Leaf
  | .yld _ l => KT.hss l
  | .c x => x.hs
  | .agg l => CT.hss l
  | .rel _ _ _ => [.int .i64]
  | .cel ls => ls
  | .undef => []
def AT.hss : List AT → List Leaf
  | [] => []
  | t :: r => t.hs ++ AT.hss r
def boxHs : List (Nat × Nat × List CT) → List Leaf
  | [] => []
  | t :: r => CT.hss t.2.2 ++ boxHs r
def rowHs : List (Nat × Nat) → List Leaf
  | [] => []
  | t :: r => .sl t.2 :: rowHs r
def Shape.hs (h : Shape) : List Leaf := AT.hss h.slots ++ (boxHs h.boxes ++ rowHs h.rows)
def CT.plain : CT → Bool
  | .hole _ => true
  | .fn _ caps => caps.isEmpty
  | .nil => true
  | .e0 => true
  | .np => true
  | .ni => true
  | _ => false
def AT.plain : AT → Bool
  | .c x => x.plain
  | .agg l => l.all CT.plain
  | .rel _ _ _ => false
  | .cel _ => true
  | .yld _ _ => false
  | .undef => true
def plainIn (h : Shape) : Bool := (h.boxes.isEmpty && h.rows.isEmpty) && h.slots.all AT.plain
def AT.isCel : AT → Bool
  | .cel _ => true
  | _ => false
def Shape.cel (h : Shape) : Bool := h.slots.any AT.isCel
def Shape.X (T : TypeId → Type) (h : Shape) : Type := HT (Leaf.Ty T) h.hs
section
variable {T : TypeId → Type}
structure Pk (T : TypeId → Type) : Type where
  hs : List (CV T)
  bs : List (Nat × CV T)
  xs : List (Nat × Nat × Nat)
def Pk.and (p q : Pk T) : Pk T := ⟨p.hs ++ q.hs, p.bs ++ q.bs, p.xs ++ q.xs⟩
def St.curB (s : St T) (k g : Nat) : Bool := match look s.boxes k with
  | some B => B.gen == g
  | none => false
def capsTo : List Nat → List (Nat × Nat) → Option (List (Nat × Nat × Nat))
  | [], [] => some []
  | k :: ks, p :: r => match capsTo ks r with
    | some l => some ((k, p) :: l)
    | none => none
  | _, _ => none
def pickC : CT → CV T → Option (Pk T)
  | .hole _, c => some ⟨[c], [], []⟩
  | .nil, c => match c with
    | .nil => some ⟨[], [], []⟩
    | _ => none
  | .e0, c => match c with
    | .e0 => some ⟨[], [], []⟩
    | _ => none
  | .np, c => match c with
    | .np => some ⟨[], [], []⟩
    | _ => none
  | .ni, c => match c with
    | .ni => some ⟨[], [], []⟩
    | _ => none
  | .row r, c => some ⟨[], [(r, c)], []⟩
  | .box k off, c => match c with
    | .box k' g off' => if (off == off') then some ⟨[], [], [(k, k', g)]⟩ else none
    | _ => none
  | .fn f caps, c => match c with
    | .fn f' l => if (f == f') then (match capsTo caps l with
      | some xs => some ⟨[], [], xs⟩
      | none => none) else none
    | _ => none
def pickCs : List CT → List (CV T) → Option (Pk T)
  | [], l => match l with
    | [] => some ⟨[], [], []⟩
    | _ :: _ => none
  | t :: ts, l => match l with
    | [] => none
    | c :: cs => match pickC t c with
      | some p => match pickCs ts cs with
        | some q => some (p.and q)
        | none => none
      | none => none
def pickK : KT → KV T → Option (Pk T)
  | .c x, v => match v with
    | .c c => pickC x c
    | _ => none
  | .agg l, v => match v with
    | .agg cs => pickCs l cs
    | _ => none
  | .cel ls, v => match v with
    | .cel xs => if xs.length = ls.length then some ⟨xs.map .v, [], []⟩ else none
    | _ => none
def pickKs : List KT → List (KV T) → Option (Pk T)
  | [], l => match l with
    | [] => some ⟨[], [], []⟩
    | _ :: _ => none
  | t :: ts, l => match l with
    | [] => none
    | c :: cs => match pickK t c with
      | some p => match pickKs ts cs with
        | some q => some (p.and q)
        | none => none
      | none => none
def pickA : AT → AV T → Option (Pk T)
  | .yld y ts, v => match v with
    | .yld y' l => if (y == y') then pickKs ts l else none
    | _ => none
  | .undef, _ => some ⟨[], [], []⟩
  | .c x, v => match v with
    | .c c => pickC x c
    | _ => none
  | .agg l, v => match v with
    | .agg cs => pickCs l cs
    | _ => none
  | .rel r sz off, v => match v with
    | .rel r' g i sz' off' => if (sz == sz' && off == off') then some ⟨[.v (.int .i64 i)], [(r, .row r' g)], []⟩ else none
    | _ => none
  | .cel ls, v => match v with
    | .cel xs => if xs.length = ls.length then some ⟨xs.map .v, [], []⟩ else none
    | _ => none
def pickAs : List AT → List (AV T) → Option (Pk T)
  | [], l => match l with
    | [] => some ⟨[], [], []⟩
    | _ :: _ => none
  | t :: ts, l => match l with
    | [] => none
    | c :: cs => match pickA t c with
      | some p => match pickAs ts cs with
        | some q => some (p.and q)
        | none => none
      | none => none
def pickBs (s : St T) : List (Nat × Nat × List CT) → List (Nat × Nat × Nat) → Option (Pk T)
  | [], _ => some ⟨[], [], []⟩
  | t :: r, xs => match look xs t.1 with
    | some kg => match look s.boxes kg.1 with
      | some B => if (B.gen == kg.2 && B.ty == t.2.1) then (match pickCs t.2.2 B.cells with
        | some p => match pickBs s r (xs ++ p.xs) with
          | some q => some (p.and q)
          | none => none
        | none => none) else none
      | none => none
    | none => none
def bindOk (s : St T) : CV T → Bool
  | .nil => true
  | .row q g => match look s.rows q with
    | some R => R.gen == g
    | none => false
  | _ => false
def bindSame : CV T → CV T → Bool
  | .nil, .nil => true
  | .row q g, .row q' g' => q == q' && g == g'
  | _, _ => false
def bindApart : CV T → CV T → Bool
  | .row q _, .row q' _ => !(q == q')
  | _, _ => true
def bindsOk (s : St T) : List (Nat × CV T) → Bool
  | [] => true
  | (r, c) :: l => (bindOk s c && l.all fun p => if p.1 == r then bindSame c p.2 else bindApart c p.2) && bindsOk s l
def xsOk (s : St T) : List (Nat × Nat × Nat) → Bool
  | [] => true
  | (k, k', g) :: l => (s.curB k' g && l.all fun p => if p.1 == k then (p.2.1 == k' && p.2.2 == g) else !(p.2.1 == k')) && xsOk s l
def notMap (s : St T) : CV T → Bool
  | .row q _ => match look s.rows q with
    | some R => slE R.e
    | none => true
  | _ => true
def isRowC : CV T → Bool
  | .row _ _ => true
  | _ => false
def holeApart (bs : List (Nat × CV T)) : CV T → Bool
  | .row q _ => bs.all fun p => match p.2 with
    | .row q' _ => !(q == q')
    | _ => true
  | _ => true
def rowCs (bs : List (Nat × CV T)) : List (Nat × Nat) → Option (List (CV T))
  | [] => some []
  | (r, e) :: l => match look bs r with
    | some c => if slE e || isRowC c then (match rowCs bs l with
      | some cs => some (c :: cs)
      | none => none) else none
    | none => none
structure Ext (T : TypeId → Type) (h : Shape) : Type where
  x : h.X T
  hs : List (CV T)
  bs : List (Nat × CV T)
  xs : List (Nat × Nat × Nat)
def idBs : List (Nat × Nat × List CT) → List (Nat × Nat × Nat)
  | [] => []
  | t :: r => if Nat.ble pin t.1 then (t.1, t.1, 0) :: idBs r else idBs r
def idRs : List (Nat × Nat) → List (Nat × CV T)
  | [] => []
  | t :: r => if pinned t.1 then (t.1, .row t.1 0) :: idRs r else idRs r
def pickS (own : Bool) (h : Shape) (l : List (AV T)) : Option (Pk T) := match pickAs h.slots l with
  | some p => if own then some ⟨p.hs, idRs h.rows ++ p.bs, idBs h.boxes ++ p.xs⟩ else some p
  | none => none
def Shape.extG (own : Bool) (h : Shape) (s : St T) : Option (Ext T h) := match pickS own h s.slots with
  | some p => match pickBs s h.boxes p.xs with
    | some q => if (xsOk s (p.and q).xs && (bindsOk s (p.and q).bs && (p.and q).hs.all fun c => holeApart (p.and q).bs c && notMap s c)) then (match rowCs (p.and q).bs h.rows with
      | some cs => match HT.get s.get h.hs (p.hs ++ (q.hs ++ cs)) with
        | some x => some ⟨x, (p.and q).hs, (p.and q).bs, (p.and q).xs⟩
        | none => none
      | none => none) else none
    | none => none
  | none => none
def pinsOk (xs : List (Nat × Nat × Nat)) (bs : List (Nat × CV T)) : Bool := xs.all (fun p => Nat.blt p.1 pin || (p.1 == p.2.1 && p.2.2 == 0)) && bs.all fun p => !(pinned p.1) || match p.2 with
  | .row q g => p.1 == q && g == 0
  | _ => false
abbrev Shape.extB (h : Shape) (s : St T) : Option (Ext T h) := h.extG false s
def Shape.ext (h : Shape) (s : St T) : Option (h.X T) := match h.extG true s with
  | some y => if pinsOk y.xs y.bs then some y.x else none
  | none => none
def fillC : CT → List (PV T) → CV T × List (PV T)
  | .hole _, ps => match ps with
    | [] => (.nil, [])
    | p :: ps => (.v p, ps)
  | .nil, ps => (.nil, ps)
  | .e0, ps => (.e0, ps)
  | .np, ps => (.np, ps)
  | .ni, ps => (.ni, ps)
  | .row r, ps => (.row r 0, ps)
  | .box k off, ps => (.box k 0 off, ps)
  | .fn f caps, ps => (.fn f (caps.map fun k => (k, 0)), ps)
def fillCs : List CT → List (PV T) → List (CV T) × List (PV T)
  | [], ps => ([], ps)
  | t :: ts, ps => ((fillC t ps).1 :: (fillCs ts (fillC t ps).2).1, (fillCs ts (fillC t ps).2).2)
def intOfPV : PV T → Int
  | .int _ n => n
  | _ => 0
def fillK : KT → List (PV T) → KV T × List (PV T)
  | .c x, ps => (.c (fillC x ps).1, (fillC x ps).2)
  | .agg l, ps => (.agg (fillCs l ps).1, (fillCs l ps).2)
  | .cel ls, ps => (.cel (ps.take ls.length), ps.drop ls.length)
def fillKs : List KT → List (PV T) → List (KV T) × List (PV T)
  | [], ps => ([], ps)
  | t :: ts, ps => ((fillK t ps).1 :: (fillKs ts (fillK t ps).2).1, (fillKs ts (fillK t ps).2).2)
def fillA : AT → List (PV T) → AV T × List (PV T)
  | .yld y ts, ps => (.yld y (fillKs ts ps).1, (fillKs ts ps).2)
  | .undef, ps => (.undef, ps)
  | .c x, ps => (.c (fillC x ps).1, (fillC x ps).2)
  | .agg l, ps => (.agg (fillCs l ps).1, (fillCs l ps).2)
  | .rel r sz off, ps => match ps with
    | [] => (.undef, [])
    | p :: ps => (.rel r 0 (intOfPV p) sz off, ps)
  | .cel ls, ps => (.cel (ps.take ls.length), ps.drop ls.length)
def fillAs : List AT → List (PV T) → List (AV T) × List (PV T)
  | [], ps => ([], ps)
  | t :: ts, ps => ((fillA t ps).1 :: (fillAs ts (fillA t ps).2).1, (fillAs ts (fillA t ps).2).2)
def fillBs : List (Nat × Nat × List CT) → List (PV T) → List (Nat × BoxS T) × List (PV T)
  | [], ps => ([], ps)
  | t :: r, ps => ((t.1, ⟨0, t.2.1, (fillCs t.2.2 ps).1⟩) :: (fillBs r (fillCs t.2.2 ps).2).1, (fillBs r (fillCs t.2.2 ps).2).2)
def listOf (e : TypeId) : PV T → List (T e)
  | .sl e' l => if h : e' = e then h ▸ l else []
  | _ => []
def fillRs : List (Nat × Nat) → List (PV T) → List (Nat × RowS T)
  | [], _ => []
  | t :: r, ps => match ps with
    | [] => []
    | p :: ps => (t.1, ⟨0, t.2, listOf t.2 p⟩) :: fillRs r ps
def Shape.mk' (h : Shape) (ps : List (PV T)) : St T :=
  ⟨(fillAs h.slots ps).1, (fillBs h.boxes (fillAs h.slots ps).2).1, fillRs h.rows (fillBs h.boxes (fillAs h.slots ps).2).2⟩
def Shape.st (h : Shape) (x : h.X T) : St T := h.mk' (HT.list Leaf.mk h.hs x)
end
end Go.Den
namespace Go.Den
open Go Go.RowKit
section
variable {Θ : Tab} {E : Env} {s : St Θ.T} {tm : Array Value} {W : World} {bx : Nat → Nat → Nat} {rw_ : Nat → Nat → Value}
theorem row_rep (hS : Sim Θ E s tm W bx rw_) {F' : Nat → Prop} (hF : ∀ b, FF E s bx rw_ W b → F' b) {r : Nat} {R : RowS Θ.T} (hR : look s.rows r = some R) (hb : ∀ b, ob (rw_ r R.gen) = some b → F' b)
    (hsl : slE R.e = true) : Rep Θ W F' (rw_ r R.gen) (.sl R.e R.l) := by
  obtain ⟨_, us, hown0, har⟩ := hS.rows r R hR
  have hown := hown0.s hsl
  obtain ⟨⟨A, c, hv⟩, hpos⟩ := hown.form
  by_cases hl : R.l = []
  ·
    have hn : R.l.length = 0 := by rw [hl]; rfl
    rw [hn] at hv
    have hc0 : c = 0 → True := fun _ => trivial
    rw [hv, hl]
    refine .sl R.e [] A 0 c (fun _ _ => default) rfl (Nat.zero_le _) (fun hA => ?_) (fun h => absurd rfl h) (fun i j y x hy => by simp at hy)
    subst hA
    rcases hown with h | ⟨ad, hv', _⟩ | ⟨_, g', cap', cur, fz, hv', _⟩
    · rcases h.2 with ⟨hv', _⟩ | ⟨g', cap', cur, hv', _⟩
      · rw [hv] at hv'; cases hv'; rfl
      · rw [hv] at hv'; cases hv'
    · rw [hv] at hv'; cases hv'
    · rw [hv] at hv'; cases hv'
  · have hpos' : 0 < R.l.length := List.length_pos_iff.2 hl
    obtain ⟨b, cap, hv, hnc⟩ := hpos hpos'
    have hob : ob (rw_ r R.gen) = some b := by rw [hv]; simp [ob]; omega
    have hcap0 : cap ≠ 0 := by omega
    have hlen0 := hown0.len
    rw [hv] at hown ⊢
    refine .sl R.e R.l _ _ _ (fun i j => us.getD (i * Θ.sz R.e + j) undef) rfl hnc (fun h => by cases h) (fun hne => ⟨⟨b, 0, none⟩, rfl, rfl, fun _ => ⟨hb b hob, fun _ => (by obtain ⟨_, _, _, _, cur, fz, hg, hf, _⟩ := hown.block rfl hcap0; exact elOf_cells hg (hf.imp id fun h => h.1))⟩, fun i j hi hj => ?_⟩) (fun i j y x hy hx => ?_)
    · have hlen : i * Θ.sz R.e + j < us.length := by
        rw [hlen0]
        have := Nat.mul_le_mul_right (Θ.sz R.e) hi
        rw [Nat.succ_mul] at this
        omega
      have := hown.cells rfl (i * Θ.sz R.e + j) _ (List.getElem?_eq_getElem hlen)
      rw [this, List.getD_eq_getElem?_getD, List.getElem?_eq_getElem hlen]
      rfl
    · have hj : j < Θ.sz R.e := by
        have := (List.getElem?_eq_some_iff.1 hx).1
        rwa [Θ.length_enc] at this
      have hfm := flatMap_get (Θ.enc R.e) (Θ.sz R.e) (Θ.length_enc R.e) R.l i j y hy hj
      rw [hx] at hfm
      obtain ⟨u, hu, hr⟩ := har.get _ hfm
      rw [List.getD_eq_getElem?_getD, hu]
      exact Rep.mono hr hF (fun _ _ => rfl)
theorem leaf_ok (hS : Sim Θ E s tm W bx rw_) {F' : Nat → Prop} (hF : ∀ b, FF E s bx rw_ W b → F' b) {l : Leaf} {c : CV Θ.T} {u : Value} {x : l.Ty Θ.T} (h : s.get l c = some x) (hr : RCV Θ W (FF E s bx rw_ W) bx rw_ c u)
    (hb : ∀ p ∈ c.mR, ∀ R b, look s.rows p.1 = some R → ob (rw_ p.1 R.gen) = some b → F' b) (hnm : notMap s c = true) : Rep Θ W F' u (l.mk x) := by
  cases c with
  | v p => simp only [St.get] at h; rw [← Leaf.get_mk h]; exact Rep.mono hr hF (fun _ _ => rfl)
  | nil =>
    simp only [St.get] at h
    split at h <;> try (cases h; done)
    cases h
    have e : u = .slice none 0 0 := hr
    rw [e]; exact Rep.nil _ _ _ _
  | e0 =>
    simp only [St.get] at h
    split at h <;> try (cases h; done)
    cases h
    obtain ⟨A, rfl⟩ := hr
    exact Rep.e0 _ _ _ _ _
  | np => simp [St.get] at h
  | ni => simp [St.get] at h
  | nm => simp [St.get] at h
  | row r g =>
    simp only [St.get] at h
    split at h <;> try (cases h; done)
    rename_i R hR
    split at h <;> try (cases h; done)
    rename_i hg
    subst hg
    rw [← Leaf.get_mk h]
    have e : u = rw_ r R.gen := hr
    rw [e]
    exact row_rep hS hF hR (fun b hbb => hb (r, R.gen) (by simp [CV.mR]) R b hR hbb) (by simp only [notMap, hR] at hnm; exact hnm)
  | box k g off => simp [St.get] at h
  | fn f caps => simp [St.get] at h
end
inductive All3 {A B D : Type} (R : A → B → D → Prop) : List A → List B → List D → Prop where
  | nil : All3 R [] [] []
  | cons {a : A} {b : B} {d : D} {xs : List A} {bs : List B} {ds : List D} (h : R a b d) (t : All3 R xs bs ds) : All3 R (a :: xs) (b :: bs) (d :: ds)
theorem All3.split {A B D : Type} {R : A → B → D → Prop} : ∀ {a1 a2 : List A} {b1 b2 : List B} {ds : List D}, All3 R (a1 ++ a2) (b1 ++ b2) ds → a1.length = b1.length → ∃ d1 d2, ds = d1 ++ d2 ∧ All3 R a1 b1 d1 ∧ All3 R a2 b2 d2 := by
  intro a1
  induction a1 with
  | nil =>
    intro a2 b1 b2 ds h hl
    cases b1 with
    | nil => exact ⟨[], ds, rfl, .nil, h⟩
    | cons b b1 => simp at hl
  | cons a a1 ih =>
    intro a2 b1 b2 ds h hl
    cases b1 with
    | nil => simp at hl
    | cons b b1 =>
      cases h with | cons h t =>
      obtain ⟨d1, d2, e, h1, h2⟩ := ih t (by simpa using hl)
      exact ⟨_ :: d1, d2, by rw [e]; rfl, .cons h h1, h2⟩
theorem All3.right {A B D : Type} {R : A → B → D → Prop} {xs : List A} {bs : List B} {ds : List D} (h : All3 R xs bs ds) : All2 (fun b d => ∃ a, R a b d) bs ds := by
  induction h with
  | nil => exact .nil
  | cons h _ ih => exact .cons ⟨_, h⟩ ih
theorem All2.split {A B : Type} {R : A → B → Prop} : ∀ {a1 a2 : List A} {bs : List B}, All2 R (a1 ++ a2) bs → ∃ b1 b2, bs = b1 ++ b2 ∧ All2 R a1 b1 ∧ All2 R a2 b2 := by
  intro a1
  induction a1 with
  | nil => intro a2 bs h; exact ⟨[], bs, rfl, .nil, h⟩
  | cons a a1 ih =>
    intro a2 bs h
    cases h with | cons h t =>
    obtain ⟨b1, b2, e, h1, h2⟩ := ih t
    exact ⟨_ :: b1, b2, by rw [e]; rfl, .cons h h1, h2⟩
section
variable {Θ : Tab} {E : Env} {s : St Θ.T} {tm : Array Value} {W : World} {bx : Nat → Nat → Nat} {rw_ : Nat → Nat → Value}
theorem get_all3 : ∀ (ls : List Leaf) (cs : List (CV Θ.T)) (x : HT (Leaf.Ty Θ.T) ls), HT.get s.get ls cs = some x → All3 (fun l c p => ∃ y, s.get l c = some y ∧ p = l.mk y) ls cs (HT.list Leaf.mk ls x) := by
  intro ls
  induction ls with
  | nil =>
    intro cs x h
    have := HT.get_len _ _ _ _ h
    cases cs with
    | nil => exact .nil
    | cons c cs => simp at this
  | cons l ls ih =>
    intro cs x h
    have hlen := HT.get_len _ _ _ _ h
    cases cs with
    | nil => simp at hlen
    | cons c cs =>
      cases ls with
      | nil =>
        cases cs with
        | cons c2 cs => simp at hlen
        | nil =>
          rw [HT.get_one] at h
          exact .cons ⟨x, h, rfl⟩ .nil
      | cons l2 ls =>
        rw [HT.get_cons] at h
        split at h <;> try (cases h; done)
        rename_i a ha
        split at h <;> try (cases h; done)
        rename_i xs hxs
        cases h
        exact .cons ⟨a, ha, rfl⟩ (ih cs xs hxs)
theorem capsTo_spec : ∀ (ks : List Nat) (l : List (Nat × Nat)) (xs : List (Nat × Nat × Nat)), capsTo ks l = some xs → xs = ks.zip l ∧ ks.length = l.length := by
  intro ks
  induction ks with
  | nil => intro l xs h; cases l <;> simp [capsTo] at h; subst h; exact ⟨rfl, rfl⟩
  | cons k ks ih =>
    intro l xs h
    cases l with
    | nil => simp [capsTo] at h
    | cons p l =>
      simp only [capsTo] at h
      split at h <;> try (cases h; done)
      rename_i l' hl
      cases h
      obtain ⟨e1, e2⟩ := ih l l' hl
      exact ⟨by rw [e1]; rfl, by simp [e2]⟩
theorem pickC_len {t : CT} {c : CV Θ.T} {p : Pk Θ.T} (h : pickC t c = some p) : t.hs.length = p.hs.length := by
  cases t <;> simp only [pickC] at h
  · cases h; rfl
  · split at h <;> cases h; rfl
  · split at h <;> cases h; rfl
  · split at h <;> cases h; rfl
  · split at h <;> cases h; rfl
  · cases h; rfl
  · split at h <;> try (cases h; done)
    split at h <;> cases h; rfl
  · split at h <;> try (cases h; done)
    split at h <;> try (cases h; done)
    split at h <;> cases h; rfl
theorem pickCs_len : ∀ (ts : List CT) (cs : List (CV Θ.T)) (p : Pk Θ.T), pickCs ts cs = some p → (CT.hss ts).length = p.hs.length ∧ ts.length = cs.length := by
  intro ts
  induction ts with
  | nil => intro cs p h; cases cs <;> simp [pickCs] at h; subst h; exact ⟨rfl, rfl⟩
  | cons t ts ih =>
    intro cs p h
    cases cs with
    | nil => simp [pickCs] at h
    | cons c cs =>
      simp only [pickCs] at h
      split at h <;> try (cases h; done)
      rename_i p1 h1
      split at h <;> try (cases h; done)
      rename_i p2 h2
      cases h
      obtain ⟨e1, e2⟩ := ih cs p2 h2
      exact ⟨by simp [CT.hss, Pk.and, pickC_len h1, e1], by simp [e2]⟩
theorem pickK_len {t : KT} {v : KV Θ.T} {p : Pk Θ.T} (h : pickK t v = some p) : t.hs.length = p.hs.length := by
  cases t <;> simp only [pickK] at h
  · split at h <;> try (cases h; done)
    exact pickC_len h
  · split at h <;> try (cases h; done)
    exact (pickCs_len _ _ _ h).1
  · split at h <;> try (cases h; done)
    split at h <;> try (cases h; done)
    rename_i hl
    cases h; simp [KT.hs, hl]
theorem pickKs_len : ∀ (ts : List KT) (cs : List (KV Θ.T)) (p : Pk Θ.T), pickKs ts cs = some p → (KT.hss ts).length = p.hs.length := by
  intro ts
  induction ts with
  | nil => intro cs p h; cases cs <;> simp [pickKs] at h; subst h; rfl
  | cons t ts ih =>
    intro cs p h
    cases cs with
    | nil => simp [pickKs] at h
    | cons c cs =>
      simp only [pickKs] at h
      split at h <;> try (cases h; done)
      rename_i p1 h1
      split at h <;> try (cases h; done)
      rename_i p2 h2
      cases h
      simp [KT.hss, Pk.and, pickK_len h1, ih cs p2 h2]
theorem pickA_len {t : AT} {v : AV Θ.T} {p : Pk Θ.T} (h : pickA t v = some p) : t.hs.length = p.hs.length := by
  cases t <;> simp only [pickA] at h
  · split at h <;> try (cases h; done)
    exact pickC_len h
  · split at h <;> try (cases h; done)
    exact (pickCs_len _ _ _ h).1
  · split at h <;> try (cases h; done)
    split at h <;> cases h; rfl
  · split at h <;> try (cases h; done)
    split at h <;> try (cases h; done)
    rename_i hl
    cases h; simp [AT.hs, hl]
  · split at h <;> try (cases h; done)
    split at h <;> try (cases h; done)
    exact pickKs_len _ _ _ h
  · cases h; rfl
theorem pickAs_len : ∀ (ts : List AT) (vs : List (AV Θ.T)) (p : Pk Θ.T), pickAs ts vs = some p → (AT.hss ts).length = p.hs.length ∧ ts.length = vs.length := by
  intro ts
  induction ts with
  | nil => intro cs p h; cases cs <;> simp [pickAs] at h; subst h; exact ⟨rfl, rfl⟩
  | cons t ts ih =>
    intro cs p h
    cases cs with
    | nil => simp [pickAs] at h
    | cons c cs =>
      simp only [pickAs] at h
      split at h <;> try (cases h; done)
      rename_i p1 h1
      split at h <;> try (cases h; done)
      rename_i p2 h2
      cases h
      obtain ⟨e1, e2⟩ := ih cs p2 h2
      exact ⟨by simp [AT.hss, Pk.and, pickA_len h1, e1], by simp [e2]⟩
theorem pickBs_len : ∀ (ts : List (Nat × Nat × List CT)) (xs : List (Nat × Nat × Nat)) (p : Pk Θ.T), pickBs s ts xs = some p → (boxHs ts).length = p.hs.length := by
  intro ts
  induction ts with
  | nil => intro xs p h; cases h; rfl
  | cons t ts ih =>
    intro xs p h
    simp only [pickBs] at h
    split at h <;> try (cases h; done)
    split at h <;> try (cases h; done)
    split at h <;> try (cases h; done)
    split at h <;> try (cases h; done)
    rename_i p1 h1
    split at h <;> try (cases h; done)
    rename_i p2 h2
    cases h
    simp [boxHs, Pk.and, (pickCs_len _ _ _ h1).1, ih _ p2 h2]
end
def bxN (bx : Nat → Nat → Nat) (xs : List (Nat × Nat × Nat)) (k _ : Nat) : Nat := match look xs k with
  | some kg => bx kg.1 kg.2
  | none => 0
def rwN {T : TypeId → Type} (rw_ : Nat → Nat → Value) (bs : List (Nat × CV T)) (r _ : Nat) : Value := match look bs r with
  | some (.row q g) => rw_ q g
  | _ => .slice none 0 0
theorem look_append {B : Type} {l l' : List (Nat × B)} {k : Nat} {b : B} (h : look l k = some b) : look (l ++ l') k = some b := by
  induction l with
  | nil => cases h
  | cons x l ih =>
    obtain ⟨i, c⟩ := x
    simp only [List.cons_append, look] at h ⊢
    split
    · rename_i e; rw [if_pos e] at h; exact h
    · rename_i e; rw [if_neg e] at h; exact ih h
theorem xsOk_spec {T : TypeId → Type} {s : St T} : ∀ (xs : List (Nat × Nat × Nat)), xsOk s xs = true → (∀ p ∈ xs, s.curB p.2.1 p.2.2 = true) ∧ (∀ p ∈ xs, look xs p.1 = some p.2) ∧ ∀ p ∈ xs, ∀ q ∈ xs, p.1 ≠ q.1 → p.2.1 ≠ q.2.1 := by
  intro xs
  induction xs with
  | nil => intro _; exact ⟨fun p hp => (by cases hp), fun p hp => (by cases hp), fun p hp => (by cases hp)⟩
  | cons a xs ih =>
    intro h
    obtain ⟨k, k', g⟩ := a
    simp only [xsOk, Bool.and_eq_true, List.all_eq_true] at h
    obtain ⟨⟨h1, h2⟩, h3⟩ := h
    obtain ⟨i1, i2, i3⟩ := ih h3
    refine ⟨fun p hp => ?_, fun p hp => ?_, fun p hp q hq hne => ?_⟩
    · rcases List.mem_cons.1 hp with e | e
      · rw [e]; exact h1
      · exact i1 p e
    · rcases List.mem_cons.1 hp with e | e
      · rw [e]; simp [look]
      · simp only [look]
        have h2' := h2 p e
        split
        · rename_i ek
          rw [if_pos (by simpa using ek.symm)] at h2'
          simp only [Bool.and_eq_true, beq_iff_eq] at h2'
          obtain ⟨a1, a2⟩ := h2'
          rw [← a1, ← a2]
        · exact i2 p e
    · rcases List.mem_cons.1 hp with e | e
      · rcases List.mem_cons.1 hq with e' | e'
        · rw [e, e'] at hne; exact absurd rfl hne
        · have h2' := h2 q e'
          rw [e] at hne ⊢
          rw [if_neg (by simpa using fun x => hne x.symm)] at h2'
          simpa using fun x : k' = q.2.1 => by simp [x] at h2'
      · rcases List.mem_cons.1 hq with e' | e'
        · have h2' := h2 p e
          rw [e'] at hne ⊢
          rw [if_neg (by simpa using hne)] at h2'
          simpa using h2'
        · exact i3 p e q e' hne
section
variable {Θ : Tab} {s : St Θ.T} {W : World} {F F' : Nat → Prop} {bx bx' : Nat → Nat → Nat} {rw_ rw' : Nat → Nat → Value}
structure Names (Θ : Tab) (W : World) (F : Nat → Prop) (bx bx' : Nat → Nat → Nat) (rw_ rw' : Nat → Nat → Value) (bs : List (Nat × CV Θ.T)) (xs : List (Nat × Nat × Nat)) : Prop where
  box : ∀ p ∈ xs, bx' p.1 0 = bx p.2.1 p.2.2
  row : ∀ r c u, (r, c) ∈ bs → RCV Θ W F bx rw_ c u → u = rw' r 0
abbrev Good (Θ : Tab) (W : World) (F F' : Nat → Prop) (bx : Nat → Nat → Nat) (rw_ : Nat → Nat → Value) (c : CV Θ.T) (p : PV Θ.T) : Prop := ∀ u, RCV Θ W F bx rw_ c u → Rep Θ W F' u p
theorem Names.part {bs cs : List (Nat × CV Θ.T)} {xs ys : List (Nat × Nat × Nat)} (h : Names Θ W F bx bx' rw_ rw' bs xs) (h1 : ∀ p ∈ cs, p ∈ bs) (h2 : ∀ p ∈ ys, p ∈ xs) : Names Θ W F bx bx' rw_ rw' cs ys :=
  ⟨fun p hp => h.box p (h2 p hp), fun r c u hm => h.row r c u (h1 _ hm)⟩
theorem Names.left {p q : Pk Θ.T} (h : Names Θ W F bx bx' rw_ rw' (p.and q).bs (p.and q).xs) : Names Θ W F bx bx' rw_ rw' p.bs p.xs := h.part (fun _ hp => List.mem_append_left _ hp) (fun _ hp => List.mem_append_left _ hp)
theorem Names.right {p q : Pk Θ.T} (h : Names Θ W F bx bx' rw_ rw' (p.and q).bs (p.and q).xs) : Names Θ W F bx bx' rw_ rw' q.bs q.xs := h.part (fun _ hp => List.mem_append_right _ hp) (fun _ hp => List.mem_append_right _ hp)
theorem caps_are : ∀ (ks : List Nat) (l : List (Nat × Nat)), ks.length = l.length → (∀ p ∈ ks.zip l, bx' p.1 0 = bx p.2.1 p.2.2) →
    (l.map fun kg => Value.pointer (some ⟨bx kg.1 kg.2, 0, none⟩)) = (ks.map fun k => (k, 0)).map fun kg => Value.pointer (some ⟨bx' kg.1 kg.2, 0, none⟩) := by
  intro ks
  induction ks with
  | nil => intro l h _; cases l with | nil => rfl | cons a l => simp at h
  | cons k ks ih =>
    intro l h hb
    cases l with
    | nil => simp at h
    | cons a l =>
      simp only [List.map_cons]
      have := hb (k, a) (by simp)
      simp only at this
      rw [this, ih l (by simpa using h) (fun p hp => hb p (by simp [hp]))]
theorem fillC_ok {t : CT} {c : CV Θ.T} {p : Pk Θ.T} (h : pickC t c = some p) (hN : Names Θ W F bx bx' rw_ rw' p.bs p.xs) {ps1 : List (PV Θ.T)} (hg : All2 (Good Θ W F F' bx rw_) p.hs ps1) (ps2 : List (PV Θ.T)) :
    ∃ c', fillC t (ps1 ++ ps2) = (c', ps2) ∧ ∀ u, RCV Θ W F bx rw_ c u → RCV Θ W F' bx' rw' c' u := by
  cases t with
  | hole l =>
    simp only [pickC, Option.some.injEq] at h
    subst h
    cases hg with | cons h1 t1 =>
    cases t1
    exact ⟨_, rfl, fun u hu => h1 u hu⟩
  | nil =>
    simp only [pickC] at h
    split at h <;> try (cases h; done)
    cases h
    cases hg
    exact ⟨_, rfl, fun u hu => hu⟩
  | e0 =>
    simp only [pickC] at h
    split at h <;> try (cases h; done)
    cases h
    cases hg
    exact ⟨_, rfl, fun u hu => hu⟩
  | np =>
    simp only [pickC] at h
    split at h <;> try (cases h; done)
    cases h
    cases hg
    exact ⟨_, rfl, fun u hu => hu⟩
  | ni =>
    simp only [pickC] at h
    split at h <;> try (cases h; done)
    cases h
    cases hg
    exact ⟨_, rfl, fun u hu => hu⟩
  | row r =>
    simp only [pickC, Option.some.injEq] at h
    subst h
    cases hg
    exact ⟨_, rfl, fun u hu => hN.row r c u (by simp) hu⟩
  | box k off =>
    simp only [pickC] at h
    split at h <;> try (cases h; done)
    split at h <;> try (cases h; done)
    rename_i k' g off' hc
    cases h
    cases hg
    simp only [beq_iff_eq] at hc
    subst hc
    refine ⟨_, rfl, fun u hu => ?_⟩
    have e : u = .pointer (some ⟨bx k' g, off, none⟩) := hu
    show u = .pointer (some ⟨bx' k 0, off, none⟩)
    have := hN.box (k, k', g) (by simp)
    simp only at this
    rw [this]; exact e
  | fn f caps =>
    simp only [pickC] at h
    split at h <;> try (cases h; done)
    split at h <;> try (cases h; done)
    rename_i f' l hc
    split at h <;> try (cases h; done)
    rename_i xs hxs
    cases h
    cases hg
    simp only [beq_iff_eq] at hc
    subst hc
    obtain ⟨hz, hlen⟩ := capsTo_spec _ _ _ hxs
    refine ⟨_, rfl, fun u hu => ?_⟩
    have e : u = .func (.func f) #[] (l.map fun kg => Value.pointer (some ⟨bx kg.1 kg.2, 0, none⟩)).toArray := hu
    show u = .func (.func f) #[] ((caps.map fun k => (k, 0)).map fun kg => Value.pointer (some ⟨bx' kg.1 kg.2, 0, none⟩)).toArray
    rw [← caps_are caps l hlen (fun p hp => hN.box p (by rw [hz]; exact hp))]; exact e
theorem fillCs_ok : ∀ (ts : List CT) (cs : List (CV Θ.T)) (p : Pk Θ.T), pickCs ts cs = some p → Names Θ W F bx bx' rw_ rw' p.bs p.xs → ∀ (ps1 : List (PV Θ.T)), All2 (Good Θ W F F' bx rw_) p.hs ps1 → ∀ ps2 : List (PV Θ.T),
    ∃ cs', fillCs ts (ps1 ++ ps2) = (cs', ps2) ∧ ∀ us, All2 (RCV Θ W F bx rw_) cs us → All2 (RCV Θ W F' bx' rw') cs' us := by
  intro ts
  induction ts with
  | nil =>
    intro cs p h _ ps1 hg ps2
    cases cs with
    | cons c cs => simp [pickCs] at h
    | nil => simp [pickCs] at h; subst h; cases hg; exact ⟨[], rfl, fun us h => by cases h; exact .nil⟩
  | cons t ts ih =>
    intro cs p h hN ps1 hg ps2
    cases cs with
    | nil => simp [pickCs] at h
    | cons c cs =>
      simp only [pickCs] at h
      split at h <;> try (cases h; done)
      rename_i p1 h1
      split at h <;> try (cases h; done)
      rename_i p2 h2
      cases h
      obtain ⟨q1, q2, e, g1, g2⟩ := All2.split hg
      subst e
      obtain ⟨c', f1, r1⟩ := fillC_ok h1 (Names.left hN) g1 (q2 ++ ps2)
      obtain ⟨cs', f2, r2⟩ := ih cs p2 h2 (Names.right hN) q2 g2 ps2
      refine ⟨c' :: cs', ?_, fun us hu => ?_⟩
      · simp only [fillCs, List.append_assoc, f1, f2]
      · cases hu with | cons a b => exact .cons (r1 _ a) (r2 _ b)
theorem fillK_ok (hFF : ∀ b, F b → F' b) {t : KT} {v : KV Θ.T} {p : Pk Θ.T} (h : pickK t v = some p) (hN : Names Θ W F bx bx' rw_ rw' p.bs p.xs) {ps1 : List (PV Θ.T)} (hg : All2 (Good Θ W F F' bx rw_) p.hs ps1) (ps2 : List (PV Θ.T)) :
    ∃ v', fillK t (ps1 ++ ps2) = (v', ps2) ∧ ∀ u, RKV Θ W F bx rw_ v u → RKV Θ W F' bx' rw' v' u := by
  cases t with
  | c x =>
    simp only [pickK] at h
    split at h <;> try (cases h; done)
    obtain ⟨c', f1, r1⟩ := fillC_ok h hN hg ps2
    exact ⟨.c c', by simp only [fillK, f1], fun u hu => r1 u hu⟩
  | agg l =>
    simp only [pickK] at h
    split at h <;> try (cases h; done)
    obtain ⟨cs', f1, r1⟩ := fillCs_ok _ _ _ h hN _ hg ps2
    exact ⟨.agg cs', by simp only [fillK, f1], fun u ⟨us, e, ha⟩ => ⟨us, e, r1 us ha⟩⟩
  | cel ls =>
    simp only [pickK] at h
    split at h <;> try (cases h; done)
    rename_i xs
    split at h <;> try (cases h; done)
    rename_i hl
    cases h
    have hlen : ps1.length = ls.length := by rw [← hl]; have := hg.length; simp at this; exact this.symm
    refine ⟨.cel ps1, by simp only [fillK]; rw [← hlen]; simp, fun u hu => ?_⟩
    obtain ⟨ad, e, hsp, hF, hc⟩ := hu
    have hne : ps1 ≠ [] → xs ≠ [] := fun h e => h (by
      have : xs.length = 0 := by rw [e]; rfl
      exact List.eq_nil_of_length_eq_zero (by omega))
    refine ⟨ad, e, hsp, fun h => hFF _ (hF (hne h)), fun j p hp => ?_⟩
    obtain ⟨c0, hc0, hgd⟩ := hg.get' j hp
    rw [List.getElem?_map] at hc0
    cases hx : xs[j]? with
    | none => simp [hx] at hc0
    | some x =>
      simp [hx] at hc0
      obtain ⟨c, h1, h2⟩ := hc j x hx
      exact ⟨c, h1, hgd c (by rw [← hc0]; exact h2)⟩
theorem fillKs_ok (hFF : ∀ b, F b → F' b) : ∀ (ts : List KT) (cs : List (KV Θ.T)) (p : Pk Θ.T), pickKs ts cs = some p → Names Θ W F bx bx' rw_ rw' p.bs p.xs → ∀ (ps1 : List (PV Θ.T)), All2 (Good Θ W F F' bx rw_) p.hs ps1 → ∀ ps2 : List (PV Θ.T),
    ∃ cs', fillKs ts (ps1 ++ ps2) = (cs', ps2) ∧ ∀ us, All2 (RKV Θ W F bx rw_) cs us → All2 (RKV Θ W F' bx' rw') cs' us := by
  intro ts
  induction ts with
  | nil =>
    intro cs p h _ ps1 hg ps2
    cases cs with
    | cons c cs => simp [pickKs] at h
    | nil => simp [pickKs] at h; subst h; cases hg; exact ⟨[], rfl, fun us h => by cases h; exact .nil⟩
  | cons t ts ih =>
    intro cs p h hN ps1 hg ps2
    cases cs with
    | nil => simp [pickKs] at h
    | cons c cs =>
      simp only [pickKs] at h
      split at h <;> try (cases h; done)
      rename_i p1 h1
      split at h <;> try (cases h; done)
      rename_i p2 h2
      cases h
      obtain ⟨q1, q2, e, g1, g2⟩ := All2.split hg
      subst e
      obtain ⟨c', f1, r1⟩ := fillK_ok hFF h1 (Names.left hN) g1 (q2 ++ ps2)
      obtain ⟨cs', f2, r2⟩ := ih cs p2 h2 (Names.right hN) q2 g2 ps2
      refine ⟨c' :: cs', ?_, fun us hu => ?_⟩
      · simp only [fillKs, List.append_assoc, f1, f2]
      · cases hu with | cons a b => exact .cons (r1 _ a) (r2 _ b)
theorem fillA_ok (hFF : ∀ b, F b → F' b) {t : AT} {v : AV Θ.T} {p : Pk Θ.T} (h : pickA t v = some p) (hN : Names Θ W F bx bx' rw_ rw' p.bs p.xs) {ps1 : List (PV Θ.T)} (hg : All2 (Good Θ W F F' bx rw_) p.hs ps1) (ps2 : List (PV Θ.T)) :
    ∃ v', fillA t (ps1 ++ ps2) = (v', ps2) ∧ ∀ u, RAV Θ W F bx rw_ v u → RAV Θ W F' bx' rw' v' u := by
  cases t with
  | undef =>
    simp only [pickA, Option.some.injEq] at h
    subst h
    cases hg
    exact ⟨_, rfl, fun u _ => trivial⟩
  | c x =>
    simp only [pickA] at h
    split at h <;> try (cases h; done)
    obtain ⟨c', f1, r1⟩ := fillC_ok h hN hg ps2
    exact ⟨.c c', by simp only [fillA, f1], fun u hu => r1 u hu⟩
  | agg l =>
    simp only [pickA] at h
    split at h <;> try (cases h; done)
    obtain ⟨cs', f1, r1⟩ := fillCs_ok _ _ _ h hN _ hg ps2
    exact ⟨.agg cs', by simp only [fillA, f1], fun u ⟨us, e, ha⟩ => ⟨us, e, r1 us ha⟩⟩
  | rel r sz off =>
    simp only [pickA] at h
    split at h <;> try (cases h; done)
    rename_i r' g i sz' off'
    split at h <;> try (cases h; done)
    rename_i hc
    simp only [Bool.and_eq_true, beq_iff_eq] at hc
    obtain ⟨e1, e2⟩ := hc
    subst e1 e2
    cases h
    cases hg with | cons h1 t1 =>
    cases t1
    rename_i q
    have hq : q = .int .i64 i := by
      have := h1 (.int .i64 i) (.int _ _)
      cases this; rfl
    subst hq
    refine ⟨_, rfl, fun u hu => ?_⟩
    obtain ⟨b, n, cap, e1, h0, h2, e2⟩ := hu
    have hrow := hN.row r (.row r' g) (rw_ r' g) (by simp) rfl
    exact ⟨b, n, cap, by rw [← hrow]; exact e1, h0, h2, e2⟩
  | cel ls =>
    simp only [pickA] at h
    split at h <;> try (cases h; done)
    rename_i xs
    split at h <;> try (cases h; done)
    rename_i hl
    cases h
    have hlen : ps1.length = ls.length := by rw [← hl]; have := hg.length; simp at this; exact this.symm
    refine ⟨.cel ps1, by simp only [fillA]; rw [← hlen]; simp, fun u hu => ?_⟩
    obtain ⟨ad, e, hsp, hF, hc⟩ := hu
    have hne : ps1 ≠ [] → xs ≠ [] := fun h e => h (by
      have : xs.length = 0 := by rw [e]; rfl
      exact List.eq_nil_of_length_eq_zero (by omega))
    refine ⟨ad, e, hsp, fun h => hFF _ (hF (hne h)), fun j p hp => ?_⟩
    obtain ⟨c0, hc0, hgd⟩ := hg.get' j hp
    rw [List.getElem?_map] at hc0
    cases hx : xs[j]? with
    | none => simp [hx] at hc0
    | some x =>
      simp [hx] at hc0
      obtain ⟨c, h1, h2⟩ := hc j x hx
      exact ⟨c, h1, hgd c (by rw [← hc0]; exact h2)⟩
  | yld y ts =>
    simp only [pickA] at h
    split at h <;> try (cases h; done)
    rename_i y' l
    split at h <;> try (cases h; done)
    rename_i hy
    have hy : y = y' := by simpa using hy
    subst hy
    obtain ⟨l', f1, r1⟩ := fillKs_ok hFF _ _ _ h hN _ hg ps2
    refine ⟨.yld y l', by simp only [fillA, f1], fun u hu => ?_⟩
    obtain ⟨lb, R, rec, e, hf, hr, ha⟩ := hu
    exact ⟨lb, R, rec, e, hFF _ hf, hr, r1 _ ha⟩
theorem fillAs_ok (hFF : ∀ b, F b → F' b) : ∀ (ts : List AT) (vs : List (AV Θ.T)) (p : Pk Θ.T), pickAs ts vs = some p → Names Θ W F bx bx' rw_ rw' p.bs p.xs → ∀ (ps1 : List (PV Θ.T)), All2 (Good Θ W F F' bx rw_) p.hs ps1 → ∀ ps2 : List (PV Θ.T),
    ∃ vs', fillAs ts (ps1 ++ ps2) = (vs', ps2) ∧ vs'.length = vs.length ∧ ∀ i u, RAV Θ W F bx rw_ (vs.getD i .undef) u → RAV Θ W F' bx' rw' (vs'.getD i .undef) u := by
  intro ts
  induction ts with
  | nil =>
    intro vs p h _ ps1 hg ps2
    cases vs with
    | cons c cs => simp [pickAs] at h
    | nil => simp [pickAs] at h; subst h; cases hg; exact ⟨[], rfl, rfl, fun i u _ => by simp [RAV]⟩
  | cons t ts ih =>
    intro vs p h hN ps1 hg ps2
    cases vs with
    | nil => simp [pickAs] at h
    | cons v vs =>
      simp only [pickAs] at h
      split at h <;> try (cases h; done)
      rename_i p1 h1
      split at h <;> try (cases h; done)
      rename_i p2 h2
      cases h
      obtain ⟨q1, q2, e, g1, g2⟩ := All2.split hg
      subst e
      obtain ⟨v', f1, r1⟩ := fillA_ok hFF h1 (Names.left hN) g1 (q2 ++ ps2)
      obtain ⟨vs', f2, l2, r2⟩ := ih vs p2 h2 (Names.right hN) q2 g2 ps2
      refine ⟨v' :: vs', ?_, by simp [l2], fun i u hu => ?_⟩
      · simp only [fillAs, List.append_assoc, f1, f2]
      · cases i with
        | zero => simpa using r1 u (by simpa using hu)
        | succ i => simpa using r2 i u (by simpa using hu)
theorem fillBs_ok (ys : List (Nat × Nat × Nat)) : ∀ (ts : List (Nat × Nat × List CT)) (xs : List (Nat × Nat × Nat)) (p : Pk Θ.T), pickBs s ts xs = some p → Names Θ W F bx bx' rw_ rw' p.bs p.xs → (∀ k v, look (xs ++ p.xs) k = some v → look ys k = some v) → ∀ (ps1 : List (PV Θ.T)), All2 (Good Θ W F F' bx rw_) p.hs ps1 → ∀ ps2 : List (PV Θ.T),
    ∃ bs', fillBs ts (ps1 ++ ps2) = (bs', ps2) ∧ ∀ k B', look bs' k = some B' → ∃ kg B, look ys k = some kg ∧ look s.boxes kg.1 = some B ∧ B.gen = kg.2 ∧ B'.gen = 0 ∧ B'.ty = B.ty ∧ ∀ us, All2 (RCV Θ W F bx rw_) B.cells us → All2 (RCV Θ W F' bx' rw') B'.cells us := by
  intro ts
  induction ts with
  | nil => intro xs p h _ _ ps1 hg ps2; cases h; cases hg; exact ⟨[], rfl, fun k B' h => by simp [look] at h⟩
  | cons t ts ih =>
    intro xs p h hN hys ps1 hg ps2
    simp only [pickBs] at h
    split at h <;> try (cases h; done)
    rename_i kg hkg
    split at h <;> try (cases h; done)
    rename_i B hB
    split at h <;> try (cases h; done)
    rename_i hty
    split at h <;> try (cases h; done)
    rename_i p1 h1
    split at h <;> try (cases h; done)
    rename_i p2 h2
    cases h
    simp only [Bool.and_eq_true, beq_iff_eq] at hty
    obtain ⟨hgen, hty⟩ := hty
    obtain ⟨q1, q2, e, g1, g2⟩ := All2.split hg
    subst e
    obtain ⟨cs', f1, r1⟩ := fillCs_ok _ _ _ h1 (Names.left hN) q1 g1 (q2 ++ ps2)
    obtain ⟨bs', f2, r2⟩ := ih _ p2 h2 (Names.right hN) (fun k v hv => hys k v (by simpa [Pk.and, List.append_assoc] using hv)) q2 g2 ps2
    refine ⟨(t.1, ⟨0, t.2.1, cs'⟩) :: bs', ?_, fun k B' hk => ?_⟩
    · simp only [fillBs, List.append_assoc, f1, f2]
    · simp only [look] at hk
      split at hk
      · rename_i e
        subst e
        cases hk
        exact ⟨kg, B, hys _ _ (look_append hkg), hB, hgen, rfl, hty.symm, r1⟩
      · exact r2 k B' hk
theorem fillRs_ok : ∀ (ts : List (Nat × Nat)) (bs : List (Nat × CV Θ.T)) (cs : List (CV Θ.T)), rowCs bs ts = some cs → ∀ (ps : List (PV Θ.T)), All3 (fun l c p => ∃ y, s.get l c = some y ∧ p = l.mk y) (rowHs ts) cs ps →
    ∀ r R', look (fillRs ts ps) r = some R' → ∃ c, look bs r = some c ∧ R'.gen = 0 ∧ s.get (.sl R'.e) c = some R'.l ∧ (slE R'.e || isRowC c) = true := by
  intro ts
  induction ts with
  | nil => intro bs cs _ ps _ r R' h; simp [fillRs, look] at h
  | cons t ts ih =>
    intro bs cs hc ps h3 r R' h
    obtain ⟨r0, e0⟩ := t
    simp only [rowCs] at hc
    split at hc <;> try (cases hc; done)
    rename_i c hl
    split at hc <;> try (cases hc; done)
    rename_i hsr
    split at hc <;> try (cases hc; done)
    rename_i cs' hcs
    cases hc
    cases h3 with | cons h1 t1 =>
    obtain ⟨y, hy, hp⟩ := h1
    subst hp
    simp only [fillRs, look] at h
    split at h
    · rename_i e
      subst e
      cases h
      refine ⟨c, hl, rfl, ?_, hsr⟩
      rw [hy]
      simp [Leaf.mk, listOf]
      rfl
    · exact ih bs cs' hcs _ t1 r R' h
theorem fillBs_keys : ∀ (ts : List (Nat × Nat × List CT)) (ps : List (PV Θ.T)) (k : Nat) (B' : BoxS Θ.T), look (fillBs ts ps).1 k = some B' → B'.gen = 0 ∧ ∃ t ∈ ts, t.1 = k := by
  intro ts
  induction ts with
  | nil => intro ps k B' h; simp [fillBs, look] at h
  | cons t ts ih =>
    intro ps k B' h
    simp only [fillBs, look] at h
    split at h
    · rename_i e; cases h; exact ⟨rfl, t, by simp, e⟩
    · obtain ⟨h1, t', h2, h3⟩ := ih _ k B' h
      exact ⟨h1, t', by simp [h2], h3⟩
theorem bindsOk_spec : ∀ (bs : List (Nat × CV Θ.T)), bindsOk s bs = true → (∀ p ∈ bs, bindOk s p.2 = true) ∧ (∀ p ∈ bs, ∀ q ∈ bs, p.1 ≠ q.1 → bindApart p.2 q.2 = true) ∧ ∀ p ∈ bs, ∃ c, look bs p.1 = some c ∧ (c = p.2 ∨ bindSame c p.2 = true) := by
  intro bs
  induction bs with
  | nil => intro _; exact ⟨fun p hp => (by cases hp), fun p hp => (by cases hp), fun p hp => (by cases hp)⟩
  | cons a bs ih =>
    intro h
    obtain ⟨r, c⟩ := a
    simp only [bindsOk, Bool.and_eq_true, List.all_eq_true] at h
    obtain ⟨⟨h1, h2⟩, h3⟩ := h
    obtain ⟨i1, i2, i3⟩ := ih h3
    have sym : ∀ x y : CV Θ.T, bindApart x y = true → bindApart y x = true := by
      intro x y hxy
      cases x with
      | row q g =>
        cases y with
        | row q' g' =>
          have : ¬ q = q' := by simpa [bindApart] using hxy
          simpa [bindApart] using fun e : q' = q => this e.symm
        | _ => rfl
      | _ => cases y <;> rfl
    refine ⟨fun p hp => ?_, fun p hp q hq hne => ?_, fun p hp => ?_⟩
    · rcases List.mem_cons.1 hp with e | e
      · rw [e]; exact h1
      · exact i1 p e
    · rcases List.mem_cons.1 hp with e | e
      · rcases List.mem_cons.1 hq with e' | e'
        · rw [e, e'] at hne; exact absurd rfl hne
        · have := h2 q e'
          rw [e] at hne ⊢
          rw [if_neg (by simpa using fun x => hne x.symm)] at this
          exact this
      · rcases List.mem_cons.1 hq with e' | e'
        · have := h2 p e
          rw [e'] at hne ⊢
          rw [if_neg (by simpa using hne)] at this
          exact sym _ _ this
        · exact i2 p e q e' hne
    · rcases List.mem_cons.1 hp with e | e
      · rw [e]; exact ⟨c, by simp [look], .inl rfl⟩
      · by_cases hr : r = p.1
        · have := h2 p e
          rw [if_pos (by simpa using hr.symm)] at this
          exact ⟨c, by simp [look, hr], .inr this⟩
        · obtain ⟨c', h4, h5⟩ := i3 p e
          exact ⟨c', by simp only [look]; rw [if_neg hr]; exact h4, h5⟩
end
end Go.Den
namespace Go.Den
open Go Go.RowKit
section
variable {T : TypeId → Type}
theorem lenC (t : CT) (a b : List (PV T)) (hl : a.length = t.hs.length) : (fillC t (a ++ b)).2 = b := by
  cases t with
  | hole l => cases a with | nil => simp [CT.hs] at hl | cons y a => cases a with | nil => rfl | cons z a => simp [CT.hs] at hl
  | _ => (have : a = [] := List.eq_nil_of_length_eq_zero (by simpa [CT.hs] using hl)); subst this; rfl
theorem lenCs : ∀ (ts : List CT) (a b : List (PV T)), a.length = (CT.hss ts).length → (fillCs ts (a ++ b)).2 = b := by
  intro ts
  induction ts with
  | nil => intro a b hl; have : a = [] := List.eq_nil_of_length_eq_zero (by simpa [CT.hss] using hl); subst this; rfl
  | cons t ts ih =>
    intro a b hl
    simp only [CT.hss, List.length_append] at hl
    have ea : a = a.take t.hs.length ++ a.drop t.hs.length := (List.take_append_drop _ _).symm
    rw [ea, List.append_assoc]
    simp only [fillCs]
    rw [lenC t _ _ (by simp; omega), ih _ _ (by simp; omega)]
theorem lenK (t : KT) (a b : List (PV T)) (hl : a.length = t.hs.length) : (fillK t (a ++ b)).2 = b := by
  cases t with
  | c x => exact lenC x a b hl
  | agg l => exact lenCs l a b hl
  | cel ls => simp only [KT.hs] at hl; simp only [fillK]; rw [← hl]; simp
theorem lenKs : ∀ (ts : List KT) (a b : List (PV T)), a.length = (KT.hss ts).length → (fillKs ts (a ++ b)).2 = b := by
  intro ts
  induction ts with
  | nil => intro a b hl; have : a = [] := List.eq_nil_of_length_eq_zero (by simpa [KT.hss] using hl); subst this; rfl
  | cons t ts ih =>
    intro a b hl
    simp only [KT.hss, List.length_append] at hl
    have ea : a = a.take t.hs.length ++ a.drop t.hs.length := (List.take_append_drop _ _).symm
    rw [ea, List.append_assoc]
    simp only [fillKs]
    rw [lenK t _ _ (by simp; omega), ih _ _ (by simp; omega)]
theorem lenA (t : AT) (a b : List (PV T)) (hl : a.length = t.hs.length) : (fillA t (a ++ b)).2 = b := by
  cases t with
  | undef => have : a = [] := List.eq_nil_of_length_eq_zero (by simpa [AT.hs] using hl); subst this; rfl
  | c x => exact lenC x a b hl
  | agg l => exact lenCs l a b hl
  | rel r sz off => cases a with | nil => simp [AT.hs] at hl | cons y a => cases a with | nil => rfl | cons z a => simp [AT.hs] at hl
  | cel ls => simp only [AT.hs] at hl; simp only [fillA]; rw [← hl]; simp
  | yld y ts => exact lenKs ts a b hl
theorem lenAs : ∀ (ts : List AT) (a b : List (PV T)), a.length = (AT.hss ts).length → (fillAs ts (a ++ b)).2 = b := by
  intro ts
  induction ts with
  | nil => intro a b hl; have : a = [] := List.eq_nil_of_length_eq_zero (by simpa [AT.hss] using hl); subst this; rfl
  | cons t ts ih =>
    intro a b hl
    simp only [AT.hss, List.length_append] at hl
    have ea : a = a.take t.hs.length ++ a.drop t.hs.length := (List.take_append_drop _ _).symm
    rw [ea, List.append_assoc]
    simp only [fillAs]
    rw [lenA t _ _ (by simp; omega), ih _ _ (by simp; omega)]
theorem lenBs : ∀ (ts : List (Nat × Nat × List CT)) (a b : List (PV T)), a.length = (boxHs ts).length → (fillBs ts (a ++ b)).2 = b := by
  intro ts
  induction ts with
  | nil => intro a b hl; have : a = [] := List.eq_nil_of_length_eq_zero (by simpa [boxHs] using hl); subst this; rfl
  | cons t ts ih =>
    intro a b hl
    simp only [boxHs, List.length_append] at hl
    have ea : a = a.take (CT.hss t.2.2).length ++ a.drop (CT.hss t.2.2).length := (List.take_append_drop _ _).symm
    rw [ea, List.append_assoc]
    simp only [fillBs]
    rw [lenCs t.2.2 _ _ (by simp; omega), ih _ _ (by simp; omega)]
end
section
variable {Θ : Tab} {E : Env} {s : St Θ.T} {tm : Array Value} {W : World} {bx : Nat → Nat → Nat} {rw_ : Nat → Nat → Value}
structure Told (Θ : Tab) (s : St Θ.T) (h : Shape) (y : Ext Θ.T h) : Prop where
  keyB : ∀ k B', look (h.st y.x).boxes k = some B' → B'.gen = 0 ∧ ∃ kg B, look y.xs k = some kg ∧ look s.boxes kg.1 = some B ∧ B.gen = kg.2 ∧ B'.ty = B.ty
  keyR : ∀ r R', look (h.st y.x).rows r = some R' → ∃ c, look y.bs r = some c ∧ R'.gen = 0 ∧ s.get (.sl R'.e) c = some R'.l ∧ (slE R'.e || isRowC c) = true
  cur : ∀ p ∈ y.xs, s.curB p.2.1 p.2.2 = true
  apart : ∀ p ∈ y.xs, ∀ q ∈ y.xs, p.1 ≠ q.1 → p.2.1 ≠ q.2.1
  one : ∀ p ∈ y.xs, look y.xs p.1 = some p.2
  bok : ∀ p ∈ y.bs, bindOk s p.2 = true
  bap : ∀ p ∈ y.bs, ∀ q ∈ y.bs, p.1 ≠ q.1 → bindApart p.2 q.2 = true
  bone : ∀ p ∈ y.bs, ∃ c, look y.bs p.1 = some c ∧ (c = p.2 ∨ bindSame c p.2 = true)
  hap : ∀ c ∈ y.hs, holeApart y.bs c = true
  hnm : ∀ c ∈ y.hs, notMap s c = true
theorem curB_look {k g : Nat} (h : s.curB k g = true) : ∃ B, look s.boxes k = some B ∧ B.gen = g := by
  unfold St.curB at h
  split at h
  · rename_i B hB; exact ⟨B, hB, by simpa using h⟩
  · cases h
theorem pickS_split {own : Bool} {h : Shape} {l : List (AV Θ.T)} {p : Pk Θ.T} (hp : pickS own h l = some p) : ∃ p0, pickAs h.slots l = some p0 ∧ p.hs = p0.hs ∧ (∀ c ∈ p0.bs, c ∈ p.bs) ∧ ∀ c ∈ p0.xs, c ∈ p.xs := by
  unfold pickS at hp
  split at hp <;> try (cases hp; done)
  rename_i p0 h0
  split at hp
  · cases hp; exact ⟨p0, h0, rfl, fun c hc => List.mem_append_right _ hc, fun c hc => List.mem_append_right _ hc⟩
  · cases hp; exact ⟨_, h0, rfl, fun c hc => hc, fun c hc => hc⟩
theorem extB_split {own : Bool} {h : Shape} {y : Ext Θ.T h} (hy : h.extG own s = some y) : ∃ p q cs, pickS own h s.slots = some p ∧ pickBs s h.boxes p.xs = some q ∧ xsOk s (p.and q).xs = true ∧ bindsOk s (p.and q).bs = true ∧ ((p.and q).hs.all fun c => holeApart (p.and q).bs c && notMap s c) = true ∧
    rowCs (p.and q).bs h.rows = some cs ∧ HT.get s.get h.hs (p.hs ++ (q.hs ++ cs)) = some y.x ∧ y.hs = (p.and q).hs ∧ y.bs = (p.and q).bs ∧ y.xs = (p.and q).xs := by
  unfold Shape.extG at hy
  split at hy <;> try (cases hy; done)
  rename_i p hp
  split at hy <;> try (cases hy; done)
  rename_i q hq
  split at hy <;> try (cases hy; done)
  rename_i hok
  split at hy <;> try (cases hy; done)
  rename_i cs hcs
  split at hy <;> try (cases hy; done)
  rename_i x hx
  cases hy
  simp only [Bool.and_eq_true] at hok
  exact ⟨p, q, cs, hp, hq, hok.1, hok.2.1, hok.2.2, hcs, hx, rfl, rfl, rfl⟩
theorem fill_split {own : Bool} {h : Shape} {y : Ext Θ.T h} (hy : h.extG own s = some y) : ∃ p q cs ps1 ps2 ps3, pickS own h s.slots = some p ∧ pickBs s h.boxes p.xs = some q ∧ rowCs y.bs h.rows = some cs ∧ y.hs = p.hs ++ q.hs ∧ y.bs = p.bs ++ q.bs ∧ y.xs = p.xs ++ q.xs ∧
    All3 (fun l c pv => ∃ z, s.get l c = some z ∧ pv = l.mk z) (AT.hss h.slots) p.hs ps1 ∧ All3 (fun l c pv => ∃ z, s.get l c = some z ∧ pv = l.mk z) (boxHs h.boxes) q.hs ps2 ∧ All3 (fun l c pv => ∃ z, s.get l c = some z ∧ pv = l.mk z) (rowHs h.rows) cs ps3 ∧
    (h.st y.x).slots = (fillAs h.slots (ps1 ++ (ps2 ++ ps3))).1 ∧ (h.st y.x).boxes = (fillBs h.boxes (ps2 ++ ps3)).1 ∧ (h.st y.x).rows = fillRs h.rows ps3 := by
  obtain ⟨p, q, cs, hp, hq, _, _, _, hcs, hx, e1, e2, e3⟩ := extB_split hy
  have h3 := get_all3 _ _ _ hx
  obtain ⟨p0, hp0, hph, _, _⟩ := pickS_split hp
  have hpl : (AT.hss h.slots).length = p.hs.length := by rw [hph]; exact (pickAs_len _ _ _ hp0).1
  have hql := pickBs_len _ _ _ hq
  obtain ⟨ps1, ps23, ea, g1, h3'⟩ := All3.split h3 hpl
  obtain ⟨ps2, ps3, eb, g2, g3⟩ := All3.split h3' hql
  subst eb
  have l1 : ps1.length = (AT.hss h.slots).length := by rw [hpl]; exact (All2.length g1.right).symm
  have l2 : ps2.length = (boxHs h.boxes).length := by rw [hql]; exact (All2.length g2.right).symm
  refine ⟨p, q, cs, ps1, ps2, ps3, hp, hq, by rw [e2]; exact hcs, e1, e2, e3, g1, g2, g3, ?_, ?_, ?_⟩
  · unfold Shape.st Shape.mk'; rw [ea]
  · unfold Shape.st Shape.mk'; rw [ea]; simp only; rw [lenAs _ _ _ l1]
  · unfold Shape.st Shape.mk'; rw [ea]; simp only; rw [lenAs _ _ _ l1, lenBs _ _ _ l2]
theorem told {own : Bool} {h : Shape} {y : Ext Θ.T h} (hy : h.extG own s = some y) : Told Θ s h y := by
  obtain ⟨p, q, cs, ps1, ps2, ps3, hp, hq, hcs, e1, e2, e3, g1, g2, g3, t1, t2, t3⟩ := fill_split hy
  obtain ⟨p', q', cs', hp', hq', hxs, hbs, hha, _, _, e1', e2', e3'⟩ := extB_split hy
  rw [← e3'] at hxs
  rw [← e2'] at hbs
  rw [← e1', ← e2'] at hha
  obtain ⟨x1, x2, x3⟩ := xsOk_spec _ hxs
  obtain ⟨b1, b2, b3⟩ := bindsOk_spec _ hbs
  simp only [List.all_eq_true, Bool.and_eq_true] at hha
  refine ⟨?_, ?_, x1, x3, x2, b1, b2, b3, fun c hc => (hha c hc).1, fun c hc => (hha c hc).2⟩
  · intro k B' hk
    have hk' := hk
    rw [t2] at hk'
    have good : ∀ (ls : List Leaf) (cs : List (CV Θ.T)) (ps : List (PV Θ.T)), All3 (fun l c pv => ∃ z, s.get l c = some z ∧ pv = l.mk z) ls cs ps → All2 (fun (_ : CV Θ.T) (_ : PV Θ.T) => True) cs ps := by
      intro ls cs ps h
      induction h with
      | nil => exact .nil
      | cons _ _ ih => exact .cons trivial ih
    have key : ∀ (ts : List (Nat × Nat × List CT)) (xs : List (Nat × Nat × Nat)) (p : Pk Θ.T) (ps : List (PV Θ.T)), pickBs s ts xs = some p → (∀ k v, look (xs ++ p.xs) k = some v → look y.xs k = some v) → look (fillBs ts ps).1 k = some B' → B'.gen = 0 ∧ ∃ kg B, look y.xs k = some kg ∧ look s.boxes kg.1 = some B ∧ B.gen = kg.2 ∧ B'.ty = B.ty := by
      intro ts
      induction ts with
      | nil => intro xs p ps _ _ h; simp [fillBs, look] at h
      | cons t ts ih =>
        intro xs p ps hpk hys hl
        simp only [pickBs] at hpk
        split at hpk <;> try (cases hpk; done)
        rename_i kg hkg
        split at hpk <;> try (cases hpk; done)
        rename_i B hB
        split at hpk <;> try (cases hpk; done)
        rename_i hty
        split at hpk <;> try (cases hpk; done)
        rename_i p1 h1
        split at hpk <;> try (cases hpk; done)
        rename_i p2 h2
        cases hpk
        simp only [Bool.and_eq_true, beq_iff_eq] at hty
        simp only [fillBs, look] at hl
        split at hl
        · rename_i e
          subst e
          cases hl
          exact ⟨rfl, kg, B, hys _ _ (look_append hkg), hB, hty.1, hty.2.symm⟩
        · exact ih _ p2 _ h2 (fun k v hv => hys k v (by simpa [Pk.and, List.append_assoc] using hv)) hl
    exact key _ _ _ _ hq (fun k v hv => by rw [e3]; exact hv) hk'
  · intro r R' hr
    rw [t3] at hr
    exact fillRs_ok h.rows y.bs cs hcs ps3 g3 r R' hr
theorem ext_base (hS : Sim Θ E s tm W bx rw_) {own : Bool} {h : Shape} {y : Ext Θ.T h} (hy : h.extG own s = some y) (E' : Env) (hK : Keeps E' W) (hG : Globs Θ E') (hF : ∀ b, FF E s bx rw_ W b → E'.F b ∨ E'.Own b)
    (hH : ∀ q g R b, CV.row q g ∈ y.hs → look s.rows q = some R → ob (rw_ q R.gen) = some b → E'.F b ∨ E'.Own b)
    (hOB : ∀ k B', look (h.st y.x).boxes k = some B' → E'.Own (bxN bx y.xs k 0))
    (hOR : ∀ r R' b, look (h.st y.x).rows r = some R' → ob (rwN rw_ y.bs r 0) = some b → E'.Own b)
    (hPB : ∀ k b, E'.PB k b → pin ≤ k ∧ ∀ B', look (h.st y.x).boxes k = some B' → bxN bx y.xs k 0 = b)
    (hPR : ∀ r v, E'.PR r v → pinned r = true ∧ ∀ R', look (h.st y.x).rows r = some R' → rwN rw_ y.bs r 0 = v) :
    Sim Θ E' (h.st y.x) tm W (bxN bx y.xs) (rwN rw_ y.bs) := by
  have ht := told hy
  obtain ⟨p, q, cs, ps1, ps2, ps3, hp, hq, hcs, e1, e2, e3, g1, g2, g3, t1, t2, t3⟩ := fill_split hy
  generalize hteq : h.st y.x = t at *
  have keyB : ∀ k B', look t.boxes k = some B' → B'.gen = 0 ∧ ∃ kg B, look y.xs k = some kg ∧ look s.boxes kg.1 = some B ∧ B.gen = kg.2 ∧ bxN bx y.xs k B'.gen = bx kg.1 B.gen := by
    intro k B' hk
    obtain ⟨h1, kg, B, h2, h3, h4, _⟩ := ht.keyB k B' (by rw [hteq]; exact hk)
    exact ⟨h1, kg, B, h2, h3, h4, by simp only [bxN, h2, h4]⟩
  have keyR2 : ∀ r R', look t.rows r = some R' → ∀ b, ob (rwN rw_ y.bs r R'.gen) = some b → ∃ q R, look y.bs r = some (.row q R.gen) ∧ look s.rows q = some R ∧ ob (rw_ q R.gen) = some b := by
    intro r R' hr b hb
    obtain ⟨c, hl, hg, _⟩ := ht.keyR r R' (by rw [hteq]; exact hr)
    simp only [rwN, hl] at hb
    cases c with
    | row q g =>
      have hbo := ht.bok _ (mem_of_look hl)
      simp only [bindOk] at hbo
      split at hbo
      · rename_i R hR
        have : R.gen = g := by simpa using hbo
        subst this
        exact ⟨q, R, hl, hR, hb⟩
      · cases hbo
    | _ => simp [ob] at hb
  have hMut : ∀ b, Mut t (bxN bx y.xs) (rwN rw_ y.bs) b → Mut s bx rw_ b := by
    rintro b (⟨k, B', hk, e⟩ | ⟨r, R', hr, hb⟩)
    · obtain ⟨_, kg, B, _, hB, _, e2⟩ := keyB k B' hk
      exact .inl ⟨kg.1, B, hB, by rw [← e2]; exact e⟩
    · obtain ⟨q, R, _, hR, hb'⟩ := keyR2 r R' hr b hb
      exact .inr ⟨q, R, hR, hb'⟩
  have hFF : ∀ b, FF E s bx rw_ W b → FF E' t (bxN bx y.xs) (rwN rw_ y.bs) W b := fun b hb => ⟨hF b hb, hb.2.1, fun hm => hb.2.2 (hMut b hm)⟩
  have hlt : ∀ r R b, look s.rows r = some R → ob (rw_ r R.gen) = some b → b < W.heap.size := by
    intro r R b hR hb
    obtain ⟨_, us, hown, _⟩ := hS.rows r R hR
    exact hown.lt hb
  have hN : ∀ F : Nat → Prop, Names Θ W F bx (bxN bx y.xs) rw_ (rwN rw_ y.bs) y.bs y.xs := by
    intro F
    refine ⟨fun p hp => ?_, fun r c u hm hu => ?_⟩
    · simp only [bxN, ht.one p hp]
    · have hb := ht.bok _ hm
      obtain ⟨c', hl, hsame⟩ := ht.bone _ hm
      simp only at hl hb hsame
      simp only [rwN, hl]
      rcases hsame with e | hsame
      · subst e
        cases c' with
        | row q g => exact hu
        | nil => exact hu
        | _ => simp [bindOk] at hb
      · cases c' <;> cases c <;> simp [bindSame] at hsame
        · exact hu
        · obtain ⟨e1, e2⟩ := hsame
          subst e1 e2
          exact hu
  have hgood : ∀ (l : Leaf) (c : CV Θ.T) (pv : PV Θ.T), (∃ z, s.get l c = some z ∧ pv = l.mk z) → c ∈ y.hs → Good Θ W (FF E s bx rw_ W) (FF E' t (bxN bx y.xs) (rwN rw_ y.bs) W) bx rw_ c pv := by
    rintro l c pv ⟨z, hz, rfl⟩ hmem u hu
    refine leaf_ok hS hFF hz hu ?_ (ht.hnm c hmem)
    intro pr hpr R b hR hb
    have hap := ht.hap c hmem
    cases c with
    | row q0 g0 =>
      simp only [CV.mR, List.mem_singleton] at hpr
      subst hpr
      simp only at hR hb
      refine ⟨hH q0 g0 R b hmem hR hb, hlt _ _ _ hR hb, ?_⟩
      rintro (⟨k, B', hk, e⟩ | ⟨r, R', hr, hb'⟩)
      · obtain ⟨_, kg, B, _, hB, _, e2⟩ := keyB k B' hk
        exact hS.br kg.1 B q0 R hB hR (by rw [hb, ← e, e2])
      · obtain ⟨q, R2, hlk, hR2, hb2⟩ := keyR2 r R' hr b hb'
        have := hS.rr q0 R q R2 b hR hR2 hb hb2
        simp only [holeApart, List.all_eq_true] at hap
        have h4 := hap _ (mem_of_look hlk)
        simp at h4
        exact h4 this
    | _ => simp [CV.mR] at hpr
  have hgoods : ∀ (ls : List Leaf) (cs : List (CV Θ.T)) (ps : List (PV Θ.T)), All3 (fun l c p => ∃ z, s.get l c = some z ∧ p = l.mk z) ls cs ps → (∀ c ∈ cs, c ∈ y.hs) → All2 (Good Θ W (FF E s bx rw_ W) (FF E' t (bxN bx y.xs) (rwN rw_ y.bs) W) bx rw_) cs ps := by
    intro ls cs ps h3 hc
    induction h3 with
    | nil => exact .nil
    | cons h t ih => exact .cons (hgood _ _ _ h (hc _ (by simp))) (ih fun c hc' => hc c (by simp [hc']))
  have gd1 := hgoods _ _ _ g1 fun c hc => by rw [e1]; exact List.mem_append_left _ hc
  have gd2 := hgoods _ _ _ g2 fun c hc => by rw [e1]; exact List.mem_append_right _ hc
  have hN1 := hN (FF E s bx rw_ W)
  obtain ⟨p0, hp0, hph, hpb, hpx⟩ := pickS_split hp
  rw [hph] at gd1
  obtain ⟨vs', f1, fl, fr⟩ := fillAs_ok hFF _ _ _ hp0 (hN1.part (fun c hc => by rw [e2]; exact List.mem_append_left _ (hpb c hc)) (fun c hc => by rw [e3]; exact List.mem_append_left _ (hpx c hc))) ps1 gd1 (ps2 ++ ps3)
  obtain ⟨bs', f2, fb⟩ := fillBs_ok y.xs _ _ _ hq (hN1.part (fun c hc => by rw [e2]; exact List.mem_append_right _ hc) (fun c hc => by rw [e3]; exact List.mem_append_right _ hc)) (fun k v hv => by rw [e3]; exact hv) ps2 gd2 ps3
  rw [f1] at t1
  rw [f2] at t2
  simp only at t1 t2
  refine ⟨hK, hG, fun k b hkb => ?_, fun r v hrv => ?_, ?_, ?_, ?_, ?_, ?_, ?_, by rw [t1, fl, hS.len], ?_⟩
  · obtain ⟨h1, h2⟩ := hPB k b hkb
    exact ⟨h1, fun B hB _ => h2 B hB⟩
  · obtain ⟨h1, h2⟩ := hPR r v hrv
    exact ⟨h1, fun R hR _ => h2 R hR⟩
  · intro r g
    simp only [rwN]
    split
    · exact hS.rwsl _ _
    · exact .inl ⟨_, _, _, rfl⟩
  · intro k B' hk
    obtain ⟨hg0, kg0, B0, hl0, hB0, hgg, e0⟩ := keyB k B' hk
    have hown := hOB k B' hk
    rw [t2] at hk
    obtain ⟨kg, B, hl, hB, hg, hg', hty, hr⟩ := fb k B' hk
    rw [hl0] at hl
    cases hl
    rw [hB0] at hB
    cases hB
    obtain ⟨h1, cv, hh, ha⟩ := hS.boxes kg0.1 B0 hB0
    rw [e0]
    refine ⟨?_, cv, by rw [hty]; exact hh, hr cv ha⟩
    have : bxN bx y.xs k 0 = bx kg0.1 B0.gen := by rw [← e0, hg0]
    rw [← this]; exact hown
  · intro r R' hr
    have hr0 := hr
    obtain ⟨c, hl, hg, hget, hsr⟩ := ht.keyR r R' (by rw [hteq]; exact hr)
    have hbo := ht.bok _ (mem_of_look hl)
    refine ⟨fun b hb => hOR r R' b hr (by rw [← hg]; exact hb), ?_⟩
    cases c with
    | nil =>
      have hrw : rwN rw_ y.bs r R'.gen = .slice none 0 0 := by simp only [rwN, hl]
      simp only [St.get] at hget
      have hl0 : R'.l = [] := (Option.some.inj hget).symm
      rw [hrw, hl0]
      exact ⟨[], Owns.nil (by simpa [isRowC] using hsr), .nil⟩
    | row q g =>
      simp only [bindOk] at hbo
      split at hbo
      · rename_i R hR
        have hgq : R.gen = g := by simpa using hbo
        subst hgq
        have hrw : rwN rw_ y.bs r R'.gen = rw_ q R.gen := by simp only [rwN, hl]
        simp only [St.get, hR, if_true] at hget
        have hget' : ∃ he : R.e = R'.e, R'.l = he ▸ R.l := by
          simp only [Leaf.get] at hget
          split at hget
          · rename_i he
            exact ⟨he, by injection hget with h; exact h.symm⟩
          · cases hget
        obtain ⟨he, hel⟩ := hget'
        obtain ⟨_, us, hown, har⟩ := hS.rows q R hR
        rw [hrw]
        obtain ⟨g', e', l'⟩ := R'
        simp only at he hel ⊢
        subst he
        simp only at hel
        subst hel
        exact ⟨us, hown, har.mono fun x u hx => Rep.mono hx hFF (fun _ _ => rfl)⟩
      · cases hbo
    | _ => simp [bindOk] at hbo
  · intro k B' k' B2' hk hk' he
    obtain ⟨_, kg, B, hl, hB, _, e1⟩ := keyB k B' hk
    obtain ⟨_, kg2, B2, hl2, hB2, _, e2⟩ := keyB k' B2' hk'
    have hbb := hS.bb kg.1 B kg2.1 B2 hB hB2 (by rw [← e1, ← e2]; exact he)
    by_cases hkk : k = k'
    · exact hkk
    · exact absurd hbb (ht.apart _ (mem_of_look hl) _ (mem_of_look hl2) hkk)
  · intro r R' r' R2' b hr hr' hb hb'
    obtain ⟨q, R, hlk, hR, hb1⟩ := keyR2 r R' hr b hb
    obtain ⟨q', R2, hlk', hR2, hb2⟩ := keyR2 r' R2' hr' b hb'
    have hqq := hS.rr q R q' R2 b hR hR2 hb1 hb2
    by_cases hrr : r = r'
    · exact hrr
    · have := ht.bap _ (mem_of_look hlk) _ (mem_of_look hlk') hrr
      simp [bindApart] at this
      exact absurd hqq this
  · intro k B' r R' hk hr he
    obtain ⟨_, kg, B, _, hB, _, e1⟩ := keyB k B' hk
    obtain ⟨q, R, hlk, hR, hb1⟩ := keyR2 r R' hr _ he
    exact hS.br kg.1 B q R hB hR (by rw [hb1, e1])
  · intro i
    have := fr i (tm.getD i undef) (hS.slots i)
    rw [← t1] at this
    exact this
theorem ext_ok (hS : Sim Θ E s tm W bx rw_) {h : Shape} {x : h.X Θ.T} (hx : h.ext s = some x) : ∃ bx' rw', Sim Θ E (h.st x) tm W bx' rw' := by
  unfold Shape.ext at hx
  split at hx <;> try (cases hx; done)
  rename_i y hy
  split at hx <;> try (cases hx; done)
  rename_i hpin
  cases hx
  have ht := told hy
  simp only [pinsOk, Bool.and_eq_true, List.all_eq_true] at hpin
  obtain ⟨hp1, hp2⟩ := hpin
  refine ⟨_, _, ext_base hS hy E hS.below hS.glob (fun b hb => hb.1) (fun q g R b _ hR hb => .inr ((hS.rows q R hR).1 b hb)) (fun k B' hk => ?_) (fun r R' b hr hb => ?_) (fun k b hkb => ?_) (fun r v hrv => ?_)⟩
  · obtain ⟨_, kg, B, hl, hB, hg, _⟩ := ht.keyB k B' hk
    have : bxN bx y.xs k 0 = bx kg.1 B.gen := by simp only [bxN, hl, hg]
    rw [this]; exact (hS.boxes _ B hB).1
  · obtain ⟨c, hl, hg, _⟩ := ht.keyR r R' hr
    simp only [rwN, hl] at hb
    cases c with
    | row q g =>
      have hbo := ht.bok _ (mem_of_look hl)
      simp only [bindOk] at hbo
      split at hbo
      · rename_i R hR
        have : R.gen = g := by simpa using hbo
        subst this
        exact (hS.rows q R hR).1 b hb
      · cases hbo
    | _ => simp [ob] at hb
  · obtain ⟨h1, h2⟩ := hS.pinB k b hkb
    refine ⟨h1, fun B' hk => ?_⟩
    obtain ⟨_, kg, B, hl, hB, hg, _⟩ := ht.keyB k B' hk
    have := hp1 _ (mem_of_look hl)
    simp only [Bool.or_eq_true, Nat.blt_eq, Bool.and_eq_true, beq_iff_eq] at this
    rcases this with h | ⟨e1, e2⟩
    · omega
    · rw [← e1] at hB
      have := h2 B hB (by rw [hg, e2])
      simp only [bxN, hl, ← e1, e2]; exact this
  · obtain ⟨h1, h2⟩ := hS.pinR r v hrv
    refine ⟨h1, fun R' hr => ?_⟩
    obtain ⟨c, hl, hg, _⟩ := ht.keyR r R' hr
    have := hp2 _ (mem_of_look hl)
    simp only [h1, Bool.not_true, Bool.false_or] at this
    cases c with
    | row q g =>
      simp only [Bool.and_eq_true, beq_iff_eq] at this
      obtain ⟨e1, e2⟩ := this
      have hbo := ht.bok _ (mem_of_look hl)
      simp only [bindOk] at hbo
      split at hbo
      · rename_i R hR
        have hgg : R.gen = g := by simpa using hbo
        rw [← e1] at hR
        have := h2 R hR (by rw [hgg, e2])
        simp only [rwN, hl, ← e1, e2]; exact this
      · cases hbo
    | _ => simp at this
end
end Go.Den
namespace Go.Den
open Go Go.RowKit
inductive Ex where
  | normal
  | exit (id : Nat)
  | ret
  | pan (ty : Nat)
def Ex.same : Ex → Ex → Bool
  | .normal, .normal => true
  | .exit a, .exit b => a == b
  | .ret, .ret => true
  | .pan a, .pan b => a == b
  | _, _ => false
def Outs (T : TypeId → Type) : List (Ex × Shape) → Type
  | [] => Empty
  | [a] => a.2.X T
  | a :: b :: r => a.2.X T ⊕ Outs T (b :: r)
section
variable {T : TypeId → Type}
def outOf : (es : List (Ex × Shape)) → Ex → St T → Option (Outs T es)
  | [], _, _ => none
  | [a], e, s => if a.1.same e then a.2.ext s else none
  | a :: b :: r, e, s => if a.1.same e then (match a.2.ext s with
      | some x => some (.inl x)
      | none => match outOf (b :: r) e s with
        | some x => some (.inr x)
        | none => none) else (match outOf (b :: r) e s with
      | some x => some (.inr x)
      | none => none)
def outTo {R : Type} : (es : List (Ex × Shape)) → (Ex → Shape → St T → R) → Outs T es → R
  | [], _, x => nomatch x
  | [a], K, x => K a.1 a.2 (a.2.st x)
  | a :: b :: r, K, x => Sum.elim (fun x => K a.1 a.2 (a.2.st x)) (fun x => outTo (b :: r) K x) x
end
section
variable {T : TypeId → Type}
def dropRows : List (Nat × RowS T) → List Nat → List (Nat × RowS T)
  | [], _ => []
  | (k, R) :: r, ks => if ks.contains k then dropRows r ks else (k, R) :: dropRows r ks
def dropBoxes : List (Nat × BoxS T) → List Nat → List (Nat × BoxS T)
  | [], _ => []
  | (k, B) :: r, ks => if ks.contains k then dropBoxes r ks else (k, B) :: dropBoxes r ks
def frC (s : St T) (ks : List Nat) : CV T → CV T
  | .row r g => if ks.contains r then (match look s.rows r with
    | some R => if R.gen = g ∧ slE R.e = true then .v (.sl R.e R.l) else .row r g
    | none => .row r g) else .row r g
  | c => c
def frS (s : St T) (ks : List Nat) : CV T ⊕ List (CV T) → CV T ⊕ List (CV T)
  | .inl c => .inl (frC s ks c)
  | .inr cs => .inr (cs.map (frC s ks))
def frK (s : St T) (ks : List Nat) : KV T → KV T
  | .c x => .c (frC s ks x)
  | .agg cs => .agg (cs.map (frC s ks))
  | .cel xs => .cel xs
def frA (s : St T) (ks : List Nat) : AV T → AV T
  | .yld y l => .yld y (l.map (frK s ks))
  | .c x => .c (frC s ks x)
  | .agg cs => .agg (cs.map (frC s ks))
  | .tup l => .tup (l.map (frS s ks))
  | .mth f l => .mth f (l.map (frS s ks))
  | v => v
def St.freeze (s : St T) (ks : List Nat) : St T := ⟨s.slots.map (frA s ks), s.boxes.map fun b => (b.1, ⟨b.2.gen, b.2.ty, b.2.cells.map (frC s ks)⟩), dropRows s.rows ks⟩
end
section
variable {Θ : Tab} {E : Env} {s : St Θ.T} {tm : Array Value} {W : World} {bx : Nat → Nat → Nat} {rw_ : Nat → Nat → Value}
theorem look_dropRows {T : TypeId → Type} {l : List (Nat × RowS T)} {ks : List Nat} {r : Nat} {R : RowS T} (h : look (dropRows l ks) r = some R) : look l r = some R ∧ r ∉ ks := by
  induction l with
  | nil => simp [dropRows, look] at h
  | cons x l ih =>
    obtain ⟨k, R'⟩ := x
    simp only [dropRows] at h
    split at h
    · rename_i hk
      obtain ⟨h1, h2⟩ := ih h
      refine ⟨?_, h2⟩
      simp only [look]
      rw [if_neg]
      · exact h1
      · rintro rfl; exact h2 (by simpa using hk)
    · rename_i hk
      simp only [look] at h ⊢
      split at h
      · rename_i e; subst e; cases h; exact ⟨by simp, by simpa using hk⟩
      · rename_i e; rw [if_neg e]; exact ih h
theorem look_dropBoxes {T : TypeId → Type} {l : List (Nat × BoxS T)} {ks : List Nat} {r : Nat} {R : BoxS T} (h : look (dropBoxes l ks) r = some R) : look l r = some R ∧ r ∉ ks := by
  induction l with
  | nil => simp [dropBoxes, look] at h
  | cons x l ih =>
    obtain ⟨k, R'⟩ := x
    simp only [dropBoxes] at h
    split at h
    · rename_i hk
      obtain ⟨h1, h2⟩ := ih h
      refine ⟨?_, h2⟩
      simp only [look]
      rw [if_neg]
      · exact h1
      · rintro rfl; exact h2 (by simpa using hk)
    · rename_i hk
      simp only [look] at h ⊢
      split at h
      · rename_i e; subst e; cases h; exact ⟨by simp, by simpa using hk⟩
      · rename_i e; rw [if_neg e]; exact ih h
theorem look_map {A B : Type} (f : A → B) (l : List (Nat × A)) (k : Nat) : look (l.map fun b => (b.1, f b.2)) k = (look l k).map f := by
  induction l with
  | nil => rfl
  | cons x l ih =>
    obtain ⟨i, a⟩ := x
    simp only [List.map_cons, look]
    split
    · rfl
    · exact ih
theorem Sim.freeze (hS : Sim Θ E s tm W bx rw_) (ks : List Nat) : Sim Θ E (s.freeze ks) tm W bx rw_ := by
  have hlookB : ∀ k B', look (s.freeze ks).boxes k = some B' → ∃ B, look s.boxes k = some B ∧ B' = ⟨B.gen, B.ty, B.cells.map (frC s ks)⟩ := by
    intro k B' h
    have := look_map (fun b : BoxS Θ.T => (⟨b.gen, b.ty, b.cells.map (frC s ks)⟩ : BoxS Θ.T)) s.boxes k
    simp only [St.freeze] at h
    rw [this] at h
    cases hl : look s.boxes k with
    | none => simp [hl] at h
    | some B => simp [hl] at h; exact ⟨B, rfl, h.symm⟩
  have hF : ∀ b, FF E s bx rw_ W b → FF E (s.freeze ks) bx rw_ W b := by
    rintro b ⟨h1, h2, h3⟩
    refine ⟨h1, h2, ?_⟩
    rintro (⟨k, B', hB', e⟩ | ⟨r, R, hR, hb⟩)
    · obtain ⟨B, hB, rfl⟩ := hlookB k B' hB'
      exact h3 (.inl ⟨k, B, hB, e⟩)
    · exact h3 (.inr ⟨r, R, (look_dropRows hR).1, hb⟩)
  have hW : ∀ b, FF E s bx rw_ W b → W.heap[b]? = W.heap[b]? := fun _ _ => rfl
  have one : ∀ c u, RCV Θ W (FF E s bx rw_ W) bx rw_ c u → RCV Θ W (FF E (s.freeze ks) bx rw_ W) bx rw_ (frC s ks c) u := by
    intro c u h
    have same : RCV Θ W (FF E (s.freeze ks) bx rw_ W) bx rw_ c u := RCV.trans hF hW (fun _ _ => rfl) (fun _ _ => rfl) h
    unfold frC
    split
    · rename_i r g
      split
      · rename_i hks
        split
        · rename_i R hR
          split
          · rename_i hg
            obtain ⟨hg, hsl⟩ := hg
            subst hg
            have e : u = rw_ r R.gen := h
            rw [e]
            refine row_rep hS hF hR (fun b hb => ⟨.inr ((hS.rows r R hR).1 b hb), ?_, ?_⟩) hsl
            · obtain ⟨_, us, hown, _⟩ := hS.rows r R hR
              exact hown.lt hb
            · rintro (⟨k, B', hB', e⟩ | ⟨r', R', hR', hb'⟩)
              · obtain ⟨B, hB, rfl⟩ := hlookB k B' hB'
                exact hS.br k B r R hB hR (by rw [hb, e])
              · obtain ⟨h1, h2⟩ := look_dropRows hR'
                have := hS.rr r R r' R' b hR h1 hb hb'
                subst this
                exact h2 (by simpa using hks)
          · exact same
        · exact same
      · exact same
    · exact same
  have many : ∀ cs us, All2 (RCV Θ W (FF E s bx rw_ W) bx rw_) cs us → All2 (RCV Θ W (FF E (s.freeze ks) bx rw_ W) bx rw_) (cs.map (frC s ks)) us := by
    intro cs us h
    induction h with
    | nil => exact .nil
    | cons h _ ih => exact .cons (one _ _ h) ih
  have sums : ∀ l us, All2 (RSum Θ W (FF E s bx rw_ W) bx rw_) l us → All2 (RSum Θ W (FF E (s.freeze ks) bx rw_ W) bx rw_) (l.map (frS s ks)) us := by
    intro l us h
    induction h with
    | nil => exact .nil
    | cons h _ ih =>
      rename_i a b _ _ _
      refine .cons ?_ ih
      cases a with
      | inl c => exact one _ _ h
      | inr cs => obtain ⟨us, e, ha⟩ := h; exact ⟨us, e, many _ _ ha⟩
  refine ⟨hS.below, hS.glob, fun k b hkb => ?_, fun r v hrv => ?_, hS.rwsl, fun k B' hB' => ?_, fun r R hR => ?_, ?_, ?_, ?_, by simp [St.freeze, hS.len], fun i => ?_⟩
  · obtain ⟨h1, h2⟩ := hS.pinB k b hkb
    refine ⟨h1, fun B' hB' h0 => ?_⟩
    obtain ⟨B, hB, rfl⟩ := hlookB k B' hB'
    exact h2 B hB h0
  · obtain ⟨h1, h2⟩ := hS.pinR r v hrv
    exact ⟨h1, fun R hR h0 => h2 R (look_dropRows hR).1 h0⟩
  · obtain ⟨B, hB, rfl⟩ := hlookB k B' hB'
    obtain ⟨h1, cv, hh, ha⟩ := hS.boxes k B hB
    exact ⟨h1, cv, hh, many _ _ ha⟩
  · obtain ⟨hob, us, ho, ha⟩ := hS.rows r R (look_dropRows hR).1
    exact ⟨hob, us, ho, ha.mono fun x u hx => Rep.mono hx hF hW⟩
  · intro k B1 k' B2 h1 h2 he
    obtain ⟨B, hB, rfl⟩ := hlookB k B1 h1
    obtain ⟨B', hB', rfl⟩ := hlookB k' B2 h2
    exact hS.bb k B k' B' hB hB' he
  · intro r R r' R' b hR hR' hb hb'
    exact hS.rr r R r' R' b (look_dropRows hR).1 (look_dropRows hR').1 hb hb'
  · intro k B1 r R h1 hR
    obtain ⟨B, hB, rfl⟩ := hlookB k B1 h1
    exact hS.br k B r R hB (look_dropRows hR).1
  · have hsl : (s.freeze ks).at_ i = frA s ks (s.at_ i) := by
      simp only [St.freeze, St.at_, List.getD_eq_getElem?_getD, List.getElem?_map]
      cases s.slots[i]? <;> rfl
    rw [hsl]
    have h := hS.slots i
    revert h
    generalize s.at_ i = v
    generalize tm.getD i undef = u
    intro h
    cases v with
    | c x => exact one _ _ h
    | agg cs => obtain ⟨us, e, ha⟩ := h; exact ⟨us, e, many _ _ ha⟩
    | tup l => obtain ⟨us, e, ha⟩ := h; exact ⟨us, e, sums _ _ ha⟩
    | mth f l => obtain ⟨us, e, ha⟩ := h; exact ⟨us, e, sums _ _ ha⟩
    | cel xs => exact RAV.trans (v := .cel xs) hF hW (fun _ _ => rfl) (fun _ _ => rfl) h
    | rel r g j sz off => exact RAV.trans (v := .rel r g j sz off) hF hW (fun _ _ => rfl) (fun _ _ => rfl) h
    | yld y l =>
      obtain ⟨lb, R, rec, e, hf, hr', ha⟩ := h
      refine ⟨lb, R, rec, e, hF _ hf, hr', ?_⟩
      revert ha
      generalize (R.live.map fun i => rec.tmps.getD i undef) = us
      intro ha
      induction ha with
      | nil => exact .nil
      | cons h _ ih =>
        rename_i a b _ _ _
        refine .cons ?_ ih
        cases a with
        | c c => exact one _ _ h
        | agg cs => obtain ⟨us, e, ha⟩ := h; exact ⟨us, e, many _ _ ha⟩
        | cel xs => exact RKV.trans (v := .cel xs) hF hW (fun _ _ => rfl) (fun _ _ => rfl) h
    | nilq e => exact h
    | skip => exact h
    | undef => exact h
end
section
variable {T : TypeId → Type}
def keyIn {B : Type} : List (Nat × B) → Nat → Bool
  | [], _ => false
  | (j, _) :: r, k => j == k || keyIn r k
def freshK (base k : Nat) : Nat := 10000 + 100 * base + k
def entB (s : St T) (hin : Shape) (xs : List (Nat × Nat × Nat)) (base k : Nat) : Option (Nat × Nat) :=
  if keyIn hin.boxes k then look xs k
  else if (s.noB (freshK base k) (s.nextB (freshK base k)) && Nat.blt (freshK base k) pin) then some (freshK base k, s.nextB (freshK base k)) else none
def renBs (s : St T) (hin : Shape) (xs : List (Nat × Nat × Nat)) (base : Nat) : List (Nat × BoxS T) → Option (List (Nat × Nat × Nat))
  | [] => some []
  | b :: r => match entB s hin xs base b.1 with
    | some kg => if b.2.gen == 0 then (match renBs s hin xs base r with
      | some l => some ((b.1, kg) :: l)
      | none => none) else none
    | none => none
def freshR (s : St T) (base r : Nat) : Option (CV T) :=
  if (s.noR (freshK base r) (s.nextR (freshK base r)) && Nat.blt (freshK base r) pin) then some (.row (freshK base r) (s.nextR (freshK base r))) else none
def entR (s : St T) (hin : Shape) (bs : List (Nat × CV T)) (base r : Nat) : Option (CV T) :=
  if keyIn hin.rows r then look bs r
  else if (Nat.ble (pin + pin) r && keyIn hin.rows (r - pin)) then (match look bs (r - pin) with
    | some c => match c with
      | .row q _ => if (s.noR q (s.nextR q) && (keyIn s.rows q)) then some (.row q (s.nextR q)) else none
      | _ => freshR s base (r % 100)
    | none => none)
  else freshR s base r
def renRs (s : St T) (hin : Shape) (bs : List (Nat × CV T)) (base : Nat) : List (Nat × RowS T) → Option (List (Nat × CV T))
  | [] => some []
  | b :: r => match entR s hin bs base b.1 with
    | some c => if b.2.gen == 0 then (match renRs s hin bs base r with
      | some l => some ((b.1, c) :: l)
      | none => none) else none
    | none => none
def renCaps (nB : List (Nat × Nat × Nat)) : List (Nat × Nat) → Option (List (Nat × Nat))
  | [] => some []
  | p :: r => if p.2 == 0 then (match look nB p.1 with
    | some kg => match renCaps nB r with
      | some l => some (kg :: l)
      | none => none
    | none => none) else none
def renC (nB : List (Nat × Nat × Nat)) (nR : List (Nat × CV T)) : CV T → Option (CV T)
  | .row r g => if g == 0 then look nR r else none
  | .box k g off => if g == 0 then (match look nB k with
    | some kg => some (.box kg.1 kg.2 off)
    | none => none) else none
  | .fn f caps => match renCaps nB caps with
    | some l => some (.fn f l)
    | none => none
  | c => some c
def renCs (nB : List (Nat × Nat × Nat)) (nR : List (Nat × CV T)) : List (CV T) → Option (List (CV T))
  | [] => some []
  | c :: r => match renC nB nR c with
    | some c' => match renCs nB nR r with
      | some l => some (c' :: l)
      | none => none
    | none => none
def renA (nB : List (Nat × Nat × Nat)) (nR : List (Nat × CV T)) : AV T → Option (AV T)
  | .c x => (renC nB nR x).map .c
  | .agg cs => (renCs nB nR cs).map .agg
  | .rel r g i sz off => if g == 0 then (match look nR r with
    | some c => match c with
      | .row q g' => some (.rel q g' i sz off)
      | _ => none
    | none => none) else none
  | _ => none
def renS (nB : List (Nat × Nat × Nat)) (nR : List (Nat × CV T)) : AV T → Option (CV T ⊕ List (CV T))
  | .c x => (renC nB nR x).map .inl
  | .agg cs => (renCs nB nR cs).map .inr
  | _ => none
def renSs (nB : List (Nat × Nat × Nat)) (nR : List (Nat × CV T)) : List (AV T) → Option (List (CV T ⊕ List (CV T)))
  | [] => some []
  | v :: r => match renS nB nR v with
    | some x => match renSs nB nR r with
      | some l => some (x :: l)
      | none => none
    | none => none
def resA (nB : List (Nat × Nat × Nat)) (nR : List (Nat × CV T)) (l : List (AV T)) : Option (AV T) := match l with
  | [v] => renA nB nR v
  | l => (renSs nB nR l).map .tup
def newBs (nB : List (Nat × Nat × Nat)) (nR : List (Nat × CV T)) : List (Nat × BoxS T) → Option (List (Nat × BoxS T))
  | [] => some []
  | b :: r => match look nB b.1 with
    | some kg => match renCs nB nR b.2.cells with
      | some cs => match newBs nB nR r with
        | some l => some ((kg.1, ⟨kg.2, b.2.ty, cs⟩) :: l)
        | none => none
      | none => none
    | none => none
def newRs (nR : List (Nat × CV T)) : List (Nat × RowS T) → Option (List (Nat × RowS T))
  | [] => some []
  | b :: r => match look nR b.1 with
    | some c => match newRs nR r with
      | some l => match c with
        | .row q g => some ((q, ⟨g, b.2.e, b.2.l⟩) :: l)
        | .nil => some l
        | _ => none
      | none => none
    | none => none
def apartKs : List Nat → Bool
  | [] => true
  | k :: r => !(r.contains k) && apartKs r
def keysOf {B : Type} : List (Nat × B) → List Nat
  | [] => []
  | b :: r => b.1 :: keysOf r
def boxKs : List (Nat × Nat × Nat) → List Nat
  | [] => []
  | p :: r => p.2.1 :: boxKs r
def rowKs : List (Nat × CV T) → List Nat
  | [] => []
  | p :: r => match p.2 with
    | .row q _ => q :: rowKs r
    | _ => rowKs r
def lentBs (xs : List (Nat × Nat × Nat)) : List (Nat × Nat × List CT) → List Nat
  | [] => []
  | b :: r => match look xs b.1 with
    | some kg => kg.1 :: lentBs xs r
    | none => lentBs xs r
def lentRs (bs : List (Nat × CV T)) : List (Nat × Nat) → List Nat
  | [] => []
  | b :: r => match look bs b.1 with
    | some c => match c with
      | .row q _ => q :: lentRs bs r
      | _ => lentRs bs r
    | none => lentRs bs r
def flatC : CV T → Bool
  | .v (.sl _ _) => false
  | _ => true
def flatA : AV T → Bool
  | .c x => flatC x
  | .agg cs => cs.all flatC
  | .rel _ _ _ _ _ => true
  | .undef => true
  | _ => false
def flatE (Θ : Tab) (e : TypeId) : Bool := (Θ.E e).leaves.all Leaf.flat
def St.flat (fe : TypeId → Bool) (t : St T) : Bool := t.slots.all flatA && (t.boxes.all (fun b => b.2.cells.all flatC) && t.rows.all fun r => fe r.2.e)
def Shape.lentOk (h : Shape) : Bool := h.boxes.all (fun b => Nat.ble pin b.1) && h.rows.all fun r => pinned r.1
def baseOf (dst : Option Nat) (xs : List (Nat × Nat × Nat)) : Nat := match dst with
  | some d => d
  | none => match xs with
    | [] => 9800
    | p :: _ => 9000 + p.2.1 % 800
def after (fe : TypeId → Bool) (s : St T) (hin : Shape) (y : Ext T hin) (t : St T) (flat : Bool) (dst : Option Nat) : Option (St T) :=
  if (flat && !(t.flat fe)) then none else match renBs s hin y.xs (baseOf dst y.xs) t.boxes with
  | some nB => match renRs s hin y.bs (baseOf dst y.xs) t.rows with
    | some nR => match newBs nB nR t.boxes with
      | some bs => match newRs nR t.rows with
        | some rs => match resA nB nR t.slots with
          | some v => if ((apartKs (keysOf t.boxes) && apartKs (keysOf t.rows)) && (apartKs (boxKs nB) && apartKs (rowKs nR))) then some (St.put ⟨s.slots, bs ++ dropBoxes s.boxes (keysOf bs ++ lentBs y.xs hin.boxes), rs ++ dropRows s.rows (keysOf rs ++ lentRs y.bs hin.rows)⟩ dst v) else none
          | none => none
        | none => none
      | none => none
    | none => none
  | none => none
end
end Go.Den
namespace Go.Den
open Go Go.RowKit
section
variable {Θ : Tab} {W W' : World} {F F' : Nat → Prop} {bx : Nat → Nat → Nat} {rw_ : Nat → Nat → Value}
theorem Rep.same {v : Value} {x : PV Θ.T} (h : Rep Θ W F v x) (hf : ∀ b, F b → F' b) (hw : ∀ a : Addr, F a.block → W'.cell? a = W.cell? a ∧ elOf W' a.block = elOf W a.block) : Rep Θ W' F' v x := by
  induction h with
  | int k n => exact .int k n
  | bool b => exact .bool b
  | str s => exact .str s
  | sl e l A n cap us hn hcap hz hA _ ih =>
    refine .sl e l A n cap us hn hcap hz (fun hne => ?_) (fun i j y x hy hx => ih i j y x hy hx)
    obtain ⟨ad, e1, e2, e3, e4⟩ := hA hne
    exact ⟨ad, e1, e2, fun h => ⟨hf _ (e3 h).1, fun hb => (hw ad (e3 h).1).2.trans ((e3 h).2 hb)⟩, fun i j hi hj => (hw _ (by rw [Addr.add_block]; exact (e3 (by omega)).1)).1.trans (e4 i j hi hj)⟩
theorem RCV.same {c : CV Θ.T} {u : Value} (hf : ∀ b, F b → F' b) (hw : ∀ a : Addr, F a.block → W'.cell? a = W.cell? a ∧ elOf W' a.block = elOf W a.block) (h : RCV Θ W F bx rw_ c u) : RCV Θ W' F' bx rw_ c u := by
  cases c with
  | v x => exact Rep.same h hf hw
  | _ => exact h
theorem RCs.same {cs : List (CV Θ.T)} {u : Value} (hf : ∀ b, F b → F' b) (hw : ∀ a : Addr, F a.block → W'.cell? a = W.cell? a ∧ elOf W' a.block = elOf W a.block) (h : RCs Θ W F bx rw_ cs u) : RCs Θ W' F' bx rw_ cs u := by
  obtain ⟨us, e, h⟩ := h
  exact ⟨us, e, h.mono fun c u h => RCV.same hf hw h⟩
theorem RSum.same {q : CV Θ.T ⊕ List (CV Θ.T)} {u : Value} (hf : ∀ b, F b → F' b) (hw : ∀ a : Addr, F a.block → W'.cell? a = W.cell? a ∧ elOf W' a.block = elOf W a.block) (h : RSum Θ W F bx rw_ q u) : RSum Θ W' F' bx rw_ q u := by
  cases q with
  | inl c => exact RCV.same hf hw h
  | inr cs => exact RCs.same hf hw h
theorem cel_same {xs : List (PV Θ.T)} {u : Value} (hf : ∀ b, F b → F' b) (hw : ∀ a : Addr, F a.block → W'.cell? a = W.cell? a ∧ elOf W' a.block = elOf W a.block)
    (h : ∃ ad : Addr, u = .pointer (some ad) ∧ ad.spot = none ∧ (xs ≠ [] → F ad.block) ∧ ∀ j x, xs[j]? = some x → ∃ c, W.cell? (ad.add j) = some c ∧ Rep Θ W F c x) :
    ∃ ad : Addr, u = .pointer (some ad) ∧ ad.spot = none ∧ (xs ≠ [] → F' ad.block) ∧ ∀ j x, xs[j]? = some x → ∃ c, W'.cell? (ad.add j) = some c ∧ Rep Θ W' F' c x := by
  obtain ⟨ad, e1, e2, e3, e4⟩ := h
  refine ⟨ad, e1, e2, fun h => hf _ (e3 h), fun j x hx => ?_⟩
  obtain ⟨c, hc, hr⟩ := e4 j x hx
  have hne : xs ≠ [] := fun e => by rw [e] at hx; simp at hx
  exact ⟨c, (hw _ (by rw [Addr.add_block]; exact e3 hne)).1.trans hc, Rep.same hr hf hw⟩
theorem RKV.same {q : KV Θ.T} {u : Value} (hf : ∀ b, F b → F' b) (hw : ∀ a : Addr, F a.block → W'.cell? a = W.cell? a ∧ elOf W' a.block = elOf W a.block) (h : RKV Θ W F bx rw_ q u) : RKV Θ W' F' bx rw_ q u := by
  cases q with
  | c x => exact RCV.same hf hw h
  | agg cs => exact RCs.same hf hw h
  | cel xs => exact cel_same hf hw h
theorem RAV.same {v : AV Θ.T} {u : Value} (hf : ∀ b, F b → F' b) (hw : ∀ a : Addr, F a.block → W'.cell? a = W.cell? a ∧ elOf W' a.block = elOf W a.block) (hl : ∀ b r, F b → W.heap[b]? = some (.loop r) → W'.heap[b]? = some (.loop r)) (h : RAV Θ W F bx rw_ v u) : RAV Θ W' F' bx rw_ v u := by
  cases v with
  | c x => exact RCV.same hf hw h
  | agg cs => exact RCs.same hf hw h
  | tup l => obtain ⟨us, e, h⟩ := h; exact ⟨us, e, h.mono fun c u h => RSum.same hf hw h⟩
  | mth f l => obtain ⟨us, e, h⟩ := h; exact ⟨us, e, h.mono fun c u h => RSum.same hf hw h⟩
  | cel xs => exact cel_same hf hw h
  | yld y l =>
    obtain ⟨lb, R, rec, e, h1, h2, h3⟩ := h
    exact ⟨lb, R, rec, e, hf _ h1, { h2 with at_ := hl _ _ h1 h2.at_ }, h3.mono fun c u h => RKV.same hf hw h⟩
  | _ => exact h
end
structure Marked (W W' : World) (b : Nat) : Prop where
  os : W'.os = W.os
  tape : W'.tape = W.tape
  output : W'.output = W.output
  size : W'.heap.size = W.heap.size
  other : ∀ k, k ≠ b → W'.heap[k]? = W.heap[k]?
  cell : ∀ a : Addr, W'.cell? a = W.cell? a
  el : ∀ b, elOf W' b = elOf W b
  cells : ∃ c e m, W.heap[b]? = some (.cells c e m)
theorem Sim.mark {Θ : Tab} {E : Env} {s : St Θ.T} {tm : Array Value} {W W' : World} {bx : Nat → Nat → Nat} {rw_ : Nat → Nat → Value} {b : Nat} (hS : Sim Θ E s tm W bx rw_) (hm : Marked W W' b) (ho : E.Own b) (hn : ¬ Mut s bx rw_ b) : Sim Θ E s tm W' bx rw_ := by
  have hf : ∀ k, FF E s bx rw_ W k → FF E s bx rw_ W' k := fun k hk => ⟨hk.1, by rw [hm.size]; exact hk.2.1, hk.2.2⟩
  have hw : ∀ a : Addr, FF E s bx rw_ W a.block → W'.cell? a = W.cell? a ∧ elOf W' a.block = elOf W a.block := fun a _ => ⟨hm.cell a, hm.el _⟩
  have hl : ∀ k r, FF E s bx rw_ W k → W.heap[k]? = some (.loop r) → W'.heap[k]? = some (.loop r) := fun k r _ h => by
    rw [hm.other k]
    · exact h
    · rintro rfl
      obtain ⟨c, e, m, hc⟩ := hm.cells
      rw [hc] at h; cases h
  refine ⟨⟨hm.os.trans hS.below.os, hm.tape.trans hS.below.tape, hm.output.trans hS.below.output, by rw [hm.size]; exact hS.below.size, fun k hk hz => ?_⟩, hS.glob, hS.pinB, hS.pinR, hS.rwsl, fun k B hB => ?_, fun r R hR => ?_, hS.bb, hS.rr, hS.br, hS.len, fun i => RAV.same hf hw hl (hS.slots i)⟩
  · rw [hm.other k]
    · exact hS.below.block k hk hz
    · rintro rfl
      rcases ho with h | h
      · exact hz h
      · omega
  · obtain ⟨h1, cv, hh, ha⟩ := hS.boxes k B hB
    refine ⟨h1, cv, ?_, ha.mono fun c u h => RCV.same hf hw h⟩
    rw [hm.other]
    · exact hh
    · intro e; exact hn (.inl ⟨k, B, hB, e⟩)
  · obtain ⟨h1, us, ho2, ha⟩ := hS.rows r R hR
    refine ⟨h1, us, ho2.kept (row := some b) ⟨hm.os, hm.tape, hm.output, by rw [hm.size]; exact Nat.le_refl _, fun k hk hkb => hm.other k (fun e => hkb (by rw [e]))⟩ (.inr fun e => hn (.inr ⟨r, R, hR, e⟩)), ha.mono fun x u h => Rep.same h hf hw⟩
end Go.Den
namespace Go.Den
open Go Go.RowKit
theorem mem_keysOf {B : Type} {l : List (Nat × B)} {k : Nat} {b : B} (h : (k, b) ∈ l) : k ∈ keysOf l := by
  induction l with
  | nil => cases h
  | cons x l ih =>
    simp only [keysOf, List.mem_cons] at h ⊢
    rcases h with h | h
    · left; rw [← h]
    · exact .inr (ih h)
theorem of_mem_keysOf {B : Type} {l : List (Nat × B)} {k : Nat} (h : k ∈ keysOf l) : ∃ b, (k, b) ∈ l := by
  induction l with
  | nil => cases h
  | cons x l ih =>
    simp only [keysOf, List.mem_cons] at h
    rcases h with h | h
    · exact ⟨x.2, by rw [h]; simp⟩
    · obtain ⟨b, hb⟩ := ih h; exact ⟨b, List.mem_cons_of_mem _ hb⟩
theorem look_of_mem {B : Type} {l : List (Nat × B)} (hn : apartKs (keysOf l) = true) {k : Nat} {b : B} (h : (k, b) ∈ l) : look l k = some b := by
  induction l with
  | nil => cases h
  | cons x l ih =>
    obtain ⟨j, c⟩ := x
    simp only [keysOf, apartKs, Bool.and_eq_true, Bool.not_eq_true'] at hn
    rcases List.mem_cons.1 h with h | h
    · cases h; simp [look]
    · simp only [look]
      have hne : j ≠ k := by
        rintro rfl
        have := mem_keysOf h
        rw [List.contains_eq_mem, decide_eq_false_iff_not] at hn
        exact hn.1 this
      rw [if_neg hne]
      exact ih hn.2 h
theorem look_none_of {B : Type} {l : List (Nat × B)} {k : Nat} (h : look l k = none) : k ∉ keysOf l := by
  induction l with
  | nil => simp [keysOf]
  | cons x l ih =>
    obtain ⟨j, c⟩ := x
    simp only [look] at h
    split at h
    · cases h
    · rename_i hne
      simp only [keysOf, List.mem_cons, not_or]
      exact ⟨fun e => hne e.symm, ih h⟩
theorem look_app {B : Type} {l l' : List (Nat × B)} {k : Nat} {b : B} (h : look (l ++ l') k = some b) : look l k = some b ∨ (k ∉ keysOf l ∧ look l' k = some b) := by
  cases hl : look l k with
  | some c => have := look_append (l' := l') hl; rw [this] at h; exact .inl h
  | none =>
    refine .inr ⟨look_none_of hl, ?_⟩
    induction l with
    | nil => exact h
    | cons x l ih =>
      obtain ⟨j, c⟩ := x
      simp only [look, List.cons_append] at hl h
      split at hl
      · cases hl
      · rename_i hne
        rw [if_neg hne] at h
        exact ih h hl
theorem boxKs_mem {l : List (Nat × Nat × Nat)} {p : Nat × Nat × Nat} (h : p ∈ l) : p.2.1 ∈ boxKs l := by
  induction l with
  | nil => cases h
  | cons x l ih =>
    simp only [boxKs, List.mem_cons] at h ⊢
    rcases h with h | h
    · left; rw [h]
    · exact .inr (ih h)
theorem boxKs_inj {l : List (Nat × Nat × Nat)} (hn : apartKs (boxKs l) = true) {p q : Nat × Nat × Nat} (hp : p ∈ l) (hq : q ∈ l) (e : p.2.1 = q.2.1) : p = q := by
  induction l with
  | nil => cases hp
  | cons x l ih =>
    simp only [boxKs, apartKs, Bool.and_eq_true, Bool.not_eq_true', List.contains_eq_mem, decide_eq_false_iff_not] at hn
    rcases List.mem_cons.1 hp with h | h <;> rcases List.mem_cons.1 hq with h' | h'
    · rw [h, h']
    · exact absurd (by rw [← h, e]; exact boxKs_mem h') hn.1
    · exact absurd (by rw [← h', ← e]; exact boxKs_mem h) hn.1
    · exact ih hn.2 h h'
theorem rowKs_mem {T : TypeId → Type} {l : List (Nat × CV T)} {r q g : Nat} (h : (r, CV.row q g) ∈ l) : q ∈ rowKs l := by
  induction l with
  | nil => cases h
  | cons x l ih =>
    obtain ⟨j, c⟩ := x
    rcases List.mem_cons.1 h with h1 | h1
    · cases h1; simp [rowKs]
    · clear h
      have h2 := ih h1
      simp only [rowKs]
      split
      · exact List.mem_cons_of_mem _ h2
      · exact h2
theorem rowKs_inj {T : TypeId → Type} {l : List (Nat × CV T)} (hn : apartKs (rowKs l) = true) {r r' q g g' : Nat} (hp : (r, CV.row q g) ∈ l) (hq : (r', CV.row q g') ∈ l) : r = r' ∧ g = g' := by
  induction l with
  | nil => cases hp
  | cons x l ih =>
    obtain ⟨j, c⟩ := x
    rcases List.mem_cons.1 hp with h | h <;> rcases List.mem_cons.1 hq with h' | h'
    · cases h; cases h'; exact ⟨rfl, rfl⟩
    · cases h
      simp only [rowKs, apartKs, Bool.and_eq_true, Bool.not_eq_true', List.contains_eq_mem, decide_eq_false_iff_not] at hn
      exact absurd (rowKs_mem h') hn.1
    · cases h'
      simp only [rowKs, apartKs, Bool.and_eq_true, Bool.not_eq_true', List.contains_eq_mem, decide_eq_false_iff_not] at hn
      exact absurd (rowKs_mem h) hn.1
    · refine ih ?_ h h'
      simp only [rowKs] at hn
      split at hn
      · simp only [apartKs, Bool.and_eq_true] at hn; exact hn.2
      · exact hn
section
variable {T : TypeId → Type} {s : St T} {hin : Shape} {xs : List (Nat × Nat × Nat)} {cs : List (Nat × CV T)} {base : Nat}
theorem renBs_spec : ∀ (l : List (Nat × BoxS T)) (nB : List (Nat × Nat × Nat)), renBs s hin xs base l = some nB → keysOf nB = keysOf l ∧ (∀ b ∈ l, b.2.gen = 0) ∧ ∀ p ∈ nB, entB s hin xs base p.1 = some p.2 := by
  intro l
  induction l with
  | nil => intro nB h; cases h; exact ⟨rfl, fun b hb => (by cases hb), fun p hp => (by cases hp)⟩
  | cons b l ih =>
    intro nB h
    simp only [renBs] at h
    split at h <;> try (cases h; done)
    rename_i kg hkg
    split at h <;> try (cases h; done)
    rename_i hg
    split at h <;> try (cases h; done)
    rename_i l' hl
    cases h
    obtain ⟨h1, h2, h3⟩ := ih l' hl
    refine ⟨by simp [keysOf, h1], fun b' hb' => ?_, fun p hp => ?_⟩
    · rcases List.mem_cons.1 hb' with e | e
      · rw [e]; simpa using hg
      · exact h2 b' e
    · rcases List.mem_cons.1 hp with e | e
      · rw [e]; exact hkg
      · exact h3 p e
theorem renRs_spec : ∀ (l : List (Nat × RowS T)) (nR : List (Nat × CV T)), renRs s hin cs base l = some nR → keysOf nR = keysOf l ∧ (∀ b ∈ l, b.2.gen = 0) ∧ ∀ p ∈ nR, entR s hin cs base p.1 = some p.2 := by
  intro l
  induction l with
  | nil => intro nB h; cases h; exact ⟨rfl, fun b hb => (by cases hb), fun p hp => (by cases hp)⟩
  | cons b l ih =>
    intro nB h
    simp only [renRs] at h
    split at h <;> try (cases h; done)
    rename_i kg hkg
    split at h <;> try (cases h; done)
    rename_i hg
    split at h <;> try (cases h; done)
    rename_i l' hl
    cases h
    obtain ⟨h1, h2, h3⟩ := ih l' hl
    refine ⟨by simp [keysOf, h1], fun b' hb' => ?_, fun p hp => ?_⟩
    · rcases List.mem_cons.1 hb' with e | e
      · rw [e]; simpa using hg
      · exact h2 b' e
    · rcases List.mem_cons.1 hp with e | e
      · rw [e]; exact hkg
      · exact h3 p e
theorem entB_spec {k : Nat} {kg : Nat × Nat} (h : entB s hin xs base k = some kg) : (keyIn hin.boxes k = true ∧ look xs k = some kg) ∨ (s.noB kg.1 kg.2 = true ∧ kg.1 < pin) := by
  unfold entB at h
  split at h
  · rename_i hk; exact .inl ⟨hk, h⟩
  · split at h <;> try (cases h; done)
    rename_i hc
    simp only [Bool.and_eq_true, Nat.blt_eq] at hc
    cases h
    exact .inr hc
theorem freshR_spec {r : Nat} {c : CV T} (h : freshR s base r = some c) : ∃ q g, c = .row q g ∧ s.noR q g = true ∧ q < pin := by
  unfold freshR at h
  split at h <;> try (cases h; done)
  rename_i hc
  simp only [Bool.and_eq_true, Nat.blt_eq] at hc
  cases h
  exact ⟨_, _, rfl, hc⟩
theorem entR_spec {r : Nat} {c : CV T} (h : entR s hin cs base r = some c) : (keyIn hin.rows r = true ∧ look cs r = some c) ∨ (∃ q g, c = .row q g ∧ s.noR q g = true ∧ (q < pin ∨ 0 < g)) := by
  unfold entR at h
  split at h
  · rename_i hk; exact .inl ⟨hk, h⟩
  · have fr : ∀ {i}, freshR s base i = some c → (keyIn hin.rows r = true ∧ look cs r = some c) ∨ (∃ q g, c = .row q g ∧ s.noR q g = true ∧ (q < pin ∨ 0 < g)) := fun h => by
      obtain ⟨q, g, e, h1, h2⟩ := freshR_spec h
      exact .inr ⟨q, g, e, h1, .inl h2⟩
    split at h
    · split at h <;> try (cases h; done)
      split at h
      · rename_i q _ _
        split at h <;> try (cases h; done)
        rename_i hc
        simp only [Bool.and_eq_true] at hc
        cases h
        refine .inr ⟨_, _, rfl, hc.1, .inr ?_⟩
        have hk := hc.2
        have : ∀ l : List (Nat × RowS T), keyIn l q = true → ∃ R, look l q = some R := by
          intro l
          induction l with
          | nil => intro h; cases h
          | cons x l ih =>
            intro h
            obtain ⟨j, R⟩ := x
            simp only [keyIn, Bool.or_eq_true, beq_iff_eq] at h
            simp only [look]
            split
            · exact ⟨_, rfl⟩
            · rename_i hne
              rcases h with h | h
              · exact absurd h hne
              · exact ih h
        obtain ⟨R, hR⟩ := this _ hk
        simp only [St.nextR, hR]
        omega
      · exact fr h
    · exact fr h
end
section
variable {Θ : Tab} {s : St Θ.T}
theorem keyIn_look {B : Type} {l : List (Nat × B)} {k : Nat} (h : keyIn l k = true) : ∃ b, look l k = some b := by
  induction l with
  | nil => cases h
  | cons x l ih =>
    obtain ⟨j, R⟩ := x
    simp only [keyIn, Bool.or_eq_true, beq_iff_eq] at h
    simp only [look]
    split
    · exact ⟨_, rfl⟩
    · rename_i hne
      rcases h with h | h
      · exact absurd h hne
      · exact ih h
theorem fillBs_has : ∀ (ts : List (Nat × Nat × List CT)) (ps : List (PV Θ.T)) (k : Nat), keyIn ts k = true → ∃ B', look (fillBs ts ps).1 k = some B' := by
  intro ts
  induction ts with
  | nil => intro ps k h; cases h
  | cons t ts ih =>
    intro ps k h
    simp only [keyIn, Bool.or_eq_true, beq_iff_eq] at h
    simp only [fillBs, look]
    split
    · exact ⟨_, rfl⟩
    · rename_i hne
      rcases h with h | h
      · exact absurd h hne
      · exact ih _ k h
theorem fillRs_has : ∀ (ts : List (Nat × Nat)) (ps : List (PV Θ.T)) (k : Nat), ts.length = ps.length → keyIn ts k = true → ∃ B', look (fillRs ts ps) k = some B' := by
  intro ts
  induction ts with
  | nil => intro ps k _ h; cases h
  | cons t ts ih =>
    intro ps k hl h
    cases ps with
    | nil => simp at hl
    | cons p ps =>
      simp only [keyIn, Bool.or_eq_true, beq_iff_eq] at h
      simp only [fillRs, look]
      split
      · exact ⟨_, rfl⟩
      · rename_i hne
        rcases h with h | h
        · exact absurd h hne
        · exact ih _ k (by simpa using hl) h
theorem rowHs_len : ∀ ts : List (Nat × Nat), (rowHs ts).length = ts.length
  | [] => rfl
  | t :: r => by simp [rowHs, rowHs_len r]
theorem st_hasB {h : Shape} {y : Ext Θ.T h} (hy : h.extB s = some y) {k : Nat} (hk : keyIn h.boxes k = true) : ∃ B', look (h.st y.x).boxes k = some B' := by
  obtain ⟨p, q, cs, ps1, ps2, ps3, _, _, _, _, _, _, _, _, _, _, t2, _⟩ := fill_split hy
  rw [t2]; exact fillBs_has _ _ _ hk
theorem st_hasR {h : Shape} {y : Ext Θ.T h} (hy : h.extB s = some y) {k : Nat} (hk : keyIn h.rows k = true) : ∃ R', look (h.st y.x).rows k = some R' := by
  obtain ⟨p, q, cs, ps1, ps2, ps3, _, _, _, _, _, _, _, _, g3, _, _, t3⟩ := fill_split hy
  rw [t3]
  refine fillRs_has _ _ _ ?_ hk
  have := g3.right.length
  have h2 : ∀ {ls : List Leaf} {cs : List (CV Θ.T)} {ps : List (PV Θ.T)}, All3 (fun l c p => ∃ z, s.get l c = some z ∧ p = l.mk z) ls cs ps → ls.length = ps.length := by
    intro ls cs ps h
    induction h with
    | nil => rfl
    | cons _ _ ih => simp [ih]
  rw [← h2 g3, rowHs_len]
theorem lentOk_B {h : Shape} (hok : h.lentOk = true) {k : Nat} (hk : keyIn h.boxes k = true) : pin ≤ k := by
  simp only [Shape.lentOk, Bool.and_eq_true, List.all_eq_true, Nat.ble_eq] at hok
  obtain ⟨b, hb⟩ := keyIn_look hk
  exact hok.1 _ (mem_of_look hb)
theorem lentOk_R {h : Shape} (hok : h.lentOk = true) {k : Nat} (hk : keyIn h.rows k = true) : pinned k = true := by
  simp only [Shape.lentOk, Bool.and_eq_true, List.all_eq_true] at hok
  obtain ⟨b, hb⟩ := keyIn_look hk
  exact hok.2 _ (mem_of_look hb)
theorem lentBs_mem {xs : List (Nat × Nat × Nat)} : ∀ {l : List (Nat × Nat × List CT)} {k : Nat} {kg : Nat × Nat}, k ∈ keysOf l → look xs k = some kg → kg.1 ∈ lentBs xs l := by
  intro l
  induction l with
  | nil => intro k kg h; cases h
  | cons b l ih =>
    intro k kg h hx
    simp only [keysOf, List.mem_cons] at h
    simp only [lentBs]
    rcases h with h | h
    · rw [← h, hx]; simp
    · have := ih h hx
      split
      · exact List.mem_cons_of_mem _ this
      · exact this
theorem lentRs_mem {bs : List (Nat × CV Θ.T)} : ∀ {l : List (Nat × Nat)} {r q g : Nat}, r ∈ keysOf l → look bs r = some (.row q g) → q ∈ lentRs bs l := by
  intro l
  induction l with
  | nil => intro k kg g h; cases h
  | cons b l ih =>
    intro r q g h hx
    simp only [keysOf, List.mem_cons] at h
    simp only [lentRs]
    rcases h with h | h
    · rw [← h, hx]; simp
    · have := ih h hx
      split
      · split
        · exact List.mem_cons_of_mem _ this
        · exact this
      · exact this
end
end Go.Den
namespace Go.Den
open Go Go.RowKit
section
variable {Θ : Tab} {E : Env} {s : St Θ.T} {tm : Array Value} {W : World} {bx : Nat → Nat → Nat} {rw_ : Nat → Nat → Value}
def callEnv (E : Env) (s : St Θ.T) (W : World) (bx : Nat → Nat → Nat) (rw_ : Nat → Nat → Value) (hin : Shape) (y : Ext Θ.T hin) (flat : Bool) : Env where
  w0 := W
  Z := fun b => Mut (hin.st y.x) (bxN bx y.xs) (rwN rw_ y.bs) b
  F := fun b => FF E s bx rw_ W b ∨ (flat = true ∧ b < W.heap.size ∧ ¬ Mut (hin.st y.x) (bxN bx y.xs) (rwN rw_ y.bs) b)
  PB := fun k b => pin ≤ k ∧ ∃ B', look (hin.st y.x).boxes k = some B' ∧ b = bxN bx y.xs k 0
  PR := fun r v => pinned r = true ∧ ∃ R', look (hin.st y.x).rows r = some R' ∧ v = rwN rw_ y.bs r 0
  D := []
def notRow {T : TypeId → Type} : CV T → Bool
  | .row _ _ => false
  | _ => true
theorem lent_mut {avs : List (AV Θ.T)} {hin : Shape} {y : Ext Θ.T hin} (hy : hin.extB ⟨avs, s.boxes, s.rows⟩ = some y) {b : Nat} (h : Mut (hin.st y.x) (bxN bx y.xs) (rwN rw_ y.bs) b) :
    (∃ k B kg, keyIn hin.boxes k = true ∧ look y.xs k = some kg ∧ look s.boxes kg.1 = some B ∧ B.gen = kg.2 ∧ bx kg.1 B.gen = b) ∨ (∃ r q R, keyIn hin.rows r = true ∧ look y.bs r = some (.row q R.gen) ∧ look s.rows q = some R ∧ ob (rw_ q R.gen) = some b) := by
  have ht := told hy
  obtain ⟨p, q, cs, ps1, ps2, ps3, _, _, _, _, _, _, _, _, _, _, t2, t3⟩ := fill_split hy
  rcases h with ⟨k, B', hk, e⟩ | ⟨r, R', hr, hb⟩
  · obtain ⟨h0, kg, B, h2, h3, h4, _⟩ := ht.keyB k B' hk
    rw [t2] at hk
    obtain ⟨_, t, ht', e'⟩ := fillBs_keys _ _ _ _ hk
    refine .inl ⟨k, B, kg, ?_, h2, h3, h4, ?_⟩
    · have : ∀ l : List (Nat × Nat × List CT), t ∈ l → keyIn l k = true := by
        intro l
        induction l with
        | nil => intro h; cases h
        | cons x l ih =>
          intro h
          simp only [keyIn, Bool.or_eq_true, beq_iff_eq]
          rcases List.mem_cons.1 h with h | h
          · left; rw [← h]; exact e'
          · exact .inr (ih h)
      exact this _ ht'
    · rw [← e]; simp only [bxN, h2, h4]
  · obtain ⟨c, hl, hg, _⟩ := ht.keyR r R' hr
    simp only [rwN, hl] at hb
    cases c with
    | row q g =>
      have hbo := ht.bok _ (mem_of_look hl)
      simp only [bindOk] at hbo
      split at hbo
      · rename_i R hR
        have : R.gen = g := by simpa using hbo
        subst this
        refine .inr ⟨r, q, R, ?_, hl, hR, hb⟩
        rw [t3] at hr
        have : ∀ (ts : List (Nat × Nat)) (ps : List (PV Θ.T)), look (fillRs ts ps) r = some R' → keyIn ts r = true := by
          intro ts
          induction ts with
          | nil => intro ps h; simp [fillRs, look] at h
          | cons t ts ih =>
            intro ps h
            cases ps with
            | nil => simp [fillRs, look] at h
            | cons p ps =>
              simp only [keyIn, Bool.or_eq_true, beq_iff_eq]
              simp only [fillRs, look] at h
              split at h
              · rename_i e; exact .inl e
              · exact .inr (ih ps h)
        exact this _ _ hr
      · cases hbo
    | _ => simp [ob] at hb
theorem lent_own (hS : Sim Θ E s tm W bx rw_) {avs : List (AV Θ.T)} {hin : Shape} {y : Ext Θ.T hin} (hy : hin.extB ⟨avs, s.boxes, s.rows⟩ = some y) {b : Nat} (h : Mut (hin.st y.x) (bxN bx y.xs) (rwN rw_ y.bs) b) : Mut s bx rw_ b ∧ E.Own b ∧ b < W.heap.size := by
  rcases lent_mut hy h with ⟨k, B, kg, _, _, hB, hg, e⟩ | ⟨r, q, R, _, _, hR, hb⟩
  · obtain ⟨h1, cv, hh, _⟩ := hS.boxes kg.1 B hB
    rw [e] at h1 hh
    exact ⟨.inl ⟨kg.1, B, hB, e⟩, h1, (Array.getElem?_eq_some_iff.1 hh).1⟩
  · obtain ⟨h1, us, hown, _⟩ := hS.rows q R hR
    exact ⟨.inr ⟨q, R, hR, hb⟩, h1 b hb, hown.lt hb⟩
theorem entry_sim (hS : Sim Θ E s tm W bx rw_) {avs : List (AV Θ.T)} {vs : List Value} (hav : All2 (RAV Θ W (FF E s bx rw_ W) bx rw_) avs vs) {hin : Shape} {y : Ext Θ.T hin} (hy : hin.extB ⟨avs, s.boxes, s.rows⟩ = some y) (flat : Bool) (hnr : flat = true ∨ ∀ c ∈ y.hs, notRow c = true) :
    Sim Θ (callEnv E s W bx rw_ hin y flat) (hin.st y.x) vs.toArray W (bxN bx y.xs) (rwN rw_ y.bs) := by
  have hS1 : Sim Θ E ⟨avs, s.boxes, s.rows⟩ vs.toArray W bx rw_ := by
    refine ⟨hS.below, hS.glob, hS.pinB, hS.pinR, hS.rwsl, hS.boxes, hS.rows, hS.bb, hS.rr, hS.br, by simp [hav.length], fun i => ?_⟩
    simp only [St.at_, List.getD_eq_getElem?_getD, Array.getD_eq_getD_getElem?, List.getElem?_toArray]
    cases hi : avs[i]? with
    | none =>
      exact trivial
    | some v =>
      obtain ⟨u, hu, hr⟩ := hav.get i hi
      simp only [hu, Option.getD_some]
      exact hr
  refine ext_base hS1 hy _ ⟨rfl, rfl, rfl, Nat.le_refl _, fun _ _ _ => rfl⟩ (hS.glob.move hS.below rfl fun b hb => (lent_own hS hy hb).2.1) (fun b hb => .inl (.inl hb)) (fun q g R b hm hR hb => ?_) (fun k B' hk => ?_) (fun r R' b hr hb => ?_) (fun k b hkb => ?_) (fun r v hrv => ?_)
  · rcases hnr with hfl | hnr
    · by_cases hz : Mut (hin.st y.x) (bxN bx y.xs) (rwN rw_ y.bs) b
      · exact .inr (.inl hz)
      · obtain ⟨_, us, hown, _⟩ := hS.rows q R hR
        exact .inl (.inr ⟨hfl, hown.lt hb, hz⟩)
    · have := hnr _ hm; simp [notRow] at this
  · have h0 := ((told hy).keyB k B' hk).1
    exact .inl (.inl ⟨k, B', hk, by rw [h0]⟩)
  · obtain ⟨c, _, h0, _⟩ := (told hy).keyR r R' hr
    exact .inl (.inr ⟨r, R', hr, by rw [h0]; exact hb⟩)
  · obtain ⟨h1, B', _, e⟩ := hkb
    exact ⟨h1, fun _ _ => e.symm⟩
  · obtain ⟨h1, B', _, e⟩ := hrv
    exact ⟨h1, fun _ _ => e.symm⟩
def invB : List (Nat × Nat × Nat) → Nat → Nat → Option Nat
  | [], _, _ => none
  | p :: r, k, g => if p.2.1 = k ∧ p.2.2 = g then some p.1 else invB r k g
def invR {T : TypeId → Type} : List (Nat × CV T) → Nat → Nat → Option Nat
  | [], _, _ => none
  | p :: r, k, g => match p.2 with
    | .row q g' => if q = k ∧ g' = g then some p.1 else invR r k g
    | _ => invR r k g
theorem invB_some {l : List (Nat × Nat × Nat)} {k g k2 : Nat} (h : invB l k g = some k2) : (k2, k, g) ∈ l := by
  induction l with
  | nil => cases h
  | cons p l ih =>
    simp only [invB] at h
    split at h
    · rename_i e; cases h; obtain ⟨a, b, c⟩ := p; simp only at e; rw [← e.1, ← e.2]; simp
    · exact List.mem_cons_of_mem _ (ih h)
theorem invB_of {l : List (Nat × Nat × Nat)} (hn : apartKs (boxKs l) = true) {k g k2 : Nat} (h : (k2, k, g) ∈ l) : invB l k g = some k2 := by
  cases hi : invB l k g with
  | some k3 =>
    have := boxKs_inj hn h (invB_some hi) rfl
    cases this; rfl
  | none =>
    exfalso
    induction l with
    | nil => cases h
    | cons p l ih =>
      simp only [invB] at hi
      split at hi
      · cases hi
      · rename_i hne
        rcases List.mem_cons.1 h with h | h
        · rw [← h] at hne; simp at hne
        · simp only [boxKs, apartKs, Bool.and_eq_true] at hn
          exact ih hn.2 h hi
theorem invR_some {T : TypeId → Type} {l : List (Nat × CV T)} {k g k2 : Nat} (h : invR l k g = some k2) : (k2, CV.row k g) ∈ l := by
  induction l with
  | nil => cases h
  | cons p l ih =>
    obtain ⟨a, c⟩ := p
    simp only [invR] at h
    split at h
    · split at h
      · rename_i e; cases h; rw [e.1, e.2]; simp
      · exact List.mem_cons_of_mem _ (ih h)
    · exact List.mem_cons_of_mem _ (ih h)
theorem invR_of {T : TypeId → Type} {l : List (Nat × CV T)} (hn : apartKs (rowKs l) = true) {k g k2 : Nat} (h : (k2, CV.row k g) ∈ l) : invR l k g = some k2 := by
  cases hi : invR l k g with
  | some k3 =>
    obtain ⟨e, _⟩ := rowKs_inj hn h (invR_some hi)
    rw [e]
  | none =>
    exfalso
    induction l with
    | nil => cases h
    | cons p l ih =>
      obtain ⟨a, c⟩ := p
      rcases List.mem_cons.1 h with h1 | h1
      · cases h1
        simp [invR] at hi
      · cases c with
        | row q g' =>
          simp only [invR] at hi
          split at hi
          · cases hi
          · simp only [rowKs, apartKs, Bool.and_eq_true] at hn
            exact ih hn.2 h1 hi
        | _ => simp only [invR] at hi; simp only [rowKs] at hn; exact ih hn h1 hi
def bxA (bx bx2 : Nat → Nat → Nat) (nB : List (Nat × Nat × Nat)) (k g : Nat) : Nat := match invB nB k g with
  | some k2 => bx2 k2 0
  | none => bx k g
def rwA {T : TypeId → Type} (rw_ rw2 : Nat → Nat → Value) (nR : List (Nat × CV T)) (r g : Nat) : Value := match invR nR r g with
  | some r2 => rw2 r2 0
  | none => rw_ r g
theorem flatC_rep {F F' : Nat → Prop} {W : World} {c : CV Θ.T} {u : Value} (hc : flatC c = true) (h : RCV Θ W F bx rw_ c u) : RCV Θ W F' bx rw_ c u := by
  cases c with
  | v p =>
    cases p with
    | int k n => cases h; exact .int _ _
    | bool b => cases h; exact .bool _
    | str b => cases h; exact .str _
    | sl e l => simp [flatC] at hc
  | _ => exact h
theorem flatCs_rep {F F' : Nat → Prop} {W : World} {cs : List (CV Θ.T)} {us : List Value} (hc : cs.all flatC = true) (h : All2 (RCV Θ W F bx rw_) cs us) : All2 (RCV Θ W F' bx rw_) cs us := by
  induction h with
  | nil => exact .nil
  | cons h _ ih =>
    simp only [List.all_cons, Bool.and_eq_true] at hc
    exact .cons (flatC_rep hc.1 h) (ih hc.2)
theorem flat_rep {F F' : Nat → Prop} {W : World} {l : Leaf} {z : l.Ty Θ.T} {u : Value} (hl : l.flat = true) (h : Rep Θ W F u (l.mk z)) : Rep Θ W F' u (l.mk z) := by
  cases l with
  | int k => cases h; exact .int _ _
  | bool => cases h; exact .bool _
  | str => cases h; exact .str _
  | sl e => simp [Leaf.flat] at hl
theorem flat_mem : ∀ (ls : List Leaf) (x : HT (Leaf.Ty Θ.T) ls), ls.all Leaf.flat = true → ∀ p ∈ HT.list Leaf.mk ls x, ∃ (l : Leaf) (z : l.Ty Θ.T), l.flat = true ∧ p = l.mk z := by
  intro ls
  induction ls with
  | nil => intro x _ p hp; cases hp
  | cons l ls ih =>
    intro x hl p hp
    simp only [List.all_cons, Bool.and_eq_true] at hl
    cases ls with
    | nil =>
      have : p = l.mk x := by simpa [HT.list] using hp
      exact ⟨l, x, hl.1, this⟩
    | cons l2 ls =>
      have : p = l.mk x.1 ∨ p ∈ HT.list Leaf.mk (l2 :: ls) x.2 := by simpa [HT.list] using hp
      rcases this with h | h
      · exact ⟨l, x.1, hl.1, h⟩
      · exact ih x.2 hl.2 p h
theorem flat_elems {F F' : Nat → Prop} {W : World} {e : TypeId} (he : flatE Θ e = true) {l : List (Θ.T e)} {us : List Value} (h : All2 (fun p u => Rep Θ W F u p) (l.flatMap (Θ.enc e)) us) : All2 (fun p u => Rep Θ W F' u p) (l.flatMap (Θ.enc e)) us := by
  refine All2.of_get h.length (fun i p u hp hu => ?_)
  obtain ⟨u', hu', hr⟩ := h.get i hp
  rw [hu] at hu'; cases hu'
  obtain ⟨y, _, hm⟩ := List.mem_flatMap.1 (List.mem_of_getElem? hp)
  obtain ⟨lf, z, h1, rfl⟩ := flat_mem _ _ he p hm
  exact flat_rep h1 hr
theorem Sim.flatten {E' : Env} (F2 : Nat → Prop) (hS : Sim Θ E s tm W bx rw_) (hf : s.flat (flatE Θ) = true) (hE : E' = { E with F := F2 }) : Sim Θ E' s tm W bx rw_ := by
  subst hE
  simp only [St.flat, Bool.and_eq_true, List.all_eq_true] at hf
  obtain ⟨h1, h2, h3⟩ := hf
  refine ⟨⟨hS.below.os, hS.below.tape, hS.below.output, hS.below.size, hS.below.block⟩, hS.glob, hS.pinB, hS.pinR, hS.rwsl, fun k B hB => ?_, fun r R hR => ?_, hS.bb, hS.rr, hS.br, hS.len, fun i => ?_⟩
  · obtain ⟨a1, cv, hh, ha⟩ := hS.boxes k B hB
    exact ⟨a1, cv, hh, flatCs_rep (List.all_eq_true.2 (h2 _ (mem_of_look hB))) ha⟩
  · obtain ⟨a1, us, ho, ha⟩ := hS.rows r R hR
    exact ⟨a1, us, ho, flat_elems (h3 _ (mem_of_look hR)) ha⟩
  · have hi := hS.slots i
    have hfl : flatA (s.at_ i) = true := by
      unfold St.at_
      rw [List.getD_eq_getElem?_getD]
      cases hq : s.slots[i]? with
      | none => rfl
      | some v => exact h1 v (List.mem_of_getElem? hq)
    revert hi hfl
    generalize s.at_ i = v
    generalize tm.getD i undef = u
    intro hi hfl
    cases v with
    | c x => exact flatC_rep hfl hi
    | agg cs => obtain ⟨us, e, ha⟩ := hi; exact ⟨us, e, flatCs_rep hfl ha⟩
    | rel r g j sz off => exact hi
    | undef => exact trivial
    | _ => simp [flatA] at hfl
end
end Go.Den
namespace Go.Den
open Go Go.RowKit
def tupleOf (us : List Value) : Value := if h : us.toArray.size = 1 then us.toArray[0] else .tuple us.toArray
def putA (tm : Array Value) (dst : Option Nat) (v : Value) : Array Value := match dst with
  | some d => tm.setIfInBounds d v
  | none => tm
section
variable {Θ : Tab} {E : Env} {s : St Θ.T} {tm : Array Value} {W : World} {bx : Nat → Nat → Nat} {rw_ : Nat → Nat → Value}
theorem renCaps_spec {nB : List (Nat × Nat × Nat)} : ∀ (l l' : List (Nat × Nat)), renCaps nB l = some l' → All2 (fun p q => p.2 = 0 ∧ look nB p.1 = some q) l l' := by
  intro l
  induction l with
  | nil => intro l' h; cases h; exact .nil
  | cons p l ih =>
    intro l' h
    simp only [renCaps] at h
    split at h <;> try (cases h; done)
    rename_i hp
    split at h <;> try (cases h; done)
    rename_i kg hkg
    split at h <;> try (cases h; done)
    rename_i l2 hl
    cases h
    exact .cons ⟨by simpa using hp, hkg⟩ (ih l2 hl)
theorem newBs_spec {nB : List (Nat × Nat × Nat)} {nR : List (Nat × CV Θ.T)} : ∀ (l bs : List (Nat × BoxS Θ.T)), newBs nB nR l = some bs → All2 (fun b b' => ∃ kg cs, look nB b.1 = some kg ∧ renCs nB nR b.2.cells = some cs ∧ b' = (kg.1, ⟨kg.2, b.2.ty, cs⟩)) l bs := by
  intro l
  induction l with
  | nil => intro bs h; cases h; exact .nil
  | cons b l ih =>
    intro bs h
    simp only [newBs] at h
    split at h <;> try (cases h; done)
    rename_i kg hkg
    split at h <;> try (cases h; done)
    rename_i cs hcs
    split at h <;> try (cases h; done)
    rename_i l2 hl
    cases h
    exact .cons ⟨kg, cs, hkg, hcs, rfl⟩ (ih l2 hl)
theorem newRs_spec {nR : List (Nat × CV Θ.T)} : ∀ (l rs : List (Nat × RowS Θ.T)), newRs nR l = some rs → (∀ b' ∈ rs, ∃ b ∈ l, ∃ q g, look nR b.1 = some (.row q g) ∧ b' = (q, ⟨g, b.2.e, b.2.l⟩)) ∧ ∀ b ∈ l, ∀ q g, look nR b.1 = some (.row q g) → (q, ⟨g, b.2.e, b.2.l⟩) ∈ rs := by
  intro l
  induction l with
  | nil => intro rs h; cases h; exact ⟨fun b hb => (by cases hb), fun b hb => (by cases hb)⟩
  | cons b l ih =>
    intro rs h
    simp only [newRs] at h
    split at h <;> try (cases h; done)
    rename_i c hc
    split at h <;> try (cases h; done)
    rename_i l2 hl
    obtain ⟨i1, i2⟩ := ih l2 hl
    split at h <;> try (cases h; done)
    · rename_i q g
      cases h
      refine ⟨fun b' hb' => ?_, fun b1 hb1 q1 g1 hl1 => ?_⟩
      · rcases List.mem_cons.1 hb' with e | e
        · exact ⟨b, by simp, q, g, hc, e⟩
        · obtain ⟨b1, h1, h2⟩ := i1 b' e; exact ⟨b1, by simp [h1], h2⟩
      · rcases List.mem_cons.1 hb1 with e | e
        · rw [e] at hl1 ⊢; rw [hc] at hl1; cases hl1; simp
        · exact List.mem_cons_of_mem _ (i2 b1 e q1 g1 hl1)
    · cases h
      refine ⟨fun b' hb' => ?_, fun b1 hb1 q1 g1 hl1 => ?_⟩
      · obtain ⟨b1, h1, h2⟩ := i1 b' hb'; exact ⟨b1, by simp [h1], h2⟩
      · rcases List.mem_cons.1 hb1 with e | e
        · rw [e] at hl1; rw [hc] at hl1; cases hl1
        · exact i2 b1 e q1 g1 hl1
set_option maxHeartbeats 1000000 in
theorem called (hS : Sim Θ E s tm W bx rw_) {avs : List (AV Θ.T)} {hin : Shape} {y : Ext Θ.T hin} (hy : hin.extB ⟨avs, s.boxes, s.rows⟩ = some y) (hok : hin.lentOk = true) {t : St Θ.T} {us : List Value} {W' : World} {bx2 : Nat → Nat → Nat} {rw2 : Nat → Nat → Value}
    (hT : Sim Θ (callEnv E s W bx rw_ hin y false) t us.toArray W' bx2 rw2) {fe : TypeId → Bool} {flat : Bool} {dst : Option Nat} {s' : St Θ.T} (h : after fe s hin y t flat dst = some s') : ∃ bx3 rw3, Sim Θ E s' (putA tm dst (tupleOf us)) W' bx3 rw3 := by
  unfold after at h
  split at h <;> try (cases h; done)
  split at h <;> try (cases h; done)
  rename_i nB hnB
  split at h <;> try (cases h; done)
  rename_i nR hnR
  split at h <;> try (cases h; done)
  rename_i bs hbs
  split at h <;> try (cases h; done)
  rename_i rs hrs
  split at h <;> try (cases h; done)
  rename_i v hv
  split at h <;> try (cases h; done)
  rename_i hap
  cases h
  simp only [Bool.and_eq_true] at hap
  obtain ⟨⟨hatb, hatr⟩, hanb, hanr⟩ := hap
  have ht := told hy
  obtain ⟨kB, gB, eB⟩ := renBs_spec _ _ hnB
  obtain ⟨kR, gR, eR⟩ := renRs_spec _ _ hnR
  have sB := newBs_spec _ _ hbs
  obtain ⟨sR, sR'⟩ := newRs_spec _ _ hrs
  have hanb' : apartKs (keysOf nB) = true := by rw [kB]; exact hatb
  have hanr' : apartKs (keysOf nR) = true := by rw [kR]; exact hatr
  let bx3 := bxA bx bx2 nB
  let rw3 := rwA rw_ rw2 nR
  have nbx : ∀ k2 kg, look nB k2 = some kg → bx3 kg.1 kg.2 = bx2 k2 0 := by
    intro k2 kg hl
    have := invB_of hanb (k := kg.1) (g := kg.2) (mem_of_look hl)
    simp only [bx3, bxA, this]
  have nrw : ∀ r2 q g, look nR r2 = some (.row q g) → rw3 q g = rw2 r2 0 := by
    intro r2 q g hl
    have := invR_of hanr (mem_of_look hl)
    simp only [rw3, rwA, this]
  have lentB : ∀ k kg, keyIn hin.boxes k = true → look y.xs k = some kg → (∃ B2, look t.boxes k = some B2) → bx2 k 0 = bx kg.1 kg.2 := by
    rintro k kg hk hl ⟨B2, hB2⟩
    obtain ⟨B', hB'⟩ := st_hasB hy hk
    obtain ⟨_, h2⟩ := hT.pinB k (bxN bx y.xs k 0) ⟨lentOk_B hok hk, B', hB', rfl⟩
    rw [h2 B2 hB2 (gB _ (mem_of_look hB2))]
    simp only [bxN, hl]
  have lentR : ∀ r, keyIn hin.rows r = true → (∃ R2, look t.rows r = some R2) → rw2 r 0 = rwN rw_ y.bs r 0 := by
    rintro r hk ⟨R2, hR2⟩
    obtain ⟨R', hR'⟩ := st_hasR hy hk
    obtain ⟨_, h2⟩ := hT.pinR r (rwN rw_ y.bs r 0) ⟨lentOk_R hok hk, R', hR', rfl⟩
    exact h2 R2 hR2 (gR _ (mem_of_look hR2))
  have inT : ∀ {k2 : Nat} {kg : Nat × Nat}, (k2, kg) ∈ nB → ∃ B2, look t.boxes k2 = some B2 := by
    intro k2 kg hm
    have := mem_keysOf hm
    rw [kB] at this
    obtain ⟨b, hb⟩ := of_mem_keysOf this
    exact ⟨b, look_of_mem hatb hb⟩
  have inTR : ∀ {k2 : Nat} {c : CV Θ.T}, (k2, c) ∈ nR → ∃ R2, look t.rows k2 = some R2 := by
    intro k2 kg hm
    have := mem_keysOf hm
    rw [kR] at this
    obtain ⟨b, hb⟩ := of_mem_keysOf this
    exact ⟨b, look_of_mem hatr hb⟩
  have oldbx : ∀ k g, (s.noB k g = false) → bx3 k g = bx k g := by
    intro k g hno
    simp only [bx3, bxA]
    cases hi : invB nB k g with
    | none => rfl
    | some k2 =>
      have hm := invB_some hi
      rcases entB_spec (eB _ hm) with ⟨h1, h2⟩ | ⟨h1, _⟩
      · exact lentB k2 (k, g) h1 h2 (inT hm)
      · simp only at h1; rw [hno] at h1; cases h1
  have oldrw : ∀ k g, (s.noR k g = false) → rw3 k g = rw_ k g := by
    intro k g hno
    simp only [rw3, rwA]
    cases hi : invR nR k g with
    | none => rfl
    | some k2 =>
      have hm := invR_some hi
      rcases entR_spec (eR _ hm) with ⟨h1, h2⟩ | ⟨q, g', e, h1, _⟩
      · have e := lentR k2 h1 (inTR hm)
        simp only at h2
        simp only [rwN, h2] at e
        exact e
      · cases e; rw [hno] at h1; cases h1
  have refB : ∀ (l : List (Nat × Nat)), (∀ k g, s.noB k g = true → ∀ p ∈ l, ¬ (p.1 = k ∧ p.2 = g)) → ∀ p ∈ l, bx3 p.1 p.2 = bx p.1 p.2 := by
    intro l hl p hp
    refine oldbx p.1 p.2 ?_
    cases hn : s.noB p.1 p.2 with
    | false => rfl
    | true => exact absurd ⟨rfl, rfl⟩ (hl _ _ hn p hp)
  have refR : ∀ (l : List (Nat × Nat)), (∀ k g, s.noR k g = true → ∀ p ∈ l, ¬ (p.1 = k ∧ p.2 = g)) → ∀ p ∈ l, rw3 p.1 p.2 = rw_ p.1 p.2 := by
    intro l hl p hp
    refine oldrw p.1 p.2 ?_
    cases hn : s.noR p.1 p.2 with
    | false => rfl
    | true => exact absurd ⟨rfl, rfl⟩ (hl _ _ hn p hp)
  have lookB : ∀ k B, look (bs ++ dropBoxes s.boxes (keysOf bs ++ lentBs y.xs hin.boxes)) k = some B →
      (∃ k2 B2 cs, look t.boxes k2 = some B2 ∧ look nB k2 = some (k, B.gen) ∧ renCs nB nR B2.cells = some cs ∧ B.ty = B2.ty ∧ B.cells = cs ∧ bx3 k B.gen = bx2 k2 0) ∨
      (look s.boxes k = some B ∧ k ∉ lentBs y.xs hin.boxes ∧ bx3 k B.gen = bx k B.gen) := by
    intro k B hl
    rcases look_app hl with hl | ⟨hnk, hl⟩
    · obtain ⟨i, hi⟩ := List.getElem?_of_mem (mem_of_look hl)
      obtain ⟨b2, hb2, kg, cs, h1, h2, h3⟩ := sB.get' i hi
      cases h3
      have hmem := List.mem_of_getElem? hb2
      exact .inl ⟨b2.1, b2.2, cs, look_of_mem hatb hmem, h1, h2, rfl, rfl, nbx _ _ h1⟩
    · obtain ⟨h1, h2⟩ := look_dropBoxes hl
      simp only [List.mem_append, not_or] at h2
      refine .inr ⟨h1, h2.2, ?_⟩
      simp only [bx3, bxA]
      cases hi : invB nB k B.gen with
      | none => rfl
      | some k2 =>
        exfalso
        have hm := invB_some hi
        obtain ⟨B2, hB2⟩ := inT hm
        obtain ⟨i, hi⟩ := List.getElem?_of_mem (mem_of_look hB2)
        obtain ⟨b', hb', kg, cs, h3, _, h5⟩ := sB.get i hi
        rw [look_of_mem hanb' hm] at h3
        cases h3
        rw [h5] at hb'
        exact h2.1 (mem_keysOf (List.mem_of_getElem? hb'))
  have lookR : ∀ k R, look (rs ++ dropRows s.rows (keysOf rs ++ lentRs y.bs hin.rows)) k = some R →
      (∃ k2 R2, look t.rows k2 = some R2 ∧ look nR k2 = some (.row k R.gen) ∧ R.e = R2.e ∧ HEq R.l R2.l ∧ R = ⟨R.gen, R2.e, R2.l⟩ ∧ rw3 k R.gen = rw2 k2 0) ∨
      (look s.rows k = some R ∧ k ∉ lentRs y.bs hin.rows ∧ rw3 k R.gen = rw_ k R.gen) := by
    intro k R hl
    rcases look_app hl with hl | ⟨hnk, hl⟩
    · obtain ⟨b, hb, q, g, h1, h2⟩ := sR _ (mem_of_look hl)
      cases h2
      exact .inl ⟨b.1, b.2, look_of_mem hatr hb, h1, rfl, HEq.rfl, rfl, nrw _ _ _ h1⟩
    · obtain ⟨h1, h2⟩ := look_dropRows hl
      simp only [List.mem_append, not_or] at h2
      refine .inr ⟨h1, h2.2, ?_⟩
      simp only [rw3, rwA]
      cases hi : invR nR k R.gen with
      | none => rfl
      | some k2 =>
        exfalso
        have hm := invR_some hi
        obtain ⟨R2, hR2⟩ := inTR hm
        have := sR' _ (mem_of_look hR2) k R.gen (look_of_mem hanr' hm)
        exact h2.1 (mem_keysOf this)
  generalize hbb : bs ++ dropBoxes s.boxes (keysOf bs ++ lentBs y.xs hin.boxes) = BB at lookB
  generalize hrr : rs ++ dropRows s.rows (keysOf rs ++ lentRs y.bs hin.rows) = RR at lookR
  have oldlt : ∀ k B, look s.boxes k = some B → bx k B.gen < W.heap.size := fun k B hB => by
    obtain ⟨_, cv, hh, _⟩ := hS.boxes k B hB
    exact (Array.getElem?_eq_some_iff.1 hh).1
  have oldrlt : ∀ r R b, look s.rows r = some R → ob (rw_ r R.gen) = some b → b < W.heap.size := fun r R b hR hb => by
    obtain ⟨_, us, hown, _⟩ := hS.rows r R hR
    exact hown.lt hb
  have oldnz : ∀ k B, look s.boxes k = some B → k ∉ lentBs y.xs hin.boxes → ¬ Mut (hin.st y.x) (bxN bx y.xs) (rwN rw_ y.bs) (bx k B.gen) := by
    intro k B hB hnl hm
    rcases lent_mut hy hm with ⟨k2, B2, kg, h1, h2, h3, h4, h5⟩ | ⟨r, q, R, _, _, hR, hb⟩
    · have e := hS.bb kg.1 B2 k B h3 hB h5
      obtain ⟨bb, hbb⟩ := keyIn_look h1
      exact hnl (e ▸ lentBs_mem (mem_keysOf (mem_of_look hbb)) h2)
    · exact hS.br k B q R hB hR hb
  have oldrnz : ∀ r R b, look s.rows r = some R → r ∉ lentRs y.bs hin.rows → ob (rw_ r R.gen) = some b → ¬ Mut (hin.st y.x) (bxN bx y.xs) (rwN rw_ y.bs) b := by
    intro r R b hR hnl hb hm
    rcases lent_mut hy hm with ⟨k2, B2, kg, h1, h2, h3, h4, h5⟩ | ⟨r2, q, R2, h1, h2, hR2, hb2⟩
    · exact hS.br kg.1 B2 r R h3 hR (by rw [hb, h5])
    · have e := hS.rr q R2 r R b hR2 hR hb2 hb
      obtain ⟨bb, hbb⟩ := keyIn_look h1
      exact hnl (e ▸ lentRs_mem (mem_keysOf (mem_of_look hbb)) h2)
  have newown : ∀ b, (callEnv E s W bx rw_ hin y false).Own b → E.Own b := by
    rintro b (hz | hz)
    · exact (lent_own hS hy hz).2.1
    · exact Env.own_new hS.below hz
  have hMut : ∀ b, Mut (⟨s.slots, BB, RR⟩ : St Θ.T) bx3 rw3 b → Mut t bx2 rw2 b ∨ (Mut s bx rw_ b ∧ b < W.heap.size ∧ ¬ Mut (hin.st y.x) (bxN bx y.xs) (rwN rw_ y.bs) b) := by
    rintro b (⟨k, B, hB, e⟩ | ⟨r, R, hR, hb⟩)
    · rcases lookB k B hB with ⟨k2, B2, cs, h1, _, _, _, _, h2⟩ | ⟨h1, h2, h3⟩
      · refine .inl (.inl ⟨k2, B2, h1, ?_⟩)
        rw [gB _ (mem_of_look h1), ← h2]; exact e
      · rw [h3] at e
        exact .inr ⟨.inl ⟨k, B, h1, e⟩, by rw [← e]; exact oldlt k B h1, by rw [← e]; exact oldnz k B h1 h2⟩
    · rcases lookR r R hR with ⟨k2, R2, h1, _, _, _, _, h2⟩ | ⟨h1, h2, h3⟩
      · refine .inl (.inr ⟨k2, R2, h1, ?_⟩)
        rw [gR _ (mem_of_look h1), ← h2]; exact hb
      · rw [h3] at hb
        exact .inr ⟨.inr ⟨r, R, h1, hb⟩, oldrlt r R b h1 hb, oldrnz r R b h1 h2 hb⟩
  have F2 : ∀ b, FF (callEnv E s W bx rw_ hin y false) t bx2 rw2 W' b → FF E (⟨s.slots, BB, RR⟩ : St Θ.T) bx3 rw3 W' b := by
    rintro b ⟨h1, h2, h3⟩
    refine ⟨?_, h2, fun hm => ?_⟩
    · rcases h1 with (h1 | ⟨h1, _⟩) | h1
      · exact h1.1
      · cases h1
      · exact .inr (newown b h1)
    · rcases hMut b hm with h4 | ⟨h4, h5, h6⟩
      · exact h3 h4
      · rcases h1 with (h1 | ⟨h1, _⟩) | (h1 | h1)
        · exact h1.2.2 h4
        · cases h1
        · exact h6 h1
        · simp only [callEnv] at h1; omega
  have F1 : ∀ b, FF E s bx rw_ W b → FF E (⟨s.slots, BB, RR⟩ : St Θ.T) bx3 rw3 W' b := by
    intro b hb
    refine ⟨hb.1, Nat.lt_of_lt_of_le hb.2.1 hT.below.size, fun hm => ?_⟩
    rcases hMut b hm with h4 | ⟨h4, _, _⟩
    · have : (callEnv E s W bx rw_ hin y false).Own b := by
        rcases h4 with ⟨k, B, hB, e⟩ | ⟨r, R, hR, e⟩
        · rw [← e]; exact (hT.boxes k B hB).1
        · exact (hT.rows r R hR).1 b e
      rcases this with hz | hz
      · exact hb.2.2 (lent_own hS hy hz).1
      · have := hb.2.1; simp only [callEnv] at hz; omega
    · exact hb.2.2 h4
  have W1 : ∀ b, b < W.heap.size → ¬ Mut (hin.st y.x) (bxN bx y.xs) (rwN rw_ y.bs) b → W'.heap[b]? = W.heap[b]? := fun b hb hz => hT.below.block b hb hz
  have W0 : ∀ b, FF E s bx rw_ W b → W'.heap[b]? = W.heap[b]? := fun b hb => W1 b hb.2.1 (fun hz => hb.2.2 (lent_own hS hy hz).1)
  have rc : ∀ c c' u, renC nB nR c = some c' → RCV Θ W' (FF (callEnv E s W bx rw_ hin y false) t bx2 rw2 W') bx2 rw2 c u → RCV Θ W' (FF E (⟨s.slots, BB, RR⟩ : St Θ.T) bx3 rw3 W') bx3 rw3 c' u := by
    intro c c' u hc hu
    cases c with
    | v p => simp only [renC, Option.some.injEq] at hc; subst hc; exact Rep.mono hu F2 (fun _ _ => rfl)
    | nil => simp only [renC, Option.some.injEq] at hc; subst hc; exact hu
    | e0 => simp only [renC, Option.some.injEq] at hc; subst hc; exact hu
    | np => simp only [renC, Option.some.injEq] at hc; subst hc; exact hu
    | ni => simp only [renC, Option.some.injEq] at hc; subst hc; exact hu
    | nm => simp only [renC, Option.some.injEq] at hc; subst hc; exact hu
    | row r g =>
      simp only [renC] at hc
      split at hc <;> try (cases hc; done)
      rename_i hg
      have hg0 : g = 0 := by simpa using hg
      subst hg0
      have e : u = rw2 r 0 := hu
      rcases entR_spec (eR _ (mem_of_look hc)) with ⟨h1, h2⟩ | ⟨q, g', e', _, _⟩
      · simp only at h1 h2
        have hbo := ht.bok _ (mem_of_look h2)
        cases c' with
        | row q g' => exact e.trans (nrw _ _ _ hc).symm
        | nil =>
          have := lentR r h1 (inTR (mem_of_look hc))
          rw [e, this]
          simp only [rwN, h2]
          rfl
        | _ => simp [bindOk] at hbo
      · simp only at e'
        subst e'
        exact e.trans (nrw _ _ _ hc).symm
    | box k g off =>
      simp only [renC] at hc
      split at hc <;> try (cases hc; done)
      rename_i hg
      have hg0 : g = 0 := by simpa using hg
      subst hg0
      split at hc <;> try (cases hc; done)
      rename_i kg hkg
      cases hc
      have e : u = .pointer (some ⟨bx2 k 0, off, none⟩) := hu
      show u = .pointer (some ⟨bx3 kg.1 kg.2, off, none⟩)
      rw [nbx _ _ hkg]; exact e
    | fn f caps =>
      simp only [renC] at hc
      split at hc <;> try (cases hc; done)
      rename_i l hl
      cases hc
      have e : u = .func (.func f) #[] (caps.map fun kg => Value.pointer (some ⟨bx2 kg.1 kg.2, 0, none⟩)).toArray := hu
      show u = .func (.func f) #[] (l.map fun kg => Value.pointer (some ⟨bx3 kg.1 kg.2, 0, none⟩)).toArray
      rw [e]
      congr 2
      have := renCaps_spec _ _ hl
      clear hl hu e
      induction this with
      | nil => rfl
      | cons h _ ih =>
        simp only [List.map_cons]
        rw [ih, nbx _ _ h.2, h.1]
  have rcs : ∀ cs cs' us, renCs nB nR cs = some cs' → All2 (RCV Θ W' (FF (callEnv E s W bx rw_ hin y false) t bx2 rw2 W') bx2 rw2) cs us → All2 (RCV Θ W' (FF E (⟨s.slots, BB, RR⟩ : St Θ.T) bx3 rw3 W') bx3 rw3) cs' us := by
    intro cs
    induction cs with
    | nil => intro cs' us h hu; cases h; cases hu; exact .nil
    | cons c cs ih =>
      intro cs' us h hu
      simp only [renCs] at h
      split at h <;> try (cases h; done)
      rename_i c' hc
      split at h <;> try (cases h; done)
      rename_i l hl
      cases h
      cases hu with | cons a b => exact .cons (rc _ _ _ hc a) (ih _ _ hl b)
  have ra : ∀ v u, (∀ k g, s.noB k g = true → ∀ p ∈ v.mB, ¬ (p.1 = k ∧ p.2 = g)) → (∀ k g, s.noR k g = true → ∀ p ∈ v.mR, ¬ (p.1 = k ∧ p.2 = g)) → RAV Θ W (FF E s bx rw_ W) bx rw_ v u → RAV Θ W' (FF E (⟨s.slots, BB, RR⟩ : St Θ.T) bx3 rw3 W') bx3 rw3 v u :=
    fun v u h1 h2 hr => RAV.trans F1 W0 (refB _ h1) (refR _ h2) hr
  have hkeeps : Keeps E W' := by
    refine ⟨hT.below.os.trans hS.below.os, hT.below.tape.trans hS.below.tape, hT.below.output.trans hS.below.output, Nat.le_trans hS.below.size hT.below.size, fun k hk hz => ?_⟩
    rw [W1 k (Nat.lt_of_lt_of_le hk hS.below.size) (fun hm => ?_), hS.below.block k hk hz]
    rcases (lent_own hS hy hm).2.1 with h | h
    · exact hz h
    · omega
  have main : Sim Θ E (⟨s.slots, BB, RR⟩ : St Θ.T) tm W' bx3 rw3 := by
    refine ⟨hkeeps, hS.glob, fun k b hkb => ?_, fun r v hrv => ?_, fun r g => ?_, fun k B hB => ?_, fun r R hR => ?_, ?_, ?_, ?_, hS.len, fun i => ra _ _ (fun k g hn => noB_slots hn i) (fun k g hn => noR_slots hn i) (hS.slots i)⟩
    · obtain ⟨h1, h2⟩ := hS.pinB k b hkb
      refine ⟨h1, fun B hB h0 => ?_⟩
      rcases lookB k B hB with ⟨k2, B2, cs, h3, h4, _, _, _, h5⟩ | ⟨h3, _, h4⟩
      · rcases entB_spec (eB _ (mem_of_look h4)) with ⟨h6, h7⟩ | ⟨_, h7⟩
        · simp only at h6 h7
          obtain ⟨B0, hB0, hg0⟩ := curB_look (ht.cur _ (mem_of_look h7))
          simp only at hB0 hg0
          have := h2 B0 hB0 (by rw [hg0]; exact h0)
          rw [← h0, h5, lentB k2 _ h6 h7 ⟨B2, h3⟩, h0]; exact this
        · simp only at h7; omega
      · rw [h0] at h4; rw [h4]; exact h2 B h3 h0
    · obtain ⟨h1, h2⟩ := hS.pinR r v hrv
      refine ⟨h1, fun R hR h0 => ?_⟩
      rcases lookR r R hR with ⟨k2, R2, h3, h4, _, _, _, h5⟩ | ⟨h3, _, h4⟩
      · rcases entR_spec (eR _ (mem_of_look h4)) with ⟨h6, h7⟩ | ⟨q, g, e, _, h7⟩
        · simp only at h6 h7
          have hbo := ht.bok _ (mem_of_look h7)
          simp only [bindOk] at hbo
          split at hbo
          · rename_i R0 hR0
            have hg0 : R0.gen = R.gen := by simpa using hbo
            have := h2 R0 hR0 (by rw [hg0]; exact h0)
            have e1 := lentR k2 h6 ⟨R2, h3⟩
            rw [← h0, h5, e1]
            simp only [rwN, h7]
            rw [h0]; exact this
          · cases hbo
        · simp only at e
          cases e
          have := pin_le h1
          omega
      · rw [h0] at h4; rw [h4]; exact h2 R h3 h0
    · simp only [rw3, rwA]
      split
      · exact hT.rwsl _ _
      · exact hS.rwsl _ _
    · rcases lookB k B hB with ⟨k2, B2, cs, h3, h4, h5, h6, h7, h8⟩ | ⟨h3, h4, h5⟩
      · obtain ⟨a1, cv, hh, ha⟩ := hT.boxes k2 B2 h3
        rw [gB _ (mem_of_look h3)] at a1 hh
        rw [h8, h6, h7]
        exact ⟨newown _ a1, cv, hh, rcs _ _ _ h5 ha⟩
      · obtain ⟨a1, cv, hh, ha⟩ := hS.boxes k B h3
        rw [h5]
        refine ⟨a1, cv, by rw [W1 _ (oldlt k B h3) (oldnz k B h3 h4)]; exact hh, ?_⟩
        exact RCs.trans F1 W0 (refB _ (fun k g hn => noB_boxes hn h3)) (refR _ (fun k g hn => noR_boxes hn h3)) ha
    · rcases lookR r R hR with ⟨k2, R2, h3, h4, _, _, h5, h6⟩ | ⟨h3, h4, h5⟩
      · obtain ⟨a1, us, hown, har⟩ := hT.rows k2 R2 h3
        rw [gR _ (mem_of_look h3)] at a1 hown
        rw [h6, h5]
        exact ⟨fun b hb => newown b (a1 b hb), us, hown, har.mono fun x u hx => Rep.mono hx F2 (fun _ _ => rfl)⟩
      · obtain ⟨a1, us, hown, har⟩ := hS.rows r R h3
        rw [h5]
        refine ⟨a1, us, ?_, har.mono fun x u hx => Rep.mono hx F1 W0⟩
        rcases hown with ⟨hsl, hown⟩ | ⟨hsl, b, es, ck, e, hg, hrest⟩
        rotate_left
        · have hb : ob (rw_ r R.gen) = some b := by rw [e]; rfl
          exact .inr ⟨hsl, b, es, ck, e, by rw [W1 _ (oldrlt r R b h3 hb) (oldrnz r R b h3 h4 hb)]; exact hg, hrest⟩
        refine .inl ⟨hsl, ?_⟩
        rcases hown with ho | ho
        · have ho0 := ho
          by_cases hob : ob (rw_ r R.gen) = none
          · have hk := OwnsS.kept (W' := W) (row := none) (.inl ho) ⟨rfl, rfl, rfl, Nat.le_refl _, fun _ _ _ => rfl⟩ (.inl hob)
            rcases ho.2 with ⟨e, e'⟩ | ⟨g, cap, cur, e, _, _, hnc, _⟩
            · rw [e]
              have hx : us = [] := List.eq_nil_of_length_eq_zero (by rw [ho0.1, e']; simp)
              rw [hx, e']; exact OwnsS.nil
            · rw [e] at hob ⊢
              simp only [ob] at hob
              split at hob
              · rename_i hc
                subst hc
                have hl0 : R.l.length = 0 := by omega
                have hx : us = [] := List.eq_nil_of_length_eq_zero (by rw [ho0.1, hl0]; simp)
                rw [hx, hl0]; exact .inr (.inl ⟨_, rfl, rfl, rfl⟩)
              · cases hob
          · obtain ⟨b, hb⟩ := Option.ne_none_iff_exists'.1 hob
            have hbl := oldrlt r R b h3 hb
            have hbz := oldrnz r R b h3 h4 hb
            rcases ho.2 with ⟨e, e'⟩ | ⟨g, cap, cur, e, h0, hg, r1, r2, r3, r4⟩
            · rw [e] at hb; cases hb
            · refine .inl ⟨ho0.1, .inr ⟨g, cap, cur, e, h0, ?_, r1, r2, r3, r4⟩⟩
              have : g = b := by
                rw [e] at hb
                simp only [ob] at hb
                split at hb
                · cases hb
                · cases hb; rfl
              subst this
              rw [W1 _ hbl hbz]; exact hg
        · rcases ho with ho | ⟨hq, g, cap, cur, fz, e, hc0, hg, hr⟩
          · exact .inr (.inl ho)
          · have hb : ob (rw_ r R.gen) = some g := by rw [e]; simp [ob, hc0]
            exact .inr (.inr ⟨hq, g, cap, cur, fz, e, hc0, by rw [W1 _ (oldrlt r R g h3 hb) (oldrnz r R g h3 h4 hb)]; exact hg, hr⟩)
    · intro k B k' B' hB hB' he
      rcases lookB k B hB with ⟨k2, B2, cs, h3, h4, _, _, _, h8⟩ | ⟨h3, h4, h5⟩ <;> rcases lookB k' B' hB' with ⟨k2', B2', cs', h3', h4', _, _, _, h8'⟩ | ⟨h3', h4', h5'⟩
      · have e := hT.bb k2 B2 k2' B2' h3 h3' (by rw [gB _ (mem_of_look h3), gB _ (mem_of_look h3')]; rw [← h8, ← h8']; exact he)
        subst e
        rw [h4] at h4'
        simp only [Option.some.injEq, Prod.mk.injEq] at h4'
        exact h4'.1
      · exfalso
        have := (hT.boxes k2 B2 h3).1
        rw [gB _ (mem_of_look h3)] at this
        rw [h8, h5'] at he
        rw [he] at this
        rcases this with hz | hz
        · exact oldnz k' B' h3' h4' hz
        · have := oldlt k' B' h3'; simp only [callEnv] at hz; omega
      · exfalso
        have := (hT.boxes k2' B2' h3').1
        rw [gB _ (mem_of_look h3')] at this
        rw [h8', h5] at he
        rw [← he] at this
        rcases this with hz | hz
        · exact oldnz k B h3 h4 hz
        · have := oldlt k B h3; simp only [callEnv] at hz; omega
      · rw [h5, h5'] at he
        exact hS.bb k B k' B' h3 h3' he
    · intro r R r' R' b hR hR' hb hb'
      rcases lookR r R hR with ⟨k2, R2, h3, h4, _, _, _, h8⟩ | ⟨h3, h4, h5⟩ <;> rcases lookR r' R' hR' with ⟨k2', R2', h3', h4', _, _, _, h8'⟩ | ⟨h3', h4', h5'⟩
      · have e := hT.rr k2 R2 k2' R2' b h3 h3' (by rw [gR _ (mem_of_look h3), ← h8]; exact hb) (by rw [gR _ (mem_of_look h3'), ← h8']; exact hb')
        subst e
        rw [h4] at h4'
        simp only [Option.some.injEq, CV.row.injEq] at h4'
        exact h4'.1
      · exfalso
        have := (hT.rows k2 R2 h3).1 b (by rw [gR _ (mem_of_look h3), ← h8]; exact hb)
        rw [h5'] at hb'
        rcases this with hz | hz
        · exact oldrnz r' R' b h3' h4' hb' hz
        · have := oldrlt r' R' b h3' hb'; simp only [callEnv] at hz; omega
      · exfalso
        have := (hT.rows k2' R2' h3').1 b (by rw [gR _ (mem_of_look h3'), ← h8']; exact hb')
        rw [h5] at hb
        rcases this with hz | hz
        · exact oldrnz r R b h3 h4 hb hz
        · have := oldrlt r R b h3 hb; simp only [callEnv] at hz; omega
      · rw [h5] at hb
        rw [h5'] at hb'
        exact hS.rr r R r' R' b h3 h3' hb hb'
    · intro k B r R hB hR he
      rcases lookB k B hB with ⟨k2, B2, cs, h3, h4, _, _, _, h8⟩ | ⟨h3, h4, h5⟩ <;> rcases lookR r R hR with ⟨k2', R2', h3', h4', _, _, _, h8'⟩ | ⟨h3', h4', h5'⟩
      · exact hT.br k2 B2 k2' R2' h3 h3' (by rw [gB _ (mem_of_look h3), gR _ (mem_of_look h3'), ← h8, ← h8']; exact he)
      · have := (hT.boxes k2 B2 h3).1
        rw [gB _ (mem_of_look h3), ← h8] at this
        rw [h5'] at he
        rcases this with hz | hz
        · exact oldrnz r R _ h3' h4' he hz
        · have := oldrlt r R _ h3' he; simp only [callEnv] at hz; omega
      · have := (hT.rows k2' R2' h3').1 (bx3 k B.gen) (by rw [gR _ (mem_of_look h3'), ← h8']; exact he)
        rw [h5] at this
        rcases this with hz | hz
        · exact oldnz k B h3 h4 hz
        · have := oldlt k B h3; simp only [callEnv] at hz; omega
      · rw [h5, h5'] at he
        exact hS.br k B r R h3 h3' he
  have hres : RAV Θ W' (FF E (⟨s.slots, BB, RR⟩ : St Θ.T) bx3 rw3 W') bx3 rw3 v (tupleOf us) := by
    have hlen := hT.len
    have hsl : ∀ (i : Nat) (a : AV Θ.T) (u : Value), t.slots[i]? = some a → us[i]? = some u → RAV Θ W' (FF (callEnv E s W bx rw_ hin y false) t bx2 rw2 W') bx2 rw2 a u := by
      intro i a u ha hu
      have := hT.slots i
      simpa [St.at_, List.getD_eq_getElem?_getD, Array.getD_eq_getD_getElem?, ha, hu] using this
    have hall : All2 (RAV Θ W' (FF (callEnv E s W bx rw_ hin y false) t bx2 rw2 W') bx2 rw2) t.slots us := All2.of_get (by simpa using hlen) hsl
    revert hall hv
    generalize t.slots = sl
    intro hv hall
    have sums : ∀ (sl : List (AV Θ.T)) (us : List Value) (l : List (CV Θ.T ⊕ List (CV Θ.T))), renSs nB nR sl = some l → All2 (RAV Θ W' (FF (callEnv E s W bx rw_ hin y false) t bx2 rw2 W') bx2 rw2) sl us → All2 (RSum Θ W' (FF E (⟨s.slots, BB, RR⟩ : St Θ.T) bx3 rw3 W') bx3 rw3) l us := by
      intro sl
      induction sl with
      | nil => intro us l h ha; cases h; cases ha; exact .nil
      | cons a sl ih =>
        intro us l h ha
        simp only [renSs] at h
        split at h <;> try (cases h; done)
        rename_i x hx
        split at h <;> try (cases h; done)
        rename_i l' hl'
        cases h
        cases ha with | cons h1 t1 =>
        refine .cons ?_ (ih _ _ hl' t1)
        cases a with
        | c c =>
          simp only [renS] at hx
          cases hc : renC nB nR c with
          | none => simp [hc] at hx
          | some c' => simp [hc] at hx; subst hx; exact rc _ _ _ hc h1
        | agg cs =>
          simp only [renS] at hx
          cases hc : renCs nB nR cs with
          | none => simp [hc] at hx
          | some c' => simp [hc] at hx; subst hx; obtain ⟨us, e, ha⟩ := h1; exact ⟨us, e, rcs _ _ _ hc ha⟩
        | _ => simp [renS] at hx
    have many : ∀ (sl : List (AV Θ.T)) (us : List Value), (us.length = 1 → False) → (renSs nB nR sl).map AV.tup = some v → All2 (RAV Θ W' (FF (callEnv E s W bx rw_ hin y false) t bx2 rw2 W') bx2 rw2) sl us → RAV Θ W' (FF E (⟨s.slots, BB, RR⟩ : St Θ.T) bx3 rw3 W') bx3 rw3 v (tupleOf us) := by
      intro sl us hne h ha
      cases hc : renSs nB nR sl with
      | none => simp [hc] at h
      | some l =>
        simp [hc] at h
        subst h
        unfold tupleOf
        rw [dif_neg (by simpa using hne)]
        exact ⟨us, rfl, sums _ _ _ hc ha⟩
    cases hall with
    | nil => exact many [] [] (by simp) hv .nil
    | cons h1 t1 =>
      cases t1 with
      | nil =>
        rename_i a u
        have e : tupleOf [u] = u := by unfold tupleOf; simp
        rw [e]
        simp only [resA] at hv
        cases a with
        | c c =>
          simp only [renA] at hv
          cases hc : renC nB nR c with
          | none => simp [hc] at hv
          | some c' => simp [hc] at hv; subst hv; exact rc _ _ _ hc h1
        | agg cs =>
          simp only [renA] at hv
          cases hc : renCs nB nR cs with
          | none => simp [hc] at hv
          | some c' => simp [hc] at hv; subst hv; obtain ⟨us, e, ha⟩ := h1; exact ⟨us, e, rcs _ _ _ hc ha⟩
        | rel r g j sz off =>
          simp only [renA] at hv
          split at hv <;> try (cases hv; done)
          rename_i hg
          have hg0 : g = 0 := by simpa using hg
          subst hg0
          split at hv <;> try (cases hv; done)
          rename_i c hc
          split at hv <;> try (cases hv; done)
          rename_i q g'
          cases hv
          obtain ⟨b, n, cap, e1, h0, h2, e2⟩ := h1
          exact ⟨b, n, cap, by rw [nrw _ _ _ hc]; exact e1, h0, h2, e2⟩
        | _ => simp [renA] at hv
      | cons h2 t2 => exact many _ _ (by simp) hv (.cons h1 (.cons h2 t2))
  cases dst with
  | none => exact ⟨bx3, rw3, main⟩
  | some d => exact ⟨bx3, rw3, Sim.put main d hres⟩
end
end Go.Den
namespace Go.Den
open Go Go.RowKit
def KV.av {T : TypeId → Type} : KV T → AV T
  | .c x => .c x
  | .agg cs => .agg cs
  | .cel xs => .cel xs
def sumAV {T : TypeId → Type} : CV T ⊕ List (CV T) → AV T
  | .inl c => .c c
  | .inr cs => .agg cs
structure Spec (T : TypeId → Type) : Type where
  hin : Shape
  outs : List (Ex × Shape)
  F : hin.X T → Option (Outs T outs)
def Post (Θ : Tab) (E : Env) (outs : List (Ex × Shape)) (z : Outs Θ.T outs) (e : Ending) (w' : World) : Prop :=
  outTo outs (fun ex _ t => match ex with
    | .pan ty => ∃ u bx rw_, e = .panicked [{ v := .iface ty u, recovered := false }] ∧ Sim Θ E t #[u] w' bx rw_
    | ex => ex = .ret ∧ ∃ us bx rw_, e = .returned (tupleOf us) ∧ Sim Θ E t us.toArray w' bx rw_) z
structure PCalls (P : Program) (Θ : Tab) (g : FuncId) (sp : Spec Θ.T) : Prop where
  enters : Go.Proofs.Enters P g
  lent : sp.hin.lentOk = true
  calls : ∀ x z, sp.F x = some z → ∀ (E : Env) (vs : List Value) (bx : Nat → Nat → Nat) (rw_ : Nat → Nat → Value), E.D = [] → Sim Θ E (sp.hin.st x) vs.toArray E.w0 bx rw_ → Calls P g vs.toArray E.w0 (Post Θ E sp.outs z)
structure PYields (P : Program) (Θ : Tab) (y : Nat) (sp : Spec Θ.T) : Prop where
  lent : sp.hin.lentOk = true
  arity : ∀ R, Θ.Y y = some R → R.ps.size + R.live.length = sp.hin.slots.length
  rounds : ∀ x z, sp.F x = some z → ∀ (E : Env) (lb m : Nat) (R : Rng) (rec : Loop) (args : List Value) (bx : Nat → Nat → Nat) (rw_ : Nat → Nat → Value), E.D = [] → RRec Θ E.w0 lb y R rec → ¬ E.Z lb →
    Sim Θ E (sp.hin.st x) (args ++ R.live.map fun i => rec.tmps.getD i undef).toArray E.w0 bx rw_ →
    RoundIn Fence.wide m P lb rec.fn ((R.ps.zip args.toArray).foldl (fun t p => t.setIfInBounds p.1 p.2) rec.tmps) R.assign R.body E.w0 (Post Θ E sp.outs z)
structure NSpec (T : TypeId → Type) : Type where
  hin : Shape
  outs : List (Ex × Shape)
  R : hin.X T → Outs T outs → Prop
def NSpec.one {T : TypeId → Type} (ns : NSpec T) (z : Outs T ns.outs) : Spec T := ⟨ns.hin, ns.outs, fun _ => some z⟩
def NSpec.none_ {T : TypeId → Type} (ns : NSpec T) : Spec T := ⟨ns.hin, ns.outs, fun _ => none⟩
structure PAmb (P : Program) (Θ : Tab) (g : FuncId) (ns : NSpec Θ.T) : Prop where
  enters : Go.Proofs.Enters P g
  lent : ns.hin.lentOk = true
  calls : ∀ x, ∀ (E : Env) (vs : List Value) (bx : Nat → Nat → Nat) (rw_ : Nat → Nat → Value), E.D = [] → Sim Θ E (ns.hin.st x) vs.toArray E.w0 bx rw_ → Calls P g vs.toArray E.w0 fun e w' => ∃ z, ns.R x z ∧ Post Θ E ns.outs z e w'
structure Cx where
  P : Program
  Θ : Tab
  eqs : List TypeId
  Γ : List (Nat × Spec Θ.T)
  Δ : List (Nat × Spec Θ.T)
  N : List (Nat × NSpec Θ.T)
  keep : List (Nat × Nat × Nat)
structure Cx.Ok (C : Cx) : Prop where
  mixed : C.P.follows .mixedOrders = true
  eqs : ∀ t ∈ C.eqs, EqT C.P t
  Γ : ∀ p ∈ C.Γ, PCalls C.P C.Θ p.1 p.2
  Δ : ∀ p ∈ C.Δ, PYields C.P C.Θ p.1 p.2
  N : ∀ p ∈ C.N, PAmb C.P C.Θ p.1 p.2
def isMem : Op → Bool
  | .alloc _ => true
  | .box _ _ => true
  | .makeSlice _ _ _ => true
  | .buildSlice _ _ _ => true
  | .store _ _ _ => true
  | .makeMap _ _ => true
  | .mapUpdate _ _ _ _ => true
  | .call c => match c.callee with
    | .builtin .append => true
    | _ => false
  | _ => false
section
variable (C : Cx)
def aMark (s : St C.Θ.T) (d src : Nat) (v : AV C.Θ.T) (r g : Nat) : Option (Bool × St C.Θ.T) := match look s.rows r, C.P.underlying src with
  | some R, some (.slice e) => (match C.P.underlying e with
    | some (.int .u8) => if (R.gen = g ∧ R.l.isEmpty = false) ∧ slE R.e = true then some (true, (s.freeze [r]).put (some d) (frA s [r] v)) else none
    | _ => none)
  | _, _ => none
def opLitR (s : St C.Θ.T) (o : Oper) : Option (Bool × St C.Θ.T) := match o.op with
  | .buildSlice t len parts => (match o.dst with
    | some d => aLitR C.P C.Θ s d t len parts
    | none => none)
  | .convert src t x => (match o.dst with
    | some d => (match s.ev x with
      | .c (.v (.str b)) => aBytes C.P C.Θ s d src t b
      | .c (.row r g) => if src = t then aMark C s d src (s.ev x) r g else (match opV C.P C.Θ C.eqs (s.freeze [r]) o.op with
        | some (c, v) => some (c, (s.freeze [r]).put o.dst v)
        | none => none)
      | _ => none)
    | none => none)
  | .slice _ x _ _ _ => (match s.ev x with
    | .c (.row r _) => (match opV C.P C.Θ C.eqs (s.freeze [r]) o.op with
      | some (c, v) => some (c, (s.freeze [r]).put o.dst v)
      | none => none)
    | _ => none)
  | _ => none
def plain1 (s : St C.Θ.T) (o : Oper) : Option (Bool × St C.Θ.T) := if litR C.Θ o = true then opLitR C s o else if isMem o.op then opA C.P C.Θ s o else match opV C.P C.Θ C.eqs s o.op with
  | some (c, v) => some (c, s.put o.dst v)
  | none => none
def calleeOf (s : St C.Θ.T) (f : Operand) : Option (Nat × List (AV C.Θ.T) × List (AV C.Θ.T)) := match s.ev f with
  | .c (.fn g caps) => some (g, [], caps.map fun kg => .c (.box kg.1 kg.2 0))
  | .mth g l => some (g, l.map sumAV, [])
  | _ => none
structure Hit (T : TypeId → Type) : Type where
  sp : Spec T
  y : Ext T sp.hin
def flatOuts (fe : TypeId → Bool) (es : List (Ex × Shape)) : Bool := es.all fun o => (AT.hss o.2.slots).all Leaf.flat && ((boxHs o.2.boxes).all Leaf.flat && o.2.rows.all fun r => fe r.2)
def rowsIn {T : TypeId → Type} : List (CV T) → List Nat
  | [] => []
  | .row r _ :: l => r :: rowsIn l
  | _ :: l => rowsIn l
def leafs {T : TypeId → Type} (s : St T) : List Leaf → List (CV T) → Option (List (PV T))
  | [], _ => some []
  | l :: ls, cs => match cs with
    | [] => none
    | c :: r => if notMap s c = true then (match s.get l c with
      | some x => match leafs s ls r with
        | some xs => some (l.mk x :: xs)
        | none => none
      | none => none) else none
def celA {T : TypeId → Type} (rd : St T → AV T → Option (List (CV T))) (s : St T) (ls : List Leaf) (v : AV T) : AV T := match rd s v with
  | some cs => match leafs s ls cs with
    | some xs => .cel xs
    | none => v
  | none => v
def lendA {T : TypeId → Type} (rd : St T → AV T → Option (List (CV T))) (s : St T) (ks : List Nat) : AT → AV T → AV T
  | .cel ls, v => match v with
    | .cel xs => .cel (xs.take ls.length)
    | v => celA rd s ls v
  | _, v => frA s ks v
def lendAs {T : TypeId → Type} (rd : St T → AV T → Option (List (CV T))) (s : St T) (ks : List Nat) : List AT → List (AV T) → List (AV T)
  | [], vs => vs
  | t :: ts, vs => match vs with
    | [] => []
    | v :: r => lendA rd s ks t v :: lendAs rd s ks ts r
def refKs {T : TypeId → Type} : List (AV T) → List Nat
  | [] => []
  | v :: r => v.mR.map (·.1) ++ refKs r
def entryOf {T : TypeId → Type} (fe : TypeId → Bool) (rd : St T → AV T → Option (List (CV T))) (sp : Spec T) (s : St T) (avs : List (AV T)) : Option (Ext T sp.hin) :=
  if sp.hin.cel then (if plainIn sp.hin && flatOuts fe sp.outs then sp.hin.extB ⟨lendAs rd s (refKs avs) sp.hin.slots avs, [], []⟩ else none) else sp.hin.extB ⟨avs, s.boxes, s.rows⟩
def findSpec {T : TypeId → Type} (fe : TypeId → Bool) (rd : St T → AV T → Option (List (CV T))) : List (Nat × Spec T) → Nat → St T → List (AV T) → Option (Hit T)
  | [], _, _, _ => none
  | p :: r, g, s, avs => if p.1 = g then (match entryOf fe rd p.2 s avs with
    | some y => some ⟨p.2, y⟩
    | none => findSpec fe rd r g s avs) else findSpec fe rd r g s avs
structure Ready (T : TypeId → Type) : Type where
  s : St T
  sp : Spec T
  avs : List (AV T)
  y : Ext T sp.hin
def ready {T : TypeId → Type} (fe : TypeId → Bool) (rd : St T → AV T → Option (List (CV T))) (Γ : List (Nat × Spec T)) (s : St T) (g : Nat) (avs : List (AV T)) : Option (Ready T) := match findSpec fe rd Γ g s avs with
  | some h => if (flatOuts fe h.sp.outs || h.y.hs.all notRow) then some ⟨s, h.sp, avs, h.y⟩
    else match h.sp.hin.extB ⟨avs.map (frA s (rowsIn h.y.hs)), (s.freeze (rowsIn h.y.hs)).boxes, (s.freeze (rowsIn h.y.hs)).rows⟩ with
      | some y => if y.hs.all notRow then some ⟨s.freeze (rowsIn h.y.hs), h.sp, avs.map (frA s (rowsIn h.y.hs)), y⟩ else none
      | none => none
  | none => none
def callK {T : TypeId → Type} {R : Type} (fe : TypeId → Bool) (r : Ready T) (dst : Option Nat) (K : St T → Option R) : Option R := (r.sp.F r.y.x).bind fun z => outTo r.sp.outs (fun ex _ t => match ex with
  | .ret => match after fe r.s r.sp.hin r.y t (flatOuts fe r.sp.outs) dst with
    | some s' => K s'
    | none => none
  | _ => none) z
def stepC {R : Type} (kn : List (Nat × Bool)) (s : St C.Θ.T) (o : Oper) (K : St C.Θ.T → Option R) : Option R := match o.op with
  | .pick c x y => match (match c with
      | .tmp t => look kn t
      | _ => none) with
    | some b => if b then K (s.put o.dst (s.ev x)) else K (s.put o.dst (s.ev y))
    | none => match s.ev c with
      | .c (.v (.bool b)) => cond b (K (s.put o.dst (s.ev x))) (K (s.put o.dst (s.ev y)))
      | _ => none
  | .call c => match c.callee with
    | .value f => match s.ev f with
      | .yld y l => match ready (flatE C.Θ) (St.cellsAt C.Θ) C.Δ s y (c.args.toList.map s.ev ++ l.map KV.av) with
        | some r => callK (flatE C.Θ) r o.dst K
        | none => none
      | _ => match calleeOf C s f with
      | some q => match ready (flatE C.Θ) (St.cellsAt C.Θ) C.Γ s q.1 (q.2.1 ++ c.args.toList.map s.ev ++ q.2.2) with
        | some r => callK (flatE C.Θ) r o.dst K
        | none => none
      | none => none
    | _ => match plain1 C s o with
      | some (c, s') => cond c (K s') none
      | none => none
  | _ => match plain1 C s o with
    | some (c, s') => cond c (K s') none
    | none => none
def stepD (s : St C.Θ.T) (o : Oper) : Option (St C.Θ.T) := stepC C [] s o some
def forget (kn : List (Nat × Bool)) (d : Option Nat) : List (Nat × Bool) := match d with
  | none => kn
  | some d => drop1 kn d
def opsC {R : Type} (ops : Array Oper) : List Oper → List (Nat × Bool) → St C.Θ.T → (St C.Θ.T → Option R) → Option R
  | [], _, s, K => K s
  | o :: rest, kn, s, K => match o.guard with
    | none => stepC C kn s o fun s' => opsC ops rest (forget kn o.dst) s' K
    | some (j, want) => match (ops[j]?).bind (·.dst) with
      | none => none
      | some d => match look kn d with
        | some b => if b = want then stepC C kn s o fun s' => opsC ops rest (forget kn o.dst) s' K else opsC ops rest (forget kn o.dst) (s.put o.dst .skip) K
        | none => match s.at_ d with
          | .c (.v (.bool b)) => cond b
            (if want then stepC C ((d, true) :: kn) s o fun s' => opsC ops rest (forget ((d, true) :: kn) o.dst) s' K else opsC ops rest (forget ((d, true) :: kn) o.dst) (s.put o.dst .skip) K)
            (if want then opsC ops rest (forget ((d, false) :: kn) o.dst) (s.put o.dst .skip) K else stepC C ((d, false) :: kn) s o fun s' => opsC ops rest (forget ((d, false) :: kn) o.dst) s' K)
          | .skip => opsC ops rest (forget kn o.dst) (s.put o.dst .skip) K
          | _ => none
def guardD (ops : Array Oper) (s : St C.Θ.T) (o : Oper) : Option (St C.Θ.T) := match o.guard with
  | none => stepD C s o
  | some (j, want) => match (ops[j]?).bind (·.dst) with
    | none => none
    | some d => match s.at_ d with
      | .c (.v (.bool b)) => if b = want then stepD C s o else some (s.put o.dst .skip)
      | .skip => some (s.put o.dst .skip)
      | _ => none
def opsD (ops : Array Oper) : List Oper → St C.Θ.T → Option (St C.Θ.T)
  | [], s => some s
  | o :: rest, s => match guardD C ops s o with
    | some s' => opsD ops rest s'
    | none => none
end
def Known {T : TypeId → Type} (kn : List (Nat × Bool)) (s : St T) : Prop := ∀ d b, look kn d = some b → s.at_ d = .c (.v (.bool b))
section
variable {C : Cx} {R : Type}
theorem look_drop1 {B : Type} (l : List (Nat × B)) (k j : Nat) : look (drop1 l k) j = if k = j then none else look l j := by
  induction l with
  | nil => simp [drop1, look]
  | cons x l ih =>
    obtain ⟨i, c⟩ := x
    simp only [drop1]
    by_cases h : i = k
    · subst h
      rw [if_pos rfl, ih]
      by_cases hj : i = j
      · simp [hj]
      · simp [hj, look]
    · rw [if_neg h]
      simp only [look, ih]
      by_cases hij : i = j
      · subst hij
        have : ¬ k = i := fun e => h e.symm
        simp [this]
      · simp [hij]
theorem at_put_ne {T : TypeId → Type} (s : St T) (d : Nat) (v : AV T) (i : Nat) (h : d ≠ i) : (s.put (some d) v).at_ i = s.at_ i := by
  simp only [St.put, St.at_, List.getD_eq_getElem?_getD, List.getElem?_set_ne h]
theorem plain_bind {r : Option (Bool × St C.Θ.T)} (K : St C.Θ.T → Option R) :
    (match r with
      | some (c, s') => cond c (K s') none
      | none => none) = (match r with
      | some (c, s') => cond c (some s') none
      | none => none : Option (St C.Θ.T)).bind K := by
  cases r with
  | none => rfl
  | some q => obtain ⟨c, s'⟩ := q; cases c <;> rfl
theorem outTo_bind {T : TypeId → Type} {A B : Type} (k : A → Option B) : ∀ (es : List (Ex × Shape)) (f : Ex → Shape → St T → Option A) (g : Ex → Shape → St T → Option B) (z : Outs T es), (∀ e h t, g e h t = (f e h t).bind k) → outTo es g z = (outTo es f z).bind k := by
  intro es
  induction es with
  | nil => intro f g z _; cases z
  | cons a es ih =>
    intro f g z h
    cases es with
    | nil => exact h _ _ _
    | cons b es =>
      simp only [outTo]
      cases z with
      | inl z => exact h _ _ _
      | inr z => exact ih f g z h
theorem callK_eq {T : TypeId → Type} {R : Type} (fe : TypeId → Bool) (r : Ready T) (dst : Option Nat) (K : St T → Option R) : callK fe r dst K = (callK fe r dst some).bind K := by
  unfold callK
  rw [Option.bind_assoc]
  congr 1
  funext z
  refine outTo_bind K _ _ _ z fun e h t => ?_
  cases e with
  | ret =>
    simp only
    cases after fe r.s r.sp.hin r.y t (flatOuts fe r.sp.outs) dst <;> rfl
  | normal => rfl
  | exit i => rfl
  | pan t => rfl
theorem outTo_some {T : TypeId → Type} {A : Type} : ∀ (es : List (Ex × Shape)) (f : Ex → Shape → St T → A) (z : Outs T es), ∃ a ∈ es, ∃ x, outTo es f z = f a.1 a.2 (a.2.st x) ∧ ∀ {B : Type} (g : Ex → Shape → St T → B), outTo es g z = g a.1 a.2 (a.2.st x) := by
  intro es
  induction es with
  | nil => intro f z; cases z
  | cons a es ih =>
    intro f z
    cases es with
    | nil => exact ⟨a, by simp, z, rfl, fun g => rfl⟩
    | cons b es =>
      cases z with
      | inl z => exact ⟨a, by simp, z, rfl, fun g => rfl⟩
      | inr z =>
        obtain ⟨c, hc, x, h1, h2⟩ := ih f z
        exact ⟨c, by simp [hc], x, h1, h2⟩
theorem callK_some {T : TypeId → Type} {fe : TypeId → Bool} {r : Ready T} {dst : Option Nat} {s' : St T} (h : callK fe r dst some = some s') : ∃ z a x, r.sp.F r.y.x = some z ∧ a ∈ r.sp.outs ∧ a.1 = .ret ∧ after fe r.s r.sp.hin r.y (a.2.st x) (flatOuts fe r.sp.outs) dst = some s' ∧ ∀ {B : Type} (g : Ex → Shape → St T → B), outTo r.sp.outs g z = g a.1 a.2 (a.2.st x) := by
  unfold callK at h
  cases hF : r.sp.F r.y.x with
  | none => simp [hF] at h
  | some z =>
    simp only [hF, Option.bind_some] at h
    obtain ⟨a, ha, x, h1, h2⟩ := outTo_some r.sp.outs (fun ex _ t => match ex with
      | .ret => match after fe r.s r.sp.hin r.y t (flatOuts fe r.sp.outs) dst with
        | some s' => some s'
        | none => none
      | _ => none) z
    rw [h1] at h
    split at h <;> try (cases h; done)
    rename_i e
    split at h <;> try (cases h; done)
    rename_i s'' hs
    cases h
    exact ⟨z, a, x, rfl, ha, e, hs, h2⟩
theorem after_slots {T : TypeId → Type} {fe : TypeId → Bool} {s s' : St T} {hin : Shape} {y : Ext T hin} {t : St T} {flat : Bool} {dst : Option Nat} (h : after fe s hin y t flat dst = some s') (i : Nat) (hi : dst ≠ some i) : s'.at_ i = s.at_ i := by
  unfold after at h
  split at h <;> try (cases h; done)
  split at h <;> try (cases h; done)
  split at h <;> try (cases h; done)
  split at h <;> try (cases h; done)
  split at h <;> try (cases h; done)
  split at h <;> try (cases h; done)
  split at h <;> try (cases h; done)
  cases h
  cases dst with
  | none => rfl
  | some d => exact at_put_ne _ d _ i (fun e => hi (by rw [e]))
theorem freeze_bool {T : TypeId → Type} {s : St T} {ks : List Nat} {i : Nat} {b : Bool} (h : s.at_ i = .c (.v (.bool b))) : (s.freeze ks).at_ i = .c (.v (.bool b)) := by
  simp only [St.at_, List.getD_eq_getElem?_getD] at h ⊢
  simp only [St.freeze, List.getElem?_map]
  cases hq : s.slots[i]? with
  | none => simp [hq] at h
  | some v => simp [hq] at h; subst h; rfl
theorem ready_s {T : TypeId → Type} {fe : TypeId → Bool} {rd : St T → AV T → Option (List (CV T))} {Γ : List (Nat × Spec T)} {s : St T} {g : Nat} {avs : List (AV T)} {r : Ready T} (h : ready fe rd Γ s g avs = some r) : r.s = s ∨ ∃ ks, r.s = s.freeze ks := by
  unfold ready at h
  split at h <;> try (cases h; done)
  split at h
  · cases h; exact .inl rfl
  · split at h <;> try (cases h; done)
    split at h <;> try (cases h; done)
    cases h
    exact .inr ⟨_, rfl⟩
theorem stepC_eq {kn : List (Nat × Bool)} {s : St C.Θ.T} (hk : Known kn s) (o : Oper) (K : St C.Θ.T → Option R) : stepC C kn s o K = (stepD C s o).bind K := by
  unfold stepD stepC
  split
  · rename_i c x y _
    have main : ∀ (v : AV C.Θ.T), (match v with
      | .c (.v (.bool b)) => cond b (K (s.put o.dst (s.ev x))) (K (s.put o.dst (s.ev y)))
      | _ => none : Option R) = (match v with
      | .c (.v (.bool b)) => cond b (some (s.put o.dst (s.ev x))) (some (s.put o.dst (s.ev y)))
      | _ => none : Option (St C.Θ.T)).bind K := by
      intro v
      split
      · rename_i b; cases b <;> rfl
      · rfl
    cases c with
    | tmp t =>
      cases hb : look kn t with
      | none => simp only [hb]; exact main _
      | some b =>
        have := hk t b hb
        simp only [hb, look, St.ev, this]
        cases b <;> rfl
    | const v => exact main (s.ev (.const v))
    | func f => exact main (s.ev (.func f))
    | global g => exact main (s.ev (.global g))
  · rename_i c
    split
    · split
      · split
        · exact callK_eq _ _ _ K
        · rfl
      · split
        · split
          · exact callK_eq _ _ _ K
          · rfl
        · rfl
    · exact plain_bind K
  · exact plain_bind K
theorem newBox_slots {s s' : St C.Θ.T} {d t : Nat} {cs : List (CV C.Θ.T)} (h : s.newBox d t cs = some s') (i : Nat) (hi : d ≠ i) : s'.at_ i = s.at_ i := by
  unfold St.newBox at h
  split at h <;> try (cases h; done)
  cases h
  simp only [St.at_, List.getD_eq_getElem?_getD, List.getElem?_set_ne hi]
theorem newRow_slots {s s' : St C.Θ.T} {d r e : Nat} {l : List (C.Θ.T e)} (h : s.newRow C.Θ d r e l = some s') (i : Nat) (hi : d ≠ i) : s'.at_ i = s.at_ i := by
  unfold St.newRow at h
  split at h <;> try (cases h; done)
  cases h
  simp only [St.at_, List.getD_eq_getElem?_getD, List.getElem?_set_ne hi]
theorem map_pair {A : Type} {x : Option A} {f : A → Bool × A} {c : Bool} {y : A} (h : x.map f = some (c, y)) (hf : ∀ a, (f a).2 = a) : x = some y := by
  cases x with
  | none => cases h
  | some a => simp at h; have := hf a; rw [h] at this; simp at this; rw [this]
theorem opA_slots {s s' : St C.Θ.T} {o : Oper} {c : Bool} (h : opA C.P C.Θ s o = some (c, s')) (i : Nat) (hi : o.dst ≠ some i) : s'.at_ i = s.at_ i := by
  unfold opA at h
  split at h
  · rename_i d hd
    have hdi : d ≠ i := fun e => hi (by rw [hd, e])
    split at h <;> try (cases h; done)
    · unfold aAlloc at h
      split at h <;> try (cases h; done)
      exact newBox_slots (map_pair h fun _ => rfl) i hdi
    · unfold aBox at h
      split at h <;> try (cases h; done)
      split at h <;> try (cases h; done)
      exact newBox_slots (map_pair h fun _ => rfl) i hdi
    · unfold aMake at h
      split at h <;> try (cases h; done)
      split at h <;> try (cases h; done)
      split at h <;> try (cases h; done)
      split at h <;> try (cases h; done)
      split at h <;> try (cases h; done)
      exact newRow_slots (map_pair h fun _ => rfl) i hdi
    · unfold aMakeMap at h
      split at h <;> try (cases h; done)
      split at h <;> try (cases h; done)
      split at h <;> try (cases h; done)
      exact newRow_slots (map_pair h fun _ => rfl) i hdi
    · unfold aLit at h
      split at h <;> try (cases h; done)
      split at h <;> try (cases h; done)
      split at h <;> try (cases h; done)
      split at h <;> try (cases h; done)
      cases h
      exact at_put_ne s d _ i hdi
    · split at h <;> try (cases h; done)
      split at h <;> try (cases h; done)
      unfold aAppend at h
      split at h <;> try (cases h; done)
      split at h <;> try (cases h; done)
      split at h <;> try (cases h; done)
      split at h <;> try (cases h; done)
      split at h <;> try (cases h; done)
      · exact newRow_slots (map_pair h fun _ => rfl) i hdi
      · exact newRow_slots (map_pair h fun _ => rfl) i hdi
      · split at h <;> try (cases h; done)
        split at h <;> try (cases h; done)
        exact newRow_slots (map_pair h fun _ => rfl) i hdi
  · split at h <;> try (cases h; done)
    · unfold aStore at h
      split at h <;> try (cases h; done)
      split at h <;> try (cases h; done)
      split at h <;> try (cases h; done)
      · have := map_pair h fun _ => rfl
        unfold St.writeBox at this
        split at this <;> try (cases this; done)
        split at this <;> try (cases this; done)
        cases this
        rfl
      · have := map_pair h fun _ => rfl
        unfold St.writeRow at this
        split at this <;> try (cases this; done)
        split at this <;> try (cases this; done)
        split at this <;> try (cases this; done)
        cases this
        rfl
    · unfold aMapSet at h
      split at h <;> try (cases h; done)
      split at h <;> try (cases h; done)
      split at h <;> try (cases h; done)
      split at h <;> try (cases h; done)
      split at h <;> try (cases h; done)
      split at h <;> try (cases h; done)
      have := map_pair h fun _ => rfl
      unfold St.writeMap at this
      split at this <;> try (cases this; done)
      split at this <;> try (cases this; done)
      split at this <;> try (cases this; done)
      cases this
      rfl
theorem put_slots {s : St C.Θ.T} (d : Option Nat) (v : AV C.Θ.T) (i : Nat) (hi : d ≠ some i) : (s.put d v).at_ i = s.at_ i := by
  cases d with
  | none => rfl
  | some d => exact at_put_ne s d v i (fun e => hi (by rw [e]))
theorem plain1_slots {s s' : St C.Θ.T} {o : Oper} {c : Bool} (h : plain1 C s o = some (c, s')) (i : Nat) (hi : o.dst ≠ some i) : s'.at_ i = s.at_ i ∨ ∃ ks, s'.at_ i = (s.freeze ks).at_ i := by
  unfold plain1 at h
  split at h
  · unfold opLitR at h
    split at h <;> try (cases h; done)
    · split at h <;> try (cases h; done)
      rename_i d hd
      have hdi : d ≠ i := fun e => hi (by rw [hd, e])
      unfold aLitR at h
      split at h <;> try (cases h; done)
      split at h <;> try (cases h; done)
      split at h <;> try (cases h; done)
      split at h <;> try (cases h; done)
      exact .inl (newRow_slots (map_pair h fun _ => rfl) i hdi)
    · split at h <;> try (cases h; done)
      rename_i d hd
      split at h <;> try (cases h; done)
      · unfold aBytes at h
        split at h <;> try (cases h; done)
        split at h <;> try (cases h; done)
        split at h <;> try (cases h; done)
        split at h
        · exact .inl (newRow_slots (map_pair h fun _ => rfl) i (fun e => hi (by rw [hd, e])))
        cases h
        exact .inl (put_slots _ _ i (by rw [← hd]; exact hi))
      · split at h
        · unfold aMark at h
          split at h <;> try (cases h; done)
          split at h <;> try (cases h; done)
          split at h <;> try (cases h; done)
          cases h
          exact .inr ⟨_, put_slots _ _ i (by rw [← hd]; exact hi)⟩
        split at h <;> try (cases h; done)
        cases h
        exact .inr ⟨_, put_slots _ _ i hi⟩
    · split at h <;> try (cases h; done)
      split at h <;> try (cases h; done)
      cases h
      exact .inr ⟨_, put_slots _ _ i hi⟩
  split at h
  · exact .inl (opA_slots h i hi)
  · split at h <;> try (cases h; done)
    cases h
    exact .inl (put_slots _ _ i hi)
theorem stepD_slots' {s s' : St C.Θ.T} {o : Oper} (h : stepD C s o = some s') (i : Nat) (hi : o.dst ≠ some i) : s'.at_ i = s.at_ i ∨ ∃ ks, s'.at_ i = (s.freeze ks).at_ i := by
  unfold stepD stepC at h
  have hp : ∀ {r : Option (Bool × St C.Θ.T)}, r = plain1 C s o → (match r with | some (c, s') => cond c (some s') none | none => none : Option (St C.Θ.T)) = some s' → s'.at_ i = s.at_ i ∨ ∃ ks, s'.at_ i = (s.freeze ks).at_ i := by
    intro r hr h
    cases r with
    | none => cases h
    | some q =>
      obtain ⟨c, s1⟩ := q
      cases c with
      | false => cases h
      | true => cases h; exact plain1_slots hr.symm i hi
  split at h
  · rename_i c x y _
    have hnil : (match c with | .tmp t => look ([] : List (Nat × Bool)) t | _ => none) = none := by cases c <;> rfl
    simp only [hnil] at h
    split at h <;> try (cases h; done)
    rename_i b _
    cases b <;> (cases h; exact .inl (put_slots _ _ i hi))
  · have hc : ∀ {Γ : List (Nat × Spec C.Θ.T)} {g : Nat} {avs : List (AV C.Θ.T)} {r : Ready C.Θ.T}, ready (flatE C.Θ) (St.cellsAt C.Θ) Γ s g avs = some r → callK (flatE C.Θ) r o.dst some = some s' → s'.at_ i = s.at_ i ∨ ∃ ks, s'.at_ i = (s.freeze ks).at_ i := by
      intro Γ g avs r hr h
      obtain ⟨z, q, x, _, _, _, h1, _⟩ := callK_some h
      have := after_slots h1 i hi
      rcases ready_s hr with e | ⟨ks, e⟩
      · left; rw [this, e]
      · right; exact ⟨ks, by rw [this, e]⟩
    split at h
    · split at h
      · split at h <;> try (cases h; done)
        rename_i r hr
        exact hc hr h
      · split at h <;> try (cases h; done)
        split at h <;> try (cases h; done)
        rename_i r hr
        exact hc hr h
    · exact hp rfl h
  · exact hp rfl h
theorem stepD_slots {s s' : St C.Θ.T} {o : Oper} (h : stepD C s o = some s') (i : Nat) (b : Bool) (hi : o.dst ≠ some i) (hb : s.at_ i = .c (.v (.bool b))) : s'.at_ i = .c (.v (.bool b)) := by
  rw [← hb]
  refine (stepD_slots' h i hi).elim (fun h => h) (fun ⟨ks, h⟩ => ?_)
  rw [h, hb]; exact freeze_bool hb
theorem known_forget {kn : List (Nat × Bool)} {s s' : St C.Θ.T} (hk : Known kn s) (d : Option Nat) (h : ∀ i b, d ≠ some i → s.at_ i = .c (.v (.bool b)) → s'.at_ i = .c (.v (.bool b))) : Known (forget kn d) s' := by
  intro i b hb
  cases d with
  | none => exact h i b (by simp) (hk i b hb)
  | some d =>
    simp only [forget, look_drop1] at hb
    split at hb
    · cases hb
    · rename_i hd; exact h i b (by simpa using hd) (hk i b hb)
theorem known_cons {kn : List (Nat × Bool)} {s : St C.Θ.T} {d : Nat} {b : Bool} (hk : Known kn s) (h : s.at_ d = .c (.v (.bool b))) : Known ((d, b) :: kn) s := by
  intro i c hc
  simp only [look] at hc
  split at hc
  · rename_i e; subst e; cases hc; exact h
  · exact hk i c hc
theorem opsC_eq (ops : Array Oper) : ∀ (l : List Oper) (kn : List (Nat × Bool)) (s : St C.Θ.T) (K : St C.Θ.T → Option R), Known kn s → opsC C ops l kn s K = (opsD C ops l s).bind K := by
  intro l
  induction l with
  | nil => intro kn s K _; rfl
  | cons o rest ih =>
    intro kn s K hk
    have run : ∀ kn, Known kn s → (stepC C kn s o fun s' => opsC C ops rest (forget kn o.dst) s' K) = (stepD C s o).bind fun s' => (opsD C ops rest s').bind K := by
      intro kn hk
      rw [stepC_eq hk]
      cases hs : stepD C s o with
      | none => rfl
      | some s' => exact ih _ s' K (known_forget hk o.dst (stepD_slots hs))
    have skip : ∀ kn, Known kn s → opsC C ops rest (forget kn o.dst) (s.put o.dst .skip) K = (opsD C ops rest (s.put o.dst .skip)).bind K :=
      fun kn hk => ih _ _ K (known_forget hk o.dst (fun i b hi hb => by rw [put_slots o.dst _ i hi]; exact hb))
    have unf : (opsD C ops (o :: rest) s).bind K = (guardD C ops s o).bind fun s' => (opsD C ops rest s').bind K := by
      simp only [opsD]
      cases guardD C ops s o <;> rfl
    rw [unf]
    unfold guardD
    simp only [opsC]
    split
    · exact run kn hk
    · rename_i j want _
      split
      · rfl
      · rename_i d _
        split
        · rename_i b hb
          have := hk d b hb
          simp only [this]
          split
          · exact run kn hk
          · exact skip kn hk
        · split
          · rename_i b hb
            cases b with
            | true =>
              simp only [cond_true]
              cases want with
              | true => simpa using run _ (known_cons hk hb)
              | false => simpa using skip _ (known_cons hk hb)
            | false =>
              simp only [cond_false]
              cases want with
              | true => simpa using skip _ (known_cons hk hb)
              | false => simpa using run _ (known_cons hk hb)
          · exact skip kn hk
          · rfl
end
end Go.Den
namespace Go.Den
open Go Go.RowKit
open Classical in
noncomputable def both {A : Type} (x y : Option A) : Option A := if x = y then x else none
noncomputable def nilJ {A : Type} (e : Bool) (x y : Option A) : Option A := cond e (both x y) y
inductive Plan where
  | leaf
  | two (p q : Plan)
  | one (p : Plan)
  | join (h : Shape) (p : Plan)
  | loop (h : Shape) (es : List (Ex × Shape)) (p : Plan)
  | range (y : Nat) (live : List Nat)
def Plan.fst : Plan → Plan
  | .two p _ => p
  | _ => .leaf
def Plan.snd : Plan → Plan
  | .two _ q => q
  | _ => .leaf
def Plan.sub : Plan → Plan
  | .one p => p
  | _ => .leaf
def Plan.atJ : Plan → Option Shape
  | .join h _ => some h
  | _ => none
def Plan.core : Plan → Plan
  | .join _ p => p
  | p => p
section
def iterL {X Y : Type} : Nat → (X → Option (X ⊕ Y)) → X → Option Y
  | 0, _, _ => none
  | n + 1, L, x => (L x).bind fun
    | .inl x' => iterL n L x'
    | .inr y => some y
open Classical in
noncomputable def ifY {R : Type} (p : Prop) (x : Option R) : Option R := if p then x else none
def letJ {A B : Type} (x : A) (f : A → B) : B := f x
end
section
variable (C : Cx)
def quietSpec {T : TypeId → Type} (fe : TypeId → Bool) (sp : Spec T) : Bool := ((sp.hin.boxes.isEmpty && sp.hin.rows.isEmpty) && flatOuts fe sp.outs) && sp.outs.all fun o => o.2.boxes.isEmpty && o.2.rows.isEmpty
def nullSpec {T : TypeId → Type} (sp : Spec T) : Bool := (sp.hin.slots.isEmpty && (sp.hin.boxes.isEmpty && sp.hin.rows.isEmpty)) && sp.outs.all fun o => o.2.boxes.isEmpty && o.2.rows.isEmpty
def okQC {T : TypeId → Type} (fe : TypeId → Bool) (sp : Spec T) : Bool := (quietSpec fe sp && plainIn sp.hin) || nullSpec sp
def isLit : Op → Bool
  | .buildSlice _ _ _ => true
  | _ => false
def quiet (o : Oper) : Bool := !(litR C.Θ o) && (!(isMem o.op) || isLit o.op) && match o.op with
  | .select _ _ => false
  | .call c => match c.callee with
    | .value f => match f with
      | .func g => C.Γ.all fun p => !(p.1 == g) || quietSpec (flatE C.Θ) p.2
      | _ => false
    | _ => true
  | _ => true
def edgeMask (tab : List Nat) : List Edge → Nat
  | [] => 0
  | e :: r => if Region.binds .any e then ((1 <<< e.on) ||| tab.getD e.on 0) ||| edgeMask tab r else edgeMask tab r
def ancTab : List Oper → List Nat → List Nat
  | [], tab => tab
  | o :: r, tab => ancTab r (tab ++ [edgeMask tab o.after.toList])
def pairOk (ops : Array Oper) (m : Nat) (k : Nat) (oi : Oper) : Bool := m.testBit k || match ops[k]? with
  | some ok => quiet C ok && (quiet C oi && Oper.apart ops ok oi)
  | none => false
def rowOk (ops : Array Oper) (tab : List Nat) (i : Nat) : Bool := match ops[i]? with
  | some oi => oi.after.toList.all (fun e => !(Region.binds .any e) || Nat.blt e.on i) && (List.range i).all fun k => pairOk C ops (tab.getD i 0) k oi
  | none => false
def drawOk (ops : Array Oper) : Bool := (List.range ops.size).all (rowOk C ops (ancTab ops.toList []))
end
inductive Kd where
  | P | Q | QC | B | A | F | no
def pureOp : Op → Bool
  | .move _ => true
  | .assign _ => true
  | .pick _ _ _ => true
  | .unOp _ _ _ => true
  | .binOp _ _ _ _ _ => true
  | .convert _ _ _ => true
  | .extract _ _ => true
  | .nilCheck _ => true
  | .fieldAddr _ _ _ => true
  | .field _ _ _ => true
  | .build _ _ => true
  | .buildSlice _ _ _ => true
  | .makeFunc _ _ _ => true
  | .index _ _ _ => true
  | .slice _ _ _ _ _ => true
  | .call c => match c.callee with
    | .builtin .max => true
    | .builtin .min => true
    | _ => false
  | _ => false
def readOp : Op → Bool
  | .load _ _ => true
  | .indexAddr _ _ _ => true
  | .call c => match c.callee with
    | .builtin .len => true
    | _ => false
  | _ => false
def appOp : Op → Bool
  | .call c => match c.callee with
    | .builtin .append => true
    | _ => false
  | _ => false
section
variable (C : Cx)
def freshSpec (sp : Spec C.Θ.T) : Bool := (plainIn sp.hin && flatOuts (flatE C.Θ) sp.outs) && sp.outs.all fun o => o.2.boxes.isEmpty && o.2.rows.all fun r => Nat.blt r.1 100
def calleeC (o : Oper) : Option Nat := match o.op with
  | .call c => match c.callee with
    | .value f => match f with
      | .func g => some g
      | _ => none
    | _ => none
  | _ => none
def kindOf0 (o : Oper) : Kd := if pureOp o.op then .P else if readOp o.op then .Q else match o.dst, o.guard with
  | some _, none => (match o.op with
    | .alloc _ => .B
    | .box _ _ => .B
    | .makeSlice _ _ _ => .F
    | _ => if appOp o.op then .A else match calleeC o with
      | some g => if (C.Γ.all fun p => !(p.1 == g) || okQC (flatE C.Θ) p.2) then .QC
        else if (C.Γ.all fun p => !(p.1 == g) || freshSpec C p.2) then .F else .no
      | none => .no)
  | _, _ => match calleeC o with
    | some g => if (C.Γ.all fun p => !(p.1 == g) || okQC (flatE C.Θ) p.2) then .QC
      else if o.dst.isSome && (C.Γ.all fun p => !(p.1 == g) || freshSpec C p.2) then .F else .no
    | none => .no
def kindOf (o : Oper) : Kd := if litR C.Θ o then .no else kindOf0 C o
def Kd.grow : Kd → Bool
  | .B => true
  | .A => true
  | .F => true
  | _ => false
def Kd.comm : Kd → Kd → Bool
  | .no, _ => false
  | _, .no => false
  | .P, _ => true
  | _, .P => true
  | .Q, .Q => true
  | .Q, .QC => true
  | .QC, .Q => true
  | .QC, .QC => true
  | .Q, .B => true
  | .QC, .B => true
  | .Q, .F => true
  | .QC, .F => true
  | .B, .Q => true
  | .B, .QC => true
  | .F, .Q => true
  | .F, .QC => true
  | .A, .Q => true
  | .B, .A => true
  | .B, .B => true
  | .B, .F => true
  | .A, .B => true
  | .F, .B => true
  | _, _ => false
def moveOp (o : Oper) : Bool := match o.op with
  | .move _ => true
  | .assign _ => true
  | _ => false
def natOp (o : Oper) : Bool := match o.op with
  | .move _ => true
  | .assign _ => true
  | .load _ _ => true
  | .fieldAddr _ _ _ => true
  | _ => false
def callN (o : Oper) : Bool := match calleeC o with
  | some g => C.Γ.all fun p => !(p.1 == g) || (plainIn p.2.hin && p.2.outs.all fun o => o.2.boxes.isEmpty && o.2.rows.isEmpty)
  | none => false
def Kd.isNo : Kd → Bool
  | .no => true
  | _ => false
def pairOk2 (ops : Array Oper) (m : Nat) (k : Nat) (oi : Oper) : Bool := m.testBit k || match ops[k]? with
  | some ok => ((kindOf C ok).comm (kindOf C oi) || (moveOp ok && callN C oi) || (callN C ok && natOp oi && (kindOf C ok).isNo)) && Oper.apart ops ok oi
  | none => false
def rowOk2 (ops : Array Oper) (tab : List Nat) (i : Nat) : Bool := match ops[i]? with
  | some oi => (oi.after.toList.all (fun e => !(Region.binds .any e) || Nat.blt e.on i) && (List.range i).all fun k => pairOk2 C ops (tab.getD i 0) k oi) &&
    (match kindOf C oi with
      | .no => (List.range ops.size).all fun j => Nat.ble j i || match ops[j]? with
        | some oj => !((kindOf C oj).grow)
        | none => true
      | _ => true)
  | none => false
def drawOk2 (ops : Array Oper) : Bool := (List.range ops.size).all (rowOk2 C ops (ancTab ops.toList []))
def callW (o : Oper) : Bool := match calleeC o with
  | some g => C.Γ.all fun p => !(p.1 == g) || p.2.outs.all fun o => (o.2.boxes.all fun b => keyIn p.2.hin.boxes b.1) && o.2.rows.all fun b => keyIn p.2.hin.rows b.1
  | none => false
def storeS (o : Oper) : Bool := (match o.op with
    | .store _ _ _ => true
    | _ => false) && ((match o.guard with
    | none => true
    | some _ => false) && match o.dst with
    | none => true
    | some _ => false)
def noW (o : Oper) : Bool := (callW C o || storeS o) && (kindOf C o).isNo
def callNo (o : Oper) : Bool := callN C o && (kindOf C o).isNo
def Kd.isB : Kd → Bool
  | .B => true
  | _ => false
def noFrz (s : St C.Θ.T) (o : Oper) : Bool := match calleeC o, o.op with
  | some g, .call c => (match findSpec (flatE C.Θ) (St.cellsAt C.Θ) C.Γ g s (c.args.toList.map s.ev) with
    | some hit => hit.y.hs.all notRow
    | none => true)
  | _, _ => true
def Kd.isP : Kd → Bool
  | .P => true
  | _ => false
def natP (o : Oper) : Bool := natOp o || (kindOf C o).isP
def loadOp (o : Oper) : Bool := match o.op with
  | .load _ _ => true
  | _ => false
def memD : List (Option Nat) → Option Nat → Bool
  | [], _ => false
  | x :: r, d => (match x, d with
    | none, none => true
    | some a, some b => a == b
    | _, _ => false) || memD r d
def heldW (N : List (Option Nat)) (o : Oper) : Bool := !(loadOp o) || memD N o.dst
def exCode (o : Oper) : Option Nat := match o.op with
  | .store _ (.tmp a) (.tmp b) => some (1000000 + a * 10000 + b)
  | _ => none
def exN (N : List (Option Nat)) (o : Oper) : Bool := match exCode o with
  | some c => memD N (some c)
  | none => false
def heldX (N : List (Option Nat)) (o k : Oper) : Bool := !(loadOp o) || (memD N o.dst && !(exN N k))
def pairOk3 (N : List (Option Nat)) (ops : Array Oper) (m : Nat) (k : Nat) (oi : Oper) : Bool := m.testBit k || match ops[k]? with
  | some ok => ((kindOf C ok).comm (kindOf C oi) || (noW C ok && natOp oi && heldX N oi ok) || (natOp ok && heldX N ok oi && noW C oi) || ((kindOf C ok).isP && storeS oi) || ((callNo C ok && memD N ok.dst) && (kindOf C oi).isB)) && Oper.apart ops ok oi
  | none => false
def rowOk3 (N : List (Option Nat)) (ops : Array Oper) (tab : List Nat) (i : Nat) : Bool := match ops[i]? with
  | some oi => oi.after.toList.all (fun e => !(Region.binds .any e) || Nat.blt e.on i) && (List.range i).all fun k => pairOk3 C N ops (tab.getD i 0) k oi
  | none => false
def dstsOf : List Oper → List Nat
  | [] => []
  | o :: r => match o.dst with
    | some d => d :: dstsOf r
    | none => dstsOf r
def drawOk3 (N : List (Option Nat)) (ops : Array Oper) : Bool := (List.range ops.size).all (rowOk3 C N ops (ancTab ops.toList [])) && apartKs (dstsOf ops.toList)
def watchW (ops : Array Oper) (tab : List Nat) : List Nat → List (Option Nat)
  | [] => []
  | i :: r => match ops[i]? with
    | some o => if loadOp o && (List.range ops.size).any (fun j => match ops[j]? with
        | some q => noW C q && !((tab.getD i 0).testBit j) && !((tab.getD j 0).testBit i)
        | none => false) then o.dst :: watchW ops tab r
      else if callNo C o && (List.range ops.size).any (fun j => match ops[j]? with
        | some q => (kindOf C q).isB && !((tab.getD i 0).testBit j) && !((tab.getD j 0).testBit i)
        | none => false) then o.dst :: watchW ops tab r else watchW ops tab r
    | none => watchW ops tab r
def exW (ops : Array Oper) (tab : List Nat) : List Nat → List (Option Nat)
  | [] => []
  | i :: r => match ops[i]? with
    | some o => (match exCode o with
      | some c => if (List.range ops.size).all (fun j => match ops[j]? with
        | some q => !(loadOp q) || ((tab.getD i 0).testBit j || (tab.getD j 0).testBit i)
        | none => true) then some c :: exW ops tab r else exW ops tab r
      | none => exW ops tab r)
    | none => exW ops tab r
def watched (ops : Array Oper) : List (Option Nat) := watchW C ops (ancTab ops.toList []) (List.range ops.size) ++ exW ops (ancTab ops.toList []) (List.range ops.size)
def addrK {T : TypeId → Type} : AV T → Option (List Nat)
  | .c (.box k _ _) => some [k]
  | .cel _ => some []
  | .skip => some []
  | _ => none
def loadK (N : List (Option Nat)) (s : St C.Θ.T) (o : Oper) : Option (List Nat) := match o.op with
  | .load _ x => if memD N o.dst then addrK (s.ev x) else some []
  | _ => some []
def lendK (s : St C.Θ.T) (o : Oper) : List Nat := match calleeC o, o.op with
  | some g, .call c => if (kindOf C o).isNo then (match ready (flatE C.Θ) (St.cellsAt C.Θ) C.Γ s g (c.args.toList.map s.ev) with
    | some r => lentBs r.y.xs r.sp.hin.boxes
    | none => []) else []
  | none, .store _ x _ => (match s.ev x with
    | .c (.box k _ _) => [k]
    | _ => [])
  | _, _ => []
def lendW (N : List (Option Nat)) (s : St C.Θ.T) (o : Oper) : List Nat := if exN N o then [] else lendK C s o
def apartL (a b : List Nat) : Bool := a.all fun k => !(b.contains k)
def chkW (N : List (Option Nat)) (w : List Nat × List Nat) (s : St C.Θ.T) (o : Oper) : Option (List Nat × List Nat) := match loadK C N s o with
  | some ks => if (apartL ks (lendW C N s o ++ w.2) && apartL (lendW C N s o) w.1) && (!(callNo C o && memD N o.dst) || noFrz C s o) then some (ks ++ w.1, lendW C N s o ++ w.2) else none
  | none => none
def freshKeys (d : Nat) : List (Nat × Spec C.Θ.T) → Nat → List Nat
  | [], _ => []
  | p :: r, g => if p.1 == g then (p.2.outs.flatMap fun o => o.2.rows.map fun q => freshK d q.1) ++ freshKeys d r g else freshKeys d r g
def newBK : List Oper → List Nat
  | [] => []
  | o :: r => match kindOf C o, o.dst with
    | .B, some d => d :: newBK r
    | _, _ => newBK r
def newAK : List Oper → List Nat
  | [] => []
  | o :: r => match kindOf C o, o.dst with
    | .A, some d => d :: newAK r
    | _, _ => newAK r
def newFK : List Oper → List Nat
  | [] => []
  | o :: r => match kindOf C o, o.dst with
    | .F, some d => (match calleeC o with
      | some g => freshKeys C d C.Γ g
      | none => [d]) ++ newFK r
    | _, _ => newFK r
def growDs : List Oper → List Nat
  | [] => []
  | o :: r => match (kindOf C o).grow, o.dst with
    | true, some d => d :: growDs r
    | _, _ => growDs r
def refsB (s : St C.Θ.T) : List (Nat × Nat) := s.slots.flatMap AV.mB ++ s.boxes.flatMap fun b => b.2.cells.flatMap CV.mB
def refsR (s : St C.Θ.T) : List (Nat × Nat) := s.slots.flatMap AV.mR ++ s.boxes.flatMap fun b => b.2.cells.flatMap CV.mR
def tameOk (s : St C.Θ.T) (ops : List Oper) : Bool :=
  ((refsB C s).all (fun p => match look s.boxes p.1 with
    | some B => Nat.ble p.2 B.gen
    | none => !((newBK C ops).contains p.1)) &&
  (refsR C s).all (fun p => match look s.rows p.1 with
    | some R => Nat.ble p.2 R.gen
    | none => !((newAK C ops ++ newFK C ops).contains p.1))) &&
  (((newBK C ops).all (fun d => !(keyIn s.boxes d)) && (newFK C ops).all (fun d => !(keyIn s.rows d))) &&
  (apartKs (growDs C ops) && (growDs C ops).all fun d => Nat.blt d 10000))
def isUndef {T : TypeId → Type} : AV T → Bool
  | .undef => true
  | _ => false
def cleanOk (s : St C.Θ.T) (ops : List Oper) : Bool := ops.all fun o => !(natP C o) || match o.dst with
  | some d => isUndef (s.at_ d)
  | none => true
def goodR (s : St C.Θ.T) (ops : Array Oper) : Bool := !(ops.toList.any fun q => (kindOf C q).grow) || (tameOk C s ops.toList && cleanOk C s ops.toList)
def tameW (o : Oper) (s : St C.Θ.T) (rest : List Oper) : Bool := match kindOf C o with
  | .no => !(rest.any fun q => (kindOf C q).grow) || (tameOk C s rest && cleanOk C s rest)
  | _ => true
def opsW {R : Type} (ops : Array Oper) (N : List (Option Nat)) : List Oper → List (Nat × Bool) → List Nat × List Nat → St C.Θ.T → (St C.Θ.T → Option R) → Option R
  | [], _, _, s, K => K s
  | o :: rest, kn, w, s, K => match chkW C N w s o with
    | none => none
    | some w' => match o.guard with
      | none => stepC C kn s o fun s' => if tameW C o s' rest then opsW ops N rest (forget kn o.dst) w' s' K else none
      | some (j, want) => match (ops[j]?).bind (·.dst) with
        | none => none
        | some d => match look kn d with
          | some b => if b = want then (stepC C kn s o fun s' => if tameW C o s' rest then opsW ops N rest (forget kn o.dst) w' s' K else none) else (if tameW C o (s.put o.dst .skip) rest then opsW ops N rest (forget kn o.dst) w' (s.put o.dst .skip) K else none)
          | none => match s.at_ d with
            | .c (.v (.bool b)) => cond b
              (if want then (stepC C ((d, true) :: kn) s o fun s' => if tameW C o s' rest then opsW ops N rest (forget ((d, true) :: kn) o.dst) w' s' K else none) else (if tameW C o (s.put o.dst .skip) rest then opsW ops N rest (forget ((d, true) :: kn) o.dst) w' (s.put o.dst .skip) K else none))
              (if want then (if tameW C o (s.put o.dst .skip) rest then opsW ops N rest (forget ((d, false) :: kn) o.dst) w' (s.put o.dst .skip) K else none) else (stepC C ((d, false) :: kn) s o fun s' => if tameW C o s' rest then opsW ops N rest (forget ((d, false) :: kn) o.dst) w' s' K else none))
            | .skip => if tameW C o (s.put o.dst .skip) rest then opsW ops N rest (forget kn o.dst) w' (s.put o.dst .skip) K else none
            | _ => none
end
section
variable (C : Cx) (n : Nat)
def joined {R : Type} (p : Plan) (K : Ex → St C.Θ.T → Option R) (f : (Ex → St C.Θ.T → Option R) → Option R) : Option R := match p.atJ with
  | none => f K
  | some h => letJ (fun x => K .normal (h.st x)) fun J => f fun e s' => match e with
    | .normal => match h.ext s' with
      | some x => J x
      | none => none
    | .exit i => K (.exit i) s'
    | .ret => K .ret s'
    | .pan t => K (.pan t) s'
open Classical in
noncomputable def allZ {Z A : Type} (R : Z → Prop) (K : Z → Option A) : Option A := if h : ∃ r, ∀ z, R z → K z = some r then some (Classical.choose h) else none
def findN {T : TypeId → Type} : List (Nat × NSpec T) → Nat → Option (NSpec T)
  | [], _ => none
  | p :: r, g => if p.1 = g then some p.2 else findN r g
def ambOf (o : Oper) : Option (NSpec C.Θ.T × Nat × List Operand) := match o.op, o.guard with
  | .call c, none => (match c.callee with
    | .value (.func g) => match findN C.N g with
      | some ns => some (ns, g, c.args.toList)
      | none => none
    | _ => none)
  | _, _ => none
noncomputable def ambC {R : Type} (s : St C.Θ.T) (q : NSpec C.Θ.T × Nat × List Operand) (dst : Option Nat) (K : St C.Θ.T → Option R) : Option R := match entryOf (flatE C.Θ) (St.cellsAt C.Θ) q.1.none_ s (q.2.2.map s.ev) with
  | some y => if (flatOuts (flatE C.Θ) q.1.outs || y.hs.all notRow) then allZ (q.1.R y.x) (fun z => outTo q.1.outs (fun ex _ t => match ex with
    | .ret => match after (flatE C.Θ) s q.1.hin y t (flatOuts (flatE C.Θ) q.1.outs) dst with
      | some s' => K s'
      | none => none
    | _ => none) z) else none
  | none => none
noncomputable def regC {R : Type} (ops : Array Oper) (s : St C.Θ.T) (K : St C.Θ.T → Option R) : Option R := match ops.toList.getLast? with
  | none => opsC C ops ops.toList [] s K
  | some o => match ambOf C o with
    | none => opsC C ops ops.toList [] s K
    | some q => opsC C ops ops.toList.dropLast [] s fun s' => ambC C s' q o.dst K
noncomputable def regD {R : Type} (ops : Array Oper) (draw : Bool) (s : St C.Θ.T) (K : Ex → St C.Θ.T → Option R) : Option R := if draw && !(drawOk C ops || (drawOk2 C ops && tameOk C s ops.toList)) then (if drawOk3 C (watched C ops) ops && goodR C s ops then opsW C ops (watched C ops) ops.toList [] ([], []) s (K .normal) else none) else cond draw (opsC C ops ops.toList [] s (K .normal)) (regC C ops s (K .normal))
def intsA {T : TypeId → Type} : AV T → Bool
  | .agg cs => cs.all fun c => match c with
    | .v (.int _ _) => true
    | _ => false
  | _ => false
def panSpec {T : TypeId → Type} (sp : Spec T) : Bool := sp.outs.any fun o => match o.1 with
  | .pan _ => true
  | _ => false
inductive PanQ where
  | lit (ty : Nat) (x : Operand) (d : Nat)
  | call (g : Nat) (args : Array Operand) (dst : Option Nat)
def panKind (ops : Array Oper) : Option (PanQ × Nat) := match ops.toList.reverse with
  | [] => none
  | o :: r => match o.guard with
    | some _ => none
    | none => match o.op with
      | .panic x => (match x, r with
        | .tmp d, o' :: r' => (match o'.op, o'.dst, o'.guard with
          | .makeInterface ty y, some d', none => if d = d' then some (.lit ty y d, r'.length) else none
          | _, _, _ => none)
        | _, _ => none)
      | _ => match calleeC o, o.op with
        | some g, .call c => if C.Γ.any (fun p => p.1 == g && panSpec p.2) then some (.call g c.args o.dst, r.length) else none
        | _, _ => none
def structTy (P : Program) (t : Nat) : Bool := match P.underlying t with
  | some (.struct _) => true
  | _ => false
def keepOk (s : St C.Θ.T) : Bool := C.keep.all fun p => (match s.at_ p.1 with
    | .c (.box k g o) => Nat.beq k p.2.1 && (Nat.beq g 0 && Nat.beq o 0)
    | _ => false) && match look s.boxes p.2.1 with
    | some B => Nat.beq B.gen 0 && (Nat.beq B.ty p.2.2 && match B.cells with
      | [.v (.int .i64 _)] => true
      | _ => false)
    | none => false
def panL {R : Type} (q : PanQ) (s : St C.Θ.T) (K : Ex → St C.Θ.T → Option R) : Option R := match q with
  | .lit ty x d => if (intsA (s.ev x) && ((structTy C.P ty && Nat.blt d s.slots.length) && C.keep.isEmpty)) = true then K (.pan ty) ⟨[s.ev x], [], []⟩ else none
  | .call g args dst => match ready (flatE C.Θ) (St.cellsAt C.Θ) C.Γ s g (args.toList.map s.ev) with
    | some r => (r.sp.F r.y.x).bind fun z => outTo r.sp.outs (fun ex _ t => match ex with
      | .ret => (match after (flatE C.Θ) r.s r.sp.hin r.y t (flatOuts (flatE C.Θ) r.sp.outs) dst with
        | some s' => K .normal s'
        | none => none)
      | .pan ty => (match after (flatE C.Θ) r.s r.sp.hin r.y t (flatOuts (flatE C.Θ) r.sp.outs) none with
        | some s1 => (match t.slots with
          | [v] => if (intsA v && keepOk C s1) = true then K (.pan ty) ⟨[v], [], []⟩ else none
          | _ => none)
        | none => none)
      | _ => none) z
    | none => none
def lastOk (ops : Array Oper) (n : Nat) : Bool := match ops[n]? with
  | none => false
  | some o => (Nat.beq ops.size (n + 1)) && ((o.after.toList.all (fun e => !(Region.binds .any e) || Nat.blt e.on n)) && ((List.range n).all (fun k => ((ancTab ops.toList []).getD n 0).testBit k)) &&
    (List.range n).all fun i => match ops[i]? with
      | none => false
      | some q => (q.after.toList.all (fun e => !(Region.binds .any e) || Nat.blt e.on i)) && match q.guard with
        | some (j, _) => Nat.blt j n
        | none => true)
noncomputable def panR {R : Type} (ops : Array Oper) (draw : Bool) (q : PanQ × Nat) (s : St C.Θ.T) (K : Ex → St C.Θ.T → Option R) : Option R :=
  if draw then (if lastOk ops q.2 = true then regD C (ops.toList.take q.2).toArray true s fun e s' => match e with
    | .normal => panL C q.1 s' K
    | _ => none else none)
  else opsC C ops (ops.toList.take q.2) [] s fun s' => panL C q.1 s' K
def KV.of {T : TypeId → Type} : AV T → Option (KV T)
  | .c x => some (.c x)
  | .agg cs => some (.agg cs)
  | .cel xs => some (.cel xs)
  | _ => none
def kvsAt {T : TypeId → Type} (s : St T) : List Nat → Option (List (KV T))
  | [] => some []
  | i :: r => match KV.of (s.at_ i) with
    | some v => match kvsAt s r with
      | some l => some (v :: l)
      | none => none
    | none => none
def notYld {T : TypeId → Type} : AV T → Bool
  | .yld _ _ => false
  | _ => true
def noRange : Code → Bool
  | .rangeFunc _ _ _ _ => false
  | .seq a b => noRange a && noRange b
  | .cond _ a b => noRange a && noRange b
  | .block _ c => noRange c
  | .loop c => noRange c
  | .scope c => noRange c
  | _ => true
noncomputable def codeC : Code → {R : Type} → Plan → St C.Θ.T → (Ex → St C.Θ.T → Option R) → Option R
  | .skip, _, _, s, K => K .normal s
  | .region _ ops draw, _, p, s, K => joined C p K fun K => match panKind C ops with
    | none => regD C ops draw s K
    | some q => panR C ops draw q s K
  | .seq a b, _, p, s, K => joined C p K fun K => codeC a p.core.fst s fun e s' => match e with
    | .normal => codeC b p.core.snd s' K
    | .exit i => K (.exit i) s'
    | .ret => K .ret s'
    | .pan t => K (.pan t) s'
  | .cond c a b, _, p, s, K => joined C p K fun K => match s.ev c with
    | .c (.v (.bool t)) => cond t (codeC a p.core.fst s K) (codeC b p.core.snd s K)
    | .nilq e => nilJ e (codeC a p.core.fst s K) (codeC b p.core.snd s K)
    | _ => none
  | .block id c, _, p, s, K => joined C p K fun K => codeC c p.core.sub s fun e s' => match e with
    | .normal => K .normal s'
    | .exit i => if i = id then K .normal s' else K (.exit i) s'
    | .ret => K .ret s'
    | .pan t => K (.pan t) s'
  | .loop c, _, p, s, K => match p with
    | .loop h es p => match h.ext s with
      | some x => (iterL n (fun x => codeC c p (h.st x) fun e s' => match e with
        | .normal => match h.ext s' with
          | some x' => some (.inl x')
          | none => none
        | .exit i => match outOf es (.exit i) s' with
          | some y => some (.inr y)
          | none => none
        | .ret => (match outOf es .ret s' with
          | some y => some (.inr y)
          | none => none)
        | .pan t => match outOf es (.pan t) s' with
          | some y => some (.inr y)
          | none => none) x).bind (outTo es (fun e _ s => K e s))
      | none => none
    | _ => none
  | .rangeFunc g ps assign body, _, p, s, K => match p with
    | .range y live => match s.ev g with
      | .c (.fn f caps) => match kvsAt s live with
        | some vals => ifY (C.Θ.Y y = some ⟨ps, assign, body, live, s.slots.length⟩) (match ready (flatE C.Θ) (St.cellsAt C.Θ) C.Γ s f (.yld y vals :: caps.map fun kg => .c (.box kg.1 kg.2 0)) with
          | some r => callK (flatE C.Θ) r none fun s' => if s'.slots.all notYld then K .normal s' else none
          | none => none)
        | none => none
      | _ => none
    | _ => none
  | .exit id, _, _, s, K => K (.exit id) s
  | .ret, _, _, s, K => K .ret s
  | _, _, _, _, _ => none
end
def rngsOf : Code → List (Array Tmp × Code × Code)
  | .rangeFunc _ ps a b => [(ps, a, b)]
  | .seq a b => rngsOf a ++ rngsOf b
  | .cond _ a b => rngsOf a ++ rngsOf b
  | .block _ c => rngsOf c
  | .loop c => rngsOf c
  | .scope c => rngsOf c
  | _ => []
def rng (fn : Func) (i : Nat) (live : List Nat) : Rng := match fn.body with
  | none => ⟨#[], .skip, .skip, [], 0⟩
  | some c => match (rngsOf c)[i]? with
    | none => ⟨#[], .skip, .skip, [], 0⟩
    | some q => ⟨q.1, q.2.1, q.2.2, live, fn.ntmps⟩
structure Ent where
  A : Type
  d : A
def lookT : List (Nat × Ent) → Nat → Ent
  | [], _ => ⟨Unit, ()⟩
  | (k, x) :: r, e => if k = e then x else lookT r e
def lookE (l : List (Nat × Ent)) : List ((k : TypeId) × Enc (fun e => (lookT l e).A) (lookT l k).A) → (e : TypeId) → Enc (fun e => (lookT l e).A) (lookT l e).A
  | [], e => ⟨[], fun _ => (), fun _ => (lookT l e).d, fun _ => rfl, (lookT l e).d⟩
  | ⟨k, x⟩ :: r, e => if h : k = e then h ▸ x else lookE l r e
section
variable (C : Cx) (n : Nat)
def entry (fn : Func) (hin : Shape) (x : hin.X C.Θ.T) : St C.Θ.T :=
  ⟨(hin.st x).slots ++ List.replicate (fn.ntmps - (hin.st x).slots.length) .undef, (hin.st x).boxes, (hin.st x).rows⟩
def resultAV (s : St C.Θ.T) : ResultVar → AV C.Θ.T
  | .tmp t => s.at_ t
  | .cell a t => match vLoad C.P C.Θ s t (s.at_ a) with
    | some (true, v) => v
    | _ => .undef
def cellsOk (s : St C.Θ.T) : List ResultVar → Bool
  | [] => true
  | .tmp _ :: r => cellsOk s r
  | .cell a t :: r => (match vLoad C.P C.Θ s t (s.at_ a) with
    | some (c, _) => c
    | none => false) && cellsOk s r
def handsBack (fn : Func) (outs : List (Ex × Shape)) (s : St C.Θ.T) : Option (Outs C.Θ.T outs) := if cellsOk C s fn.results.toList then outOf outs .ret ⟨fn.results.toList.map (resultAV C s), s.boxes, s.rows⟩ else none
noncomputable def denF (fn : Func) (p : Plan) (hin : Shape) (outs : List (Ex × Shape)) (x : hin.X C.Θ.T) : Option (Outs C.Θ.T outs) := match fn.body with
  | none => none
  | some c => codeC C n c p (entry C fn hin x) fun e s => match e with
    | .exit _ => none
    | .normal => handsBack C fn outs s
    | .ret => handsBack C fn outs s
    | .pan t => outOf outs (.pan t) s
end
end Go.Den
