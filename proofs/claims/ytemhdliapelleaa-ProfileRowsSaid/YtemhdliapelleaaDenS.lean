/- Shapes of states: what is known of a state where paths join, where a loop begins, where a function begins or ends. Definitions. -/
import Derived.Test.YtemhdliapelleaaDenH
namespace Go.Den
open Go Go.RowKit

/-- What one cell is at a join, or at a loop's head: anything of a kind; a nil slice; a row, a variable of the call's own; a function. -/
inductive CT where
  | hole (l : Leaf)
  | nil
  | e0
  | np
  | row (r : Nat)
  | box (k off : Nat)
  | fn (f : Nat) (caps : List Nat)
inductive KT where
  | c (x : CT)
  | agg (l : List CT)
  | cel (ls : List Leaf)
inductive AT where
  | c (x : CT)
  | agg (l : List CT)
  | rel (r sz off : Nat)
  | cel (ls : List Leaf)
  | yld (y : Nat) (l : List KT)
  | undef
structure Shape where
  slots : List AT
  boxes : List (Nat × Nat × List CT)
  rows : List (Nat × Nat)
/-- A list of slots, of which few count. -/
def slotsFrom (l : List (Nat × AT)) : Nat → Nat → List AT
  | _, 0 => []
  | i, n + 1 => (match look l i with
    | some t => t
    | none => .undef) :: slotsFrom l (i + 1) n
def slotsOf (n : Nat) (l : List (Nat × AT)) : List AT := slotsFrom l 0 n
def CT.hs : CT → List Leaf
  | .hole l => [l]
  | _ => []
def CT.hss : List CT → List Leaf
  | [] => []
  | t :: r => t.hs ++ CT.hss r
def KT.hs : KT → List Leaf
  | .c x => x.hs
  | .agg l => CT.hss l
  | .cel ls => ls
def KT.hss : List KT → List Leaf
  | [] => []
  | t :: r => t.hs ++ KT.hss r
def AT.hs : AT → List Leaf
  | .yld _ l => KT.hss l
  | .c x => x.hs
  | .agg l => CT.hss l
  | .rel _ _ _ => [.int .i64]
  | .cel ls => ls
  | .undef => []
def AT.hss : List AT → List Leaf
  | [] => []
  | t :: r => t.hs ++ AT.hss r
def boxHs : List (Nat × Nat × List CT) → List Leaf
  | [] => []
  | t :: r => CT.hss t.2.2 ++ boxHs r
def rowHs : List (Nat × Nat) → List Leaf
  | [] => []
  | t :: r => .sl t.2 :: rowHs r
def Shape.hs (h : Shape) : List Leaf := AT.hss h.slots ++ (boxHs h.boxes ++ rowHs h.rows)
def CT.plain : CT → Bool
  | .hole _ => true
  | .fn _ caps => caps.isEmpty
  | .nil => true
  | .e0 => true
  | .np => true
  | _ => false
def AT.plain : AT → Bool
  | .c x => x.plain
  | .agg l => l.all CT.plain
  | .rel _ _ _ => false
  | .cel _ => true
  | .yld _ _ => false
  | .undef => true
/-- Does a function take plain values alone, and pointers that it reads through? -/
def plainIn (h : Shape) : Bool := (h.boxes.isEmpty && h.rows.isEmpty) && h.slots.all AT.plain
def AT.isCel : AT → Bool
  | .cel _ => true
  | _ => false
def Shape.cel (h : Shape) : Bool := h.slots.any AT.isCel
/-- What varies at a join. -/
def Shape.X (T : TypeId → Type) (h : Shape) : Type := HT (Leaf.Ty T) h.hs

section
variable {T : TypeId → Type}
/-- What is picked: the cells of the holes; the rows by their new names; the variables by theirs. -/
structure Pk (T : TypeId → Type) : Type where
  hs : List (CV T)
  bs : List (Nat × CV T)
  xs : List (Nat × Nat × Nat)
def Pk.and (p q : Pk T) : Pk T := ⟨p.hs ++ q.hs, p.bs ++ q.bs, p.xs ++ q.xs⟩
def St.curB (s : St T) (k g : Nat) : Bool := match look s.boxes k with
  | some B => B.gen == g
  | none => false
def capsTo : List Nat → List (Nat × Nat) → Option (List (Nat × Nat × Nat))
  | [], [] => some []
  | k :: ks, p :: r => match capsTo ks r with
    | some l => some ((k, p) :: l)
    | none => none
  | _, _ => none
def pickC : CT → CV T → Option (Pk T)
  | .hole _, c => some ⟨[c], [], []⟩
  | .nil, c => match c with
    | .nil => some ⟨[], [], []⟩
    | _ => none
  | .e0, c => match c with
    | .e0 => some ⟨[], [], []⟩
    | _ => none
  | .np, c => match c with
    | .np => some ⟨[], [], []⟩
    | _ => none
  | .row r, c => some ⟨[], [(r, c)], []⟩
  | .box k off, c => match c with
    | .box k' g off' => if (off == off') then some ⟨[], [], [(k, k', g)]⟩ else none
    | _ => none
  | .fn f caps, c => match c with
    | .fn f' l => if (f == f') then (match capsTo caps l with
      | some xs => some ⟨[], [], xs⟩
      | none => none) else none
    | _ => none
def pickCs : List CT → List (CV T) → Option (Pk T)
  | [], l => match l with
    | [] => some ⟨[], [], []⟩
    | _ :: _ => none
  | t :: ts, l => match l with
    | [] => none
    | c :: cs => match pickC t c with
      | some p => match pickCs ts cs with
        | some q => some (p.and q)
        | none => none
      | none => none
def pickK : KT → KV T → Option (Pk T)
  | .c x, v => match v with
    | .c c => pickC x c
    | _ => none
  | .agg l, v => match v with
    | .agg cs => pickCs l cs
    | _ => none
  | .cel ls, v => match v with
    | .cel xs => if xs.length = ls.length then some ⟨xs.map .v, [], []⟩ else none
    | _ => none
def pickKs : List KT → List (KV T) → Option (Pk T)
  | [], l => match l with
    | [] => some ⟨[], [], []⟩
    | _ :: _ => none
  | t :: ts, l => match l with
    | [] => none
    | c :: cs => match pickK t c with
      | some p => match pickKs ts cs with
        | some q => some (p.and q)
        | none => none
      | none => none
def pickA : AT → AV T → Option (Pk T)
  | .yld y ts, v => match v with
    | .yld y' l => if (y == y') then pickKs ts l else none
    | _ => none
  | .undef, _ => some ⟨[], [], []⟩
  | .c x, v => match v with
    | .c c => pickC x c
    | _ => none
  | .agg l, v => match v with
    | .agg cs => pickCs l cs
    | _ => none
  | .rel r sz off, v => match v with
    | .rel r' g i sz' off' => if (sz == sz' && off == off') then some ⟨[.v (.int .i64 i)], [(r, .row r' g)], []⟩ else none
    | _ => none
  | .cel ls, v => match v with
    | .cel xs => if xs.length = ls.length then some ⟨xs.map .v, [], []⟩ else none
    | _ => none
def pickAs : List AT → List (AV T) → Option (Pk T)
  | [], l => match l with
    | [] => some ⟨[], [], []⟩
    | _ :: _ => none
  | t :: ts, l => match l with
    | [] => none
    | c :: cs => match pickA t c with
      | some p => match pickAs ts cs with
        | some q => some (p.and q)
        | none => none
      | none => none
def pickBs (s : St T) : List (Nat × Nat × List CT) → List (Nat × Nat × Nat) → Option (Pk T)
  | [], _ => some ⟨[], [], []⟩
  | t :: r, xs => match look xs t.1 with
    | some kg => match look s.boxes kg.1 with
      | some B => if (B.gen == kg.2 && B.ty == t.2.1) then (match pickCs t.2.2 B.cells with
        | some p => match pickBs s r (xs ++ p.xs) with
          | some q => some (p.and q)
          | none => none
        | none => none) else none
      | none => none
    | none => none
/-- A binding is a nil slice, or a row as it is now. -/
def bindOk (s : St T) : CV T → Bool
  | .nil => true
  | .row q g => match look s.rows q with
    | some R => R.gen == g
    | none => false
  | _ => false
def bindSame : CV T → CV T → Bool
  | .nil, .nil => true
  | .row q g, .row q' g' => q == q' && g == g'
  | _, _ => false
def bindApart : CV T → CV T → Bool
  | .row q _, .row q' _ => !(q == q')
  | _, _ => true
def bindsOk (s : St T) : List (Nat × CV T) → Bool
  | [] => true
  | (r, c) :: l => (bindOk s c && l.all fun p => if p.1 == r then bindSame c p.2 else bindApart c p.2) && bindsOk s l
/-- New names of variables: each as it is now; one name one variable. -/
def xsOk (s : St T) : List (Nat × Nat × Nat) → Bool
  | [] => true
  | (k, k', g) :: l => (s.curB k' g && l.all fun p => if p.1 == k then (p.2.1 == k' && p.2.2 == g) else !(p.2.1 == k')) && xsOk s l
def holeApart (bs : List (Nat × CV T)) : CV T → Bool
  | .row q _ => bs.all fun p => match p.2 with
    | .row q' _ => !(q == q')
    | _ => true
  | _ => true
def rowCs (bs : List (Nat × CV T)) : List (Nat × Nat) → Option (List (CV T))
  | [] => some []
  | (r, _) :: l => match look bs r with
    | some c => match rowCs bs l with
      | some cs => some (c :: cs)
      | none => none
    | none => none
/-- What a state gives at a shape: what varies; the cells of the holes; the rows' and the variables' names. -/
structure Ext (T : TypeId → Type) (h : Shape) : Type where
  x : h.X T
  hs : List (CV T)
  bs : List (Nat × CV T)
  xs : List (Nat × Nat × Nat)
def idBs : List (Nat × Nat × List CT) → List (Nat × Nat × Nat)
  | [] => []
  | t :: r => if Nat.ble pin t.1 then (t.1, t.1, 0) :: idBs r else idBs r
def idRs : List (Nat × Nat) → List (Nat × CV T)
  | [] => []
  | t :: r => if pinned t.1 then (t.1, .row t.1 0) :: idRs r else idRs r
/-- What the slots give; 'own': what was lent is there under its own name. -/
def pickS (own : Bool) (h : Shape) (l : List (AV T)) : Option (Pk T) := match pickAs h.slots l with
  | some p => if own then some ⟨p.hs, idRs h.rows ++ p.bs, idBs h.boxes ++ p.xs⟩ else some p
  | none => none
def Shape.extG (own : Bool) (h : Shape) (s : St T) : Option (Ext T h) := match pickS own h s.slots with
  | some p => match pickBs s h.boxes p.xs with
    | some q => if (xsOk s (p.and q).xs && (bindsOk s (p.and q).bs && (p.and q).hs.all (holeApart (p.and q).bs))) then (match rowCs (p.and q).bs h.rows with
      | some cs => match HT.get s.get h.hs (p.hs ++ (q.hs ++ cs)) with
        | some x => some ⟨x, (p.and q).hs, (p.and q).bs, (p.and q).xs⟩
        | none => none
      | none => none) else none
    | none => none
  | none => none
def pinsOk (xs : List (Nat × Nat × Nat)) (bs : List (Nat × CV T)) : Bool := xs.all (fun p => Nat.blt p.1 pin || (p.1 == p.2.1 && p.2.2 == 0)) && bs.all fun p => !(pinned p.1) || match p.2 with
  | .row q g => p.1 == q && g == 0
  | _ => false
/-- What a call hands over. -/
abbrev Shape.extB (h : Shape) (s : St T) : Option (Ext T h) := h.extG false s
def Shape.ext (h : Shape) (s : St T) : Option (h.X T) := match h.extG true s with
  | some y => if pinsOk y.xs y.bs then some y.x else none
  | none => none

def fillC : CT → List (PV T) → CV T × List (PV T)
  | .hole _, ps => match ps with
    | [] => (.nil, [])
    | p :: ps => (.v p, ps)
  | .nil, ps => (.nil, ps)
  | .e0, ps => (.e0, ps)
  | .np, ps => (.np, ps)
  | .row r, ps => (.row r 0, ps)
  | .box k off, ps => (.box k 0 off, ps)
  | .fn f caps, ps => (.fn f (caps.map fun k => (k, 0)), ps)
def fillCs : List CT → List (PV T) → List (CV T) × List (PV T)
  | [], ps => ([], ps)
  | t :: ts, ps => ((fillC t ps).1 :: (fillCs ts (fillC t ps).2).1, (fillCs ts (fillC t ps).2).2)
def intOfPV : PV T → Int
  | .int _ n => n
  | _ => 0
def fillK : KT → List (PV T) → KV T × List (PV T)
  | .c x, ps => (.c (fillC x ps).1, (fillC x ps).2)
  | .agg l, ps => (.agg (fillCs l ps).1, (fillCs l ps).2)
  | .cel ls, ps => (.cel (ps.take ls.length), ps.drop ls.length)
def fillKs : List KT → List (PV T) → List (KV T) × List (PV T)
  | [], ps => ([], ps)
  | t :: ts, ps => ((fillK t ps).1 :: (fillKs ts (fillK t ps).2).1, (fillKs ts (fillK t ps).2).2)
def fillA : AT → List (PV T) → AV T × List (PV T)
  | .yld y ts, ps => (.yld y (fillKs ts ps).1, (fillKs ts ps).2)
  | .undef, ps => (.undef, ps)
  | .c x, ps => (.c (fillC x ps).1, (fillC x ps).2)
  | .agg l, ps => (.agg (fillCs l ps).1, (fillCs l ps).2)
  | .rel r sz off, ps => match ps with
    | [] => (.undef, [])
    | p :: ps => (.rel r 0 (intOfPV p) sz off, ps)
  | .cel ls, ps => (.cel (ps.take ls.length), ps.drop ls.length)
def fillAs : List AT → List (PV T) → List (AV T) × List (PV T)
  | [], ps => ([], ps)
  | t :: ts, ps => ((fillA t ps).1 :: (fillAs ts (fillA t ps).2).1, (fillAs ts (fillA t ps).2).2)
def fillBs : List (Nat × Nat × List CT) → List (PV T) → List (Nat × BoxS T) × List (PV T)
  | [], ps => ([], ps)
  | t :: r, ps => ((t.1, ⟨0, t.2.1, (fillCs t.2.2 ps).1⟩) :: (fillBs r (fillCs t.2.2 ps).2).1, (fillBs r (fillCs t.2.2 ps).2).2)
def listOf (e : TypeId) : PV T → List (T e)
  | .sl e' l => if h : e' = e then h ▸ l else []
  | _ => []
def fillRs : List (Nat × Nat) → List (PV T) → List (Nat × RowS T)
  | [], _ => []
  | t :: r, ps => match ps with
    | [] => []
    | p :: ps => (t.1, ⟨0, t.2, listOf t.2 p⟩) :: fillRs r ps
def Shape.mk' (h : Shape) (ps : List (PV T)) : St T :=
  ⟨(fillAs h.slots ps).1, (fillBs h.boxes (fillAs h.slots ps).2).1, fillRs h.rows (fillBs h.boxes (fillAs h.slots ps).2).2⟩
def Shape.st (h : Shape) (x : h.X T) : St T := h.mk' (HT.list Leaf.mk h.hs x)
end
end Go.Den
