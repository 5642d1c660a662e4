/- Code as a function of what it is handed: shapes of states, joins, loops. Definitions alone. -/
import Derived.Test.YthkcpgiibmajhaaDenJ
namespace Go.Den
open Go Go.RowKit

/-- What one cell is at a join, or at a loop's head: anything of a kind; a nil slice; a row, a variable of the call's own; a function. -/
inductive CT where
  | hole (l : Leaf)
  | nil
  | row (r : Nat)
  | box (k off : Nat)
  | fn (f : Nat) (caps : List Nat)
inductive AT where
  | c (x : CT)
  | agg (l : List CT)
  | undef
structure Shape where
  slots : List AT
  boxes : List (Nat × Nat × List CT)
  rows : List (Nat × Nat)
/-- A list of slots, of which few count. -/
def slotsFrom (l : List (Nat × AT)) : Nat → Nat → List AT
  | _, 0 => []
  | i, n + 1 => (match look l i with
    | some t => t
    | none => .undef) :: slotsFrom l (i + 1) n
def slotsOf (n : Nat) (l : List (Nat × AT)) : List AT := slotsFrom l 0 n
def CT.hs : CT → List Leaf
  | .hole l => [l]
  | _ => []
def CT.hss : List CT → List Leaf
  | [] => []
  | t :: r => t.hs ++ CT.hss r
def AT.hs : AT → List Leaf
  | .c x => x.hs
  | .agg l => CT.hss l
  | .undef => []
def AT.hss : List AT → List Leaf
  | [] => []
  | t :: r => t.hs ++ AT.hss r
def boxHs : List (Nat × Nat × List CT) → List Leaf
  | [] => []
  | t :: r => CT.hss t.2.2 ++ boxHs r
def rowHs : List (Nat × Nat) → List Leaf
  | [] => []
  | t :: r => .sl t.2 :: rowHs r
def Shape.hs (h : Shape) : List Leaf := AT.hss h.slots ++ (boxHs h.boxes ++ rowHs h.rows)
/-- What varies at a join. -/
def Shape.X (T : TypeId → Type) (h : Shape) : Type := HT (Leaf.Ty T) h.hs

section
variable {T : TypeId → Type}
/-- What is picked: the cells of the holes; the rows by their new names. -/
structure Pk (T : TypeId → Type) : Type where
  hs : List (CV T)
  bs : List (Nat × CV T)
def Pk.and (p q : Pk T) : Pk T := ⟨p.hs ++ q.hs, p.bs ++ q.bs⟩
def St.curB (s : St T) (k g : Nat) : Bool := match look s.boxes k with
  | some B => B.gen == g
  | none => false
def capsAre (s : St T) : List Nat → List (Nat × Nat) → Bool
  | [], [] => true
  | k :: ks, (k', g) :: r => k == k' && (s.curB k g && capsAre s ks r)
  | _, _ => false
def pickC (s : St T) : CT → CV T → Option (Pk T)
  | .hole _, c => some ⟨[c], []⟩
  | .nil, c => match c with
    | .nil => some ⟨[], []⟩
    | _ => none
  | .row r, c => some ⟨[], [(r, c)]⟩
  | .box k off, c => match c with
    | .box k' g off' => if (k == k' && (off == off' && s.curB k g)) then some ⟨[], []⟩ else none
    | _ => none
  | .fn f caps, c => match c with
    | .fn f' l => if (f == f' && capsAre s caps l) then some ⟨[], []⟩ else none
    | _ => none
def pickCs (s : St T) : List CT → List (CV T) → Option (Pk T)
  | [], l => match l with
    | [] => some ⟨[], []⟩
    | _ :: _ => none
  | t :: ts, l => match l with
    | [] => none
    | c :: cs => match pickC s t c with
      | some p => match pickCs s ts cs with
        | some q => some (p.and q)
        | none => none
      | none => none
def pickA (s : St T) : AT → AV T → Option (Pk T)
  | .undef, _ => some ⟨[], []⟩
  | .c x, v => match v with
    | .c c => pickC s x c
    | _ => none
  | .agg l, v => match v with
    | .agg cs => pickCs s l cs
    | _ => none
def pickAs (s : St T) : List AT → List (AV T) → Option (Pk T)
  | [], l => match l with
    | [] => some ⟨[], []⟩
    | _ :: _ => none
  | t :: ts, l => match l with
    | [] => none
    | c :: cs => match pickA s t c with
      | some p => match pickAs s ts cs with
        | some q => some (p.and q)
        | none => none
      | none => none
def pickBs (s : St T) : List (Nat × Nat × List CT) → Option (Pk T)
  | [] => some ⟨[], []⟩
  | t :: r => match look s.boxes t.1 with
    | some B => if B.ty == t.2.1 then (match pickCs s t.2.2 B.cells with
      | some p => match pickBs s r with
        | some q => some (p.and q)
        | none => none
      | none => none) else none
    | none => none
/-- A binding is a nil slice, or a row as it is now. -/
def bindOk (s : St T) : CV T → Bool
  | .nil => true
  | .row q g => match look s.rows q with
    | some R => R.gen == g
    | none => false
  | _ => false
def bindSame : CV T → CV T → Bool
  | .nil, .nil => true
  | .row q g, .row q' g' => q == q' && g == g'
  | _, _ => false
def bindApart : CV T → CV T → Bool
  | .row q _, .row q' _ => !(q == q')
  | _, _ => true
def bindsOk (s : St T) : List (Nat × CV T) → Bool
  | [] => true
  | (r, c) :: l => (bindOk s c && l.all fun p => if p.1 == r then bindSame c p.2 else bindApart c p.2) && bindsOk s l
def holeApart (bs : List (Nat × CV T)) : CV T → Bool
  | .row q _ => bs.all fun p => match p.2 with
    | .row q' _ => !(q == q')
    | _ => true
  | _ => true
def rowCs (bs : List (Nat × CV T)) : List (Nat × Nat) → Option (List (CV T))
  | [] => some []
  | (r, _) :: l => match look bs r with
    | some c => match rowCs bs l with
      | some cs => some (c :: cs)
      | none => none
    | none => none
def Shape.ext (h : Shape) (s : St T) : Option (h.X T) := match pickAs s h.slots s.slots with
  | some p => match pickBs s h.boxes with
    | some q => if (bindsOk s (p.and q).bs && (p.and q).hs.all (holeApart (p.and q).bs)) then (match rowCs (p.and q).bs h.rows with
      | some cs => HT.get s.get h.hs (p.hs ++ (q.hs ++ cs))
      | none => none) else none
    | none => none
  | none => none

def fillC : CT → List (PV T) → CV T × List (PV T)
  | .hole _, ps => match ps with
    | [] => (.nil, [])
    | p :: ps => (.v p, ps)
  | .nil, ps => (.nil, ps)
  | .row r, ps => (.row r 0, ps)
  | .box k off, ps => (.box k 0 off, ps)
  | .fn f caps, ps => (.fn f (caps.map fun k => (k, 0)), ps)
def fillCs : List CT → List (PV T) → List (CV T) × List (PV T)
  | [], ps => ([], ps)
  | t :: ts, ps => ((fillC t ps).1 :: (fillCs ts (fillC t ps).2).1, (fillCs ts (fillC t ps).2).2)
def fillA : AT → List (PV T) → AV T × List (PV T)
  | .undef, ps => (.undef, ps)
  | .c x, ps => (.c (fillC x ps).1, (fillC x ps).2)
  | .agg l, ps => (.agg (fillCs l ps).1, (fillCs l ps).2)
def fillAs : List AT → List (PV T) → List (AV T) × List (PV T)
  | [], ps => ([], ps)
  | t :: ts, ps => ((fillA t ps).1 :: (fillAs ts (fillA t ps).2).1, (fillAs ts (fillA t ps).2).2)
def fillBs : List (Nat × Nat × List CT) → List (PV T) → List (Nat × BoxS T) × List (PV T)
  | [], ps => ([], ps)
  | t :: r, ps => ((t.1, ⟨0, t.2.1, (fillCs t.2.2 ps).1⟩) :: (fillBs r (fillCs t.2.2 ps).2).1, (fillBs r (fillCs t.2.2 ps).2).2)
def listOf (e : TypeId) : PV T → List (T e)
  | .sl e' l => if h : e' = e then h ▸ l else []
  | _ => []
def fillRs : List (Nat × Nat) → List (PV T) → List (Nat × RowS T)
  | [], _ => []
  | t :: r, ps => match ps with
    | [] => []
    | p :: ps => (t.1, ⟨0, t.2, listOf t.2 p⟩) :: fillRs r ps
def Shape.mk' (h : Shape) (ps : List (PV T)) : St T :=
  ⟨(fillAs h.slots ps).1, (fillBs h.boxes (fillAs h.slots ps).2).1, fillRs h.rows (fillBs h.boxes (fillAs h.slots ps).2).2⟩
def Shape.st (h : Shape) (x : h.X T) : St T := h.mk' (HT.list Leaf.mk h.hs x)
end

/-! ### Code -/
inductive Ex where
  | normal
  | exit (id : Nat)
  | ret
/-- What 'den' is told of a code: where paths join, and how loops stand. -/
inductive Plan where
  | leaf
  | two (p q : Plan)
  | one (p : Plan)
  | join (h : Shape) (p : Plan)
  | loop (h : Shape) (es : List (Ex × Shape)) (p : Plan)
def Plan.fst : Plan → Plan
  | .two p _ => p
  | _ => .leaf
def Plan.snd : Plan → Plan
  | .two _ q => q
  | _ => .leaf
def Plan.sub : Plan → Plan
  | .one p => p
  | _ => .leaf
/-- The plan's join here, and what is left of the plan. -/
def Plan.atJ : Plan → Option Shape
  | .join h _ => some h
  | _ => none
def Plan.core : Plan → Plan
  | .join _ p => p
  | p => p
def Ex.same : Ex → Ex → Bool
  | .normal, .normal => true
  | .exit a, .exit b => a == b
  | .ret, .ret => true
  | _, _ => false
/-- What a loop hands on: one of its ways out. -/
def Outs (T : TypeId → Type) : List (Ex × Shape) → Type
  | [] => Empty
  | [a] => a.2.X T
  | a :: b :: r => a.2.X T ⊕ Outs T (b :: r)
section
variable {T : TypeId → Type}
def outOf : (es : List (Ex × Shape)) → Ex → St T → Option (Outs T es)
  | [], _, _ => none
  | [a], e, s => if a.1.same e then a.2.ext s else none
  | a :: b :: r, e, s => if a.1.same e then (match a.2.ext s with
      | some x => some (.inl x)
      | none => none) else (match outOf (b :: r) e s with
      | some x => some (.inr x)
      | none => none)
def outTo {R : Type} : (es : List (Ex × Shape)) → (Ex → St T → R) → Outs T es → R
  | [], _, x => nomatch x
  | [a], K, x => K a.1 (a.2.st x)
  | a :: b :: r, K, x => Sum.elim (fun x => K a.1 (a.2.st x)) (fun x => outTo (b :: r) K x) x
/-- Round by round; n rounds at most. -/
def iterL {X Y : Type} : Nat → (X → Option (X ⊕ Y)) → X → Option Y
  | 0, _, _ => none
  | n + 1, L, x => (L x).bind fun
    | .inl x' => iterL n L x'
    | .inr y => some y
def letJ {A B : Type} (x : A) (f : A → B) : B := f x
end
section
variable (C : Cx)
/-- Does an operation only read, and put one value into its slot? -/
def quiet (o : Oper) : Bool := !(isMem o.op) && match o.op with
  | .select _ _ => false
  | .call c => match c.callee with
    | .value f => match f with
      | .func g => match look C.Γ g with
        | some sp => sp.rds.all PD.flat
        | none => false
      | _ => false
    | _ => true
  | _ => true
/-- Whom an operation must wait for, straight or through others: a number, bit by bit. -/
def edgeMask (tab : List Nat) : List Edge → Nat
  | [] => 0
  | e :: r => if Region.binds .any e then ((1 <<< e.on) ||| tab.getD e.on 0) ||| edgeMask tab r else edgeMask tab r
def ancTab : List Oper → List Nat → List Nat
  | [], tab => tab
  | o :: r, tab => ancTab r (tab ++ [edgeMask tab o.after.toList])
def pairOk (ops : Array Oper) (m : Nat) (k : Nat) (oi : Oper) : Bool := m.testBit k || match ops[k]? with
  | some ok => quiet C ok && (quiet C oi && Oper.apart ops ok oi)
  | none => false
def rowOk (ops : Array Oper) (tab : List Nat) (i : Nat) : Bool := match ops[i]? with
  | some oi => oi.after.toList.all (fun e => !(Region.binds .any e) || Nat.blt e.on i) && (List.range i).all fun k => pairOk C ops (tab.getD i 0) k oi
  | none => false
/-- Does a region come to the same in each order that it may be run in? -/
def drawOk (ops : Array Oper) : Bool := (List.range ops.size).all (rowOk C ops (ancTab ops.toList []))
end
section
variable (C : Cx) (n : Nat)
def joined {R : Type} (p : Plan) (K : Ex → St C.Θ.T → Option R) (f : (Ex → St C.Θ.T → Option R) → Option R) : Option R := match p.atJ with
  | none => f K
  | some h => letJ (fun x => K .normal (h.st x)) fun J => f fun e s' => match e with
    | .normal => match h.ext s' with
      | some x => J x
      | none => none
    | .exit i => K (.exit i) s'
    | .ret => K .ret s'
def codeC : Code → {R : Type} → Plan → St C.Θ.T → (Ex → St C.Θ.T → Option R) → Option R
  | .skip, _, _, s, K => K .normal s
  | .region _ ops draw, _, p, s, K => joined C p K fun K => if draw && !(drawOk C ops) then none else opsC C ops ops.toList [] s (K .normal)
  | .seq a b, _, p, s, K => joined C p K fun K => codeC a p.core.fst s fun e s' => match e with
    | .normal => codeC b p.core.snd s' K
    | .exit i => K (.exit i) s'
    | .ret => K .ret s'
  | .cond c a b, _, p, s, K => joined C p K fun K => match s.ev c with
    | .c (.v (.bool t)) => cond t (codeC a p.core.fst s K) (codeC b p.core.snd s K)
    | _ => none
  | .block id c, _, p, s, K => joined C p K fun K => codeC c p.core.sub s fun e s' => match e with
    | .normal => K .normal s'
    | .exit i => if i = id then K .normal s' else K (.exit i) s'
    | .ret => K .ret s'
  | .loop c, _, p, s, K => match p with
    | .loop h es p => match h.ext s with
      | some x => (iterL n (fun x => codeC c p (h.st x) fun e s' => match e with
        | .normal => match h.ext s' with
          | some x' => some (.inl x')
          | none => none
        | .exit i => match outOf es (.exit i) s' with
          | some y => some (.inr y)
          | none => none
        | .ret => match outOf es .ret s' with
          | some y => some (.inr y)
          | none => none) x).bind (outTo es K)
      | none => none
    | _ => none
  | .exit id, _, _, s, K => K (.exit id) s
  | .ret, _, _, s, K => K .ret s
  | _, _, _, _, _ => none
end

/-! ### Tables of types -/
/-- A type, and one value of it. -/
structure Ent where
  A : Type
  d : A
def lookT : List (Nat × Ent) → Nat → Ent
  | [], _ => ⟨Unit, ()⟩
  | (k, x) :: r, e => if k = e then x else lookT r e
def lookE (l : List (Nat × Ent)) : List ((k : TypeId) × Enc (fun e => (lookT l e).A) (lookT l k).A) → (e : TypeId) → Enc (fun e => (lookT l e).A) (lookT l e).A
  | [], e => ⟨[], fun _ => (), fun _ => (lookT l e).d, fun _ => rfl, (lookT l e).d⟩
  | ⟨k, x⟩ :: r, e => if h : k = e then h ▸ x else lookE l r e

/-! ### A function -/
section
variable (C : Cx) (n : Nat)
def entry (fn : Func) (pds : List PD) (x : HT (PD.Ty C.Θ.T) pds) : St C.Θ.T :=
  ⟨(HT.list pdAV pds x).map sumAV ++ List.replicate (fn.ntmps - pds.length) .undef, [], []⟩
def resultAV (s : St C.Θ.T) : ResultVar → AV C.Θ.T
  | .tmp t => s.at_ t
  | .cell a t => match vLoad C.P C.Θ s t (s.at_ a) with
    | some (true, v) => v
    | _ => .undef
def handsBack (fn : Func) (rds : List PD) (s : St C.Θ.T) : Option (HT (PD.Ty C.Θ.T) rds) := HT.get s.pget rds (fn.results.toList.map (resultAV C s))
def denF (fn : Func) (p : Plan) (pds rds : List PD) (x : HT (PD.Ty C.Θ.T) pds) : Option (HT (PD.Ty C.Θ.T) rds) := match fn.body with
  | none => none
  | some c => codeC C n c p (entry C fn pds x) fun e s => match e with
    | .exit _ => none
    | .normal => handsBack C fn rds s
    | .ret => handsBack C fn rds s
end
end Go.Den
