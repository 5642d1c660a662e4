/- Code as a function of what it is handed: joins, loops. Definitions alone. -/
import Derived.Test.YtemhdliapelleaaDenJ
namespace Go.Den
open Go Go.RowKit

open Classical in
/-- Two ways that must come to the same. -/
noncomputable def both {A : Type} (x y : Option A) : Option A := if x = y then x else none
/-- A slice is asked whether it is nil: one of some elements is not; of an empty one nobody knows. -/
noncomputable def nilJ {A : Type} (e : Bool) (x y : Option A) : Option A := cond e (both x y) y
/-! ### Code -/
/-- What 'den' is told of a code: where paths join, and how loops stand. -/
inductive Plan where
  | leaf
  | two (p q : Plan)
  | one (p : Plan)
  | join (h : Shape) (p : Plan)
  | loop (h : Shape) (es : List (Ex × Shape)) (p : Plan)
  | range (y : Nat) (live : List Nat)
def Plan.fst : Plan → Plan
  | .two p _ => p
  | _ => .leaf
def Plan.snd : Plan → Plan
  | .two _ q => q
  | _ => .leaf
def Plan.sub : Plan → Plan
  | .one p => p
  | _ => .leaf
/-- The plan's join here, and what is left of the plan. -/
def Plan.atJ : Plan → Option Shape
  | .join h _ => some h
  | _ => none
def Plan.core : Plan → Plan
  | .join _ p => p
  | p => p
section
/-- Round by round; n rounds at most. -/
def iterL {X Y : Type} : Nat → (X → Option (X ⊕ Y)) → X → Option Y
  | 0, _, _ => none
  | n + 1, L, x => (L x).bind fun
    | .inl x' => iterL n L x'
    | .inr y => some y
open Classical in
/-- What is taken for granted, and shown beside. -/
noncomputable def ifY {R : Type} (p : Prop) (x : Option R) : Option R := if p then x else none
def letJ {A B : Type} (x : A) (f : A → B) : B := f x
end
section
variable (C : Cx)
/-- A contract of a function that only computes, or reads, and hands back what holds no address. -/
def quietSpec {T : TypeId → Type} (fe : TypeId → Bool) (sp : Spec T) : Bool := ((sp.hin.boxes.isEmpty && sp.hin.rows.isEmpty) && flatOuts fe sp.outs) && sp.outs.all fun o => o.2.boxes.isEmpty && o.2.rows.isEmpty
/-- Does an operation only read, and put one value into its slot? -/
def isLit : Op → Bool
  | .buildSlice _ _ _ => true
  | _ => false
def quiet (o : Oper) : Bool := (!(isMem o.op) || isLit o.op) && match o.op with
  | .select _ _ => false
  | .call c => match c.callee with
    | .value f => match f with
      | .func g => C.Γ.all fun p => !(p.1 == g) || quietSpec (flatE C.Θ) p.2
      | _ => false
    | _ => true
  | _ => true
/-- Whom an operation must wait for, straight or through others: a number, bit by bit. -/
def edgeMask (tab : List Nat) : List Edge → Nat
  | [] => 0
  | e :: r => if Region.binds .any e then ((1 <<< e.on) ||| tab.getD e.on 0) ||| edgeMask tab r else edgeMask tab r
def ancTab : List Oper → List Nat → List Nat
  | [], tab => tab
  | o :: r, tab => ancTab r (tab ++ [edgeMask tab o.after.toList])
def pairOk (ops : Array Oper) (m : Nat) (k : Nat) (oi : Oper) : Bool := m.testBit k || match ops[k]? with
  | some ok => quiet C ok && (quiet C oi && Oper.apart ops ok oi)
  | none => false
def rowOk (ops : Array Oper) (tab : List Nat) (i : Nat) : Bool := match ops[i]? with
  | some oi => oi.after.toList.all (fun e => !(Region.binds .any e) || Nat.blt e.on i) && (List.range i).all fun k => pairOk C ops (tab.getD i 0) k oi
  | none => false
/-- Does a region come to the same in each order that it may be run in? -/
def drawOk (ops : Array Oper) : Bool := (List.range ops.size).all (rowOk C ops (ancTab ops.toList []))
end
/-! ### Orders of operations that make memory -/
/-- P: computes of slots alone; Q: reads memory; QC: calls what only reads; B: makes a variable; A: appends; F: makes a row; no: anything else. -/
inductive Kd where
  | P | Q | QC | B | A | F | no
def pureOp : Op → Bool
  | .move _ => true
  | .assign _ => true
  | .pick _ _ _ => true
  | .unOp _ _ _ => true
  | .binOp _ _ _ _ _ => true
  | .convert _ _ _ => true
  | .extract _ _ => true
  | .nilCheck _ => true
  | .fieldAddr _ _ _ => true
  | .field _ _ _ => true
  | .build _ _ => true
  | .buildSlice _ _ _ => true
  | .makeFunc _ _ _ => true
  | .index _ _ _ => true
  | .slice _ _ _ _ _ => true
  | .call c => match c.callee with
    | .builtin .max => true
    | .builtin .min => true
    | _ => false
  | _ => false
def readOp : Op → Bool
  | .load _ _ => true
  | .indexAddr _ _ _ => true
  | .call c => match c.callee with
    | .builtin .len => true
    | _ => false
  | _ => false
def appOp : Op → Bool
  | .call c => match c.callee with
    | .builtin .append => true
    | _ => false
  | _ => false
section
variable (C : Cx)
/-- A contract of a function that only reads, and hands back what holds no address, or new rows. -/
def freshSpec (sp : Spec C.Θ.T) : Bool := (plainIn sp.hin && flatOuts (flatE C.Θ) sp.outs) && sp.outs.all fun o => o.2.boxes.isEmpty && o.2.rows.all fun r => Nat.blt r.1 100
def calleeC (o : Oper) : Option Nat := match o.op with
  | .call c => match c.callee with
    | .value f => match f with
      | .func g => some g
      | _ => none
    | _ => none
  | _ => none
def kindOf (o : Oper) : Kd := if pureOp o.op then .P else if readOp o.op then .Q else match o.dst, o.guard with
  | some _, none => (match o.op with
    | .alloc _ => .B
    | .box _ _ => .B
    | .makeSlice _ _ _ => .F
    | _ => if appOp o.op then .A else match calleeC o with
      | some g => if (C.Γ.all fun p => !(p.1 == g) || (quietSpec (flatE C.Θ) p.2 && plainIn p.2.hin)) then .QC
        else if (C.Γ.all fun p => !(p.1 == g) || freshSpec C p.2) then .F else .no
      | none => .no)
  | _, _ => match calleeC o with
    | some g => if (C.Γ.all fun p => !(p.1 == g) || (quietSpec (flatE C.Θ) p.2 && plainIn p.2.hin)) then .QC else .no
    | none => .no
def Kd.grow : Kd → Bool
  | .B => true
  | .A => true
  | .F => true
  | _ => false
/-- May the later one go ahead of the earlier one? -/
def Kd.comm : Kd → Kd → Bool
  | .no, _ => false
  | _, .no => false
  | .P, _ => true
  | _, .P => true
  | .Q, .Q => true
  | .Q, .QC => true
  | .QC, .Q => true
  | .QC, .QC => true
  | .Q, .B => true
  | .QC, .B => true
  | .Q, .F => true
  | .QC, .F => true
  | .B, .Q => true
  | .B, .QC => true
  | .F, .Q => true
  | .F, .QC => true
  | .A, .Q => true
  | .B, .A => true
  | .B, .F => true
  | .A, .B => true
  | .F, .B => true
  | _, _ => false
def pairOk2 (ops : Array Oper) (m : Nat) (k : Nat) (oi : Oper) : Bool := m.testBit k || match ops[k]? with
  | some ok => (kindOf C ok).comm (kindOf C oi) && Oper.apart ops ok oi
  | none => false
def rowOk2 (ops : Array Oper) (tab : List Nat) (i : Nat) : Bool := match ops[i]? with
  | some oi => (oi.after.toList.all (fun e => !(Region.binds .any e) || Nat.blt e.on i) && (List.range i).all fun k => pairOk2 C ops (tab.getD i 0) k oi) &&
    (match kindOf C oi with
      | .no => (List.range ops.size).all fun j => Nat.ble j i || match ops[j]? with
        | some oj => !((kindOf C oj).grow)
        | none => true
      | _ => true)
  | none => false
def drawOk2 (ops : Array Oper) : Bool := (List.range ops.size).all (rowOk2 C ops (ancTab ops.toList []))
def freshKeys (d : Nat) : List (Nat × Spec C.Θ.T) → Nat → List Nat
  | [], _ => []
  | p :: r, g => if p.1 == g then (p.2.outs.flatMap fun o => o.2.rows.map fun q => freshK d q.1) ++ freshKeys d r g else freshKeys d r g
/-- Keys of variables, and of rows, that operations are about to make. -/
def newBK : List Oper → List Nat
  | [] => []
  | o :: r => match kindOf C o, o.dst with
    | .B, some d => d :: newBK r
    | _, _ => newBK r
def newAK : List Oper → List Nat
  | [] => []
  | o :: r => match kindOf C o, o.dst with
    | .A, some d => d :: newAK r
    | _, _ => newAK r
def newFK : List Oper → List Nat
  | [] => []
  | o :: r => match kindOf C o, o.dst with
    | .F, some d => (match calleeC o with
      | some g => freshKeys C d C.Γ g
      | none => [d]) ++ newFK r
    | _, _ => newFK r
/-- Where what is made is put. -/
def growDs : List Oper → List Nat
  | [] => []
  | o :: r => match (kindOf C o).grow, o.dst with
    | true, some d => d :: growDs r
    | _, _ => growDs r
def refsB (s : St C.Θ.T) : List (Nat × Nat) := s.slots.flatMap AV.mB ++ s.boxes.flatMap fun b => b.2.cells.flatMap CV.mB
def refsR (s : St C.Θ.T) : List (Nat × Nat) := s.slots.flatMap AV.mR ++ s.boxes.flatMap fun b => b.2.cells.flatMap CV.mR
/-- Nothing speaks of what is about to be made. -/
def tameOk (s : St C.Θ.T) (ops : List Oper) : Bool :=
  ((refsB C s).all (fun p => match look s.boxes p.1 with
    | some B => Nat.ble p.2 B.gen
    | none => !((newBK C ops).contains p.1)) &&
  (refsR C s).all (fun p => match look s.rows p.1 with
    | some R => Nat.ble p.2 R.gen
    | none => !((newAK C ops ++ newFK C ops).contains p.1))) &&
  (((newBK C ops).all (fun d => !(keyIn s.boxes d)) && (newFK C ops).all (fun d => !(keyIn s.rows d))) &&
  (apartKs (growDs C ops) && (growDs C ops).all fun d => Nat.blt d 10000))
end
section
variable (C : Cx) (n : Nat)
def joined {R : Type} (p : Plan) (K : Ex → St C.Θ.T → Option R) (f : (Ex → St C.Θ.T → Option R) → Option R) : Option R := match p.atJ with
  | none => f K
  | some h => letJ (fun x => K .normal (h.st x)) fun J => f fun e s' => match e with
    | .normal => match h.ext s' with
      | some x => J x
      | none => none
    | .exit i => K (.exit i) s'
    | .ret => K .ret s'
open Classical in
/-- What all that may be handed back come to. -/
noncomputable def allZ {Z A : Type} (R : Z → Prop) (K : Z → Option A) : Option A := if h : ∃ r, ∀ z, R z → K z = some r then some (Classical.choose h) else none
def findN {T : TypeId → Type} : List (Nat × NSpec T) → Nat → Option (NSpec T)
  | [], _ => none
  | p :: r, g => if p.1 = g then some p.2 else findN r g
/-- The function that an operation calls, if its contract says a relation. -/
def ambOf (o : Oper) : Option (NSpec C.Θ.T × Nat × List Operand) := match o.op, o.guard with
  | .call c, none => (match c.callee with
    | .value (.func g) => match findN C.N g with
      | some ns => some (ns, g, c.args.toList)
      | none => none
    | _ => none)
  | _, _ => none
noncomputable def ambC {R : Type} (s : St C.Θ.T) (q : NSpec C.Θ.T × Nat × List Operand) (dst : Option Nat) (K : St C.Θ.T → Option R) : Option R := match entryOf (flatE C.Θ) (St.cellsAt C.Θ) q.1.none_ s (q.2.2.map s.ev) with
  | some y => if (flatOuts (flatE C.Θ) q.1.outs || y.hs.all notRow) then allZ (q.1.R y.x) (fun z => outTo q.1.outs (fun ex _ t => match ex with
    | .ret => match after (flatE C.Θ) s q.1.hin y t (flatOuts (flatE C.Θ) q.1.outs) dst with
      | some s' => K s'
      | none => none
    | _ => none) z) else none
  | none => none
/-- A region's operations; the last one may be a call whose contract says a relation. -/
noncomputable def regC {R : Type} (ops : Array Oper) (s : St C.Θ.T) (K : St C.Θ.T → Option R) : Option R := match ops.toList.getLast? with
  | none => opsC C ops ops.toList [] s K
  | some o => match ambOf C o with
    | none => opsC C ops ops.toList [] s K
    | some q => opsC C ops ops.toList.dropLast [] s fun s' => ambC C s' q o.dst K
def KV.of {T : TypeId → Type} : AV T → Option (KV T)
  | .c x => some (.c x)
  | .agg cs => some (.agg cs)
  | .cel xs => some (.cel xs)
  | _ => none
def kvsAt {T : TypeId → Type} (s : St T) : List Nat → Option (List (KV T))
  | [] => some []
  | i :: r => match KV.of (s.at_ i) with
    | some v => match kvsAt s r with
      | some l => some (v :: l)
      | none => none
    | none => none
def notYld {T : TypeId → Type} : AV T → Bool
  | .yld _ _ => false
  | _ => true
/-- Is there no range over a function in a code? -/
def noRange : Code → Bool
  | .rangeFunc _ _ _ _ => false
  | .seq a b => noRange a && noRange b
  | .cond _ a b => noRange a && noRange b
  | .block _ c => noRange c
  | .loop c => noRange c
  | .scope c => noRange c
  | _ => true
noncomputable def codeC : Code → {R : Type} → Plan → St C.Θ.T → (Ex → St C.Θ.T → Option R) → Option R
  | .skip, _, _, s, K => K .normal s
  | .region _ ops draw, _, p, s, K => joined C p K fun K => if draw && !(drawOk C ops || (drawOk2 C ops && tameOk C s ops.toList)) then none else cond draw (opsC C ops ops.toList [] s (K .normal)) (regC C ops s (K .normal))
  | .seq a b, _, p, s, K => joined C p K fun K => codeC a p.core.fst s fun e s' => match e with
    | .normal => codeC b p.core.snd s' K
    | .exit i => K (.exit i) s'
    | .ret => K .ret s'
  | .cond c a b, _, p, s, K => joined C p K fun K => match s.ev c with
    | .c (.v (.bool t)) => cond t (codeC a p.core.fst s K) (codeC b p.core.snd s K)
    | .nilq e => nilJ e (codeC a p.core.fst s K) (codeC b p.core.snd s K)
    | _ => none
  | .block id c, _, p, s, K => joined C p K fun K => codeC c p.core.sub s fun e s' => match e with
    | .normal => K .normal s'
    | .exit i => if i = id then K .normal s' else K (.exit i) s'
    | .ret => K .ret s'
  | .loop c, _, p, s, K => match p with
    | .loop h es p => match h.ext s with
      | some x => (iterL n (fun x => codeC c p (h.st x) fun e s' => match e with
        | .normal => match h.ext s' with
          | some x' => some (.inl x')
          | none => none
        | .exit i => match outOf es (.exit i) s' with
          | some y => some (.inr y)
          | none => none
        | .ret => match outOf es .ret s' with
          | some y => some (.inr y)
          | none => none) x).bind (outTo es (fun e _ s => K e s))
      | none => none
    | _ => none
  | .rangeFunc g ps assign body, _, p, s, K => match p with
    | .range y live => match s.ev g with
      | .c (.fn f caps) => match kvsAt s live with
        | some vals => ifY (C.Θ.Y y = some ⟨ps, assign, body, live, s.slots.length⟩) (match ready (flatE C.Θ) (St.cellsAt C.Θ) C.Γ s f (.yld y vals :: caps.map fun kg => .c (.box kg.1 kg.2 0)) with
          | some r => callK (flatE C.Θ) r none fun s' => if s'.slots.all notYld then K .normal s' else none
          | none => none)
        | none => none
      | _ => none
    | _ => none
  | .exit id, _, _, s, K => K (.exit id) s
  | .ret, _, _, s, K => K .ret s
  | _, _, _, _, _ => none
end

/-! ### Ranges over functions, by their places -/
def rngsOf : Code → List (Array Tmp × Code × Code)
  | .rangeFunc _ ps a b => [(ps, a, b)]
  | .seq a b => rngsOf a ++ rngsOf b
  | .cond _ a b => rngsOf a ++ rngsOf b
  | .block _ c => rngsOf c
  | .loop c => rngsOf c
  | .scope c => rngsOf c
  | _ => []
/-- The i-th range over a function of a function's code. -/
def rng (fn : Func) (i : Nat) (live : List Nat) : Rng := match fn.body with
  | none => ⟨#[], .skip, .skip, [], 0⟩
  | some c => match (rngsOf c)[i]? with
    | none => ⟨#[], .skip, .skip, [], 0⟩
    | some q => ⟨q.1, q.2.1, q.2.2, live, fn.ntmps⟩
/-! ### Tables of types -/
/-- A type, and one value of it. -/
structure Ent where
  A : Type
  d : A
def lookT : List (Nat × Ent) → Nat → Ent
  | [], _ => ⟨Unit, ()⟩
  | (k, x) :: r, e => if k = e then x else lookT r e
def lookE (l : List (Nat × Ent)) : List ((k : TypeId) × Enc (fun e => (lookT l e).A) (lookT l k).A) → (e : TypeId) → Enc (fun e => (lookT l e).A) (lookT l e).A
  | [], e => ⟨[], fun _ => (), fun _ => (lookT l e).d, fun _ => rfl, (lookT l e).d⟩
  | ⟨k, x⟩ :: r, e => if h : k = e then h ▸ x else lookE l r e

/-! ### A function -/
section
variable (C : Cx) (n : Nat)
def entry (fn : Func) (hin : Shape) (x : hin.X C.Θ.T) : St C.Θ.T :=
  ⟨(hin.st x).slots ++ List.replicate (fn.ntmps - (hin.st x).slots.length) .undef, (hin.st x).boxes, (hin.st x).rows⟩
def resultAV (s : St C.Θ.T) : ResultVar → AV C.Θ.T
  | .tmp t => s.at_ t
  | .cell a t => match vLoad C.P C.Θ s t (s.at_ a) with
    | some (true, v) => v
    | _ => .undef
/-- May a result's cell be read? -/
def cellsOk (s : St C.Θ.T) : List ResultVar → Bool
  | [] => true
  | .tmp _ :: r => cellsOk s r
  | .cell a t :: r => (match vLoad C.P C.Θ s t (s.at_ a) with
    | some (c, _) => c
    | none => false) && cellsOk s r
/-- The frame of a round: slots of the frame that are looked at, then the parameters. -/
def roundSlots (R : Rng) (l : List (AV C.Θ.T)) : List (AV C.Θ.T) :=
  (R.ps.toList.zip (l.take R.ps.size)).foldl (fun t p => t.set p.1 p.2) ((R.live.zip (l.drop R.ps.size)).foldl (fun t p => t.set p.1 p.2) (List.replicate R.nt .undef))
/-- One round. -/
noncomputable def denY (R : Rng) (p : Plan) (hin : Shape) (outs : List (Ex × Shape)) (x : hin.X C.Θ.T) : Option (Outs C.Θ.T outs) :=
  codeC C n R.assign p.fst ⟨roundSlots C R (hin.st x).slots, (hin.st x).boxes, (hin.st x).rows⟩ fun e s => match e with
    | .normal => if s.slots.all notYld then codeC C n R.body p.snd s (fun e s => match e with
      | .normal => outOf outs .ret ⟨[.c (.v (.bool true))], s.boxes, s.rows⟩
      | _ => none) else none
    | _ => none
def handsBack (fn : Func) (outs : List (Ex × Shape)) (s : St C.Θ.T) : Option (Outs C.Θ.T outs) := if cellsOk C s fn.results.toList then outOf outs .ret ⟨fn.results.toList.map (resultAV C s), s.boxes, s.rows⟩ else none
noncomputable def denF (fn : Func) (p : Plan) (hin : Shape) (outs : List (Ex × Shape)) (x : hin.X C.Θ.T) : Option (Outs C.Θ.T outs) := match fn.body with
  | none => none
  | some c => codeC C n c p (entry C fn hin x) fun e s => match e with
    | .exit _ => none
    | .normal => handsBack C fn outs s
    | .ret => handsBack C fn outs s
end
end Go.Den
