/- Chapter 7: which networks may be, by the document: rings, nodes, stops, networks. -/
import Derived.Test.YtbcejiobmeglgaaValid
namespace Go.Proofs.Ytbcejiobmeglgaa.Fn
open Go Go.RowKit Go.Den
set_option linter.unusedVariables false
def namesG (g : List RowT) : List ByteArray := g.flatMap (·.2)
def allNames (gs : List (List RowT)) : List ByteArray := gs.flatMap namesG
def nameE (ph : List PhaseT) (pos : Int) (seen : List ByteArray) (s : ByteArray) : Err := if phaseIx ph s < 0 then (72, pos) else if inOf seen s = true then (71, pos) else (0, 0)
def lineE (ph : List PhaseT) (pos : Int) (seen names : List ByteArray) : Err := scanE names.length fun m => nameE ph pos (seen ++ names.take m) (names.getD m (ByteArray.mk #[]))
def ringE (ph : List PhaseT) (pos : Int) (seen : List ByteArray) (r : RowT) : Err := if r.2.length < 1 ∨ 4 < r.2.length then (74, pos) else lineE ph pos seen r.2
def groupE (ph : List PhaseT) (pos : Int) (seen : List ByteArray) (g : List RowT) : Err := if g.length < 1 ∨ 2 < g.length then (74, pos) else scanE g.length fun k => ringE ph pos (seen ++ namesG (g.take k)) (g.getD k zRow)
def groupsE (ph : List PhaseT) (pos : Int) (gs : List (List RowT)) : Err := scanE gs.length fun i => groupE ph pos (allNames (gs.take i)) (gs.getD i [])
def seenE (ph : List PhaseT) (names : List ByteArray) : Err := scanE ph.length fun i => if inOf names (ph.getD i zPhase).1 = true then (0, 0) else (74, (ph.getD i zPhase).2.2)
def ringsE (ph : List PhaseT) (pos : Int) (gs : List (List RowT)) : Err := if (groupsE ph pos gs).1 = 0 then seenE ph (allNames gs) else groupsE ph pos gs
theorem namesG_snoc (g : List RowT) (k : Nat) (h : k < g.length) : namesG (g.take (k + 1)) = namesG (g.take k) ++ (g.getD k zRow).2 := by
  rw [take_snoc g k zRow h]; simp [namesG, List.flatMap_append]
theorem allNames_snoc (gs : List (List RowT)) (k : Nat) (h : k < gs.length) : allNames (gs.take (k + 1)) = allNames (gs.take k) ++ namesG (gs.getD k []) := by
  rw [take_snoc gs k [] h]; simp [allNames, List.flatMap_append]
def thenE (a b : Err) : Err := if a.1 = 0 then b else a
def sizesOk (x : NodeT) : Bool := !(decide (16 < x.2.1.length) || (decide (16 < x.2.2.2.1.length) || (decide (8 < x.2.2.1.length) || (decide (4 < x.2.2.2.2.1.length) || decide (64 < x.2.2.2.2.2.1.length)))))
def someOk (x : NodeT) : Bool := !(decide (x.2.1.length = 0) || (decide (x.2.2.2.1.length = 0) || decide (x.2.2.2.2.1.length = 0)))
def nodeE (x : NodeT) : Err :=
  if sizesOk x then (if someOk x then thenE (thenE (thenE (thenE (headsE x.2.1) (phasesE x.2.1 x.2.2.2.1)) (pedsE x.2.2.1 x.2.2.2.1)) (ringsE x.2.2.2.1 x.2.2.2.2.2.2 x.2.2.2.2.1)) (foesE x.2.1 x.2.2.2.1 x.2.2.2.2.2.1) else (73, x.2.2.2.2.2.2)) else (4, x.2.2.2.2.2.2)
theorem nat_lt_int (k n : Nat) : decide ((k : Int) < ((n : Nat) : Int)) = decide (k < n) := by
  by_cases h : k < n
  · rw [decide_eq_true h]; simp [h]
  · rw [decide_eq_false h]; simp; omega
def stopRest (hs : List HeadT) (s : StopT) (i : Nat) : Err :=
  if headIx hs s.2.1 < 0 ∨ headIx hs s.2.2.1 < 0 then (72, s.2.2.2.2.2)
  else if (inR s.2.2.2.1 0 6000 && inR s.2.2.2.2.1 0 6000) = false then (70, s.2.2.2.2.2)
  else if i = 0 ∧ (s.2.2.2.1 ≠ 0 ∨ s.2.2.2.2.1 ≠ 0) then (76, s.2.2.2.2.2) else (0, 0)
def stopE (ns : List NodeT) (ss : List StopT) (i : Nat) : Err :=
  if nodeIx ns (ss.getD i zStop).1 < 0 then (72, (ss.getD i zStop).2.2.2.2.2) else if (ss.take i).any (fun q => strEq q.1 (ss.getD i zStop).1) = true then (71, (ss.getD i zStop).2.2.2.2.2)
  else stopRest (ns.getD (nodeIx ns (ss.getD i zStop).1).toNat zNode).2.1 (ss.getD i zStop) i
def stopsE (ns : List NodeT) (ss : List StopT) : Err := scanE ss.length (stopE ns ss)
def oneNodeE (ns : List NodeT) (i : Nat) : Err := if nodeIx ns (ns.getD i zNode).1 < i then (71, (ns.getD i zNode).2.2.2.2.2.2) else nodeE (ns.getD i zNode)
def netRange (x : NetT) : Bool := !(decide (x.1 < 1) || (decide (x.2.1 < x.1) || (decide (6000 < x.2.1) || decide (x.2.2.1 < 1)))) && (inR x.2.2.2.1 1 1000000000 && (inR x.2.2.2.2.1 1 1000000000 && (inR x.2.2.2.2.2.2.2.1 0 1000000000 && inR x.2.2.2.2.2.2.2.2 0 1000000000)))
def netE (x : NetT) : Err :=
  if 12 < x.2.2.2.2.2.1.length ∨ 12 < x.2.2.2.2.2.2.1.length then (4, 0) else if netRange x then (if x.2.2.2.2.2.1.length = 0 then (73, 0) else if (scanE x.2.2.2.2.2.1.length (oneNodeE x.2.2.2.2.2.1)).1 = 0 then stopsE x.2.2.2.2.2.1 x.2.2.2.2.2.2.1 else scanE x.2.2.2.2.2.1.length (oneNodeE x.2.2.2.2.2.1)) else (70, 0)
structure NetSh (x : NetT) : Prop where
  heads : ∀ y ∈ x.2.2.2.2.2.1, Sh y.2.1
  phase : ∀ y ∈ x.2.2.2.2.2.1, ∀ p ∈ y.2.2.2.1, Sh p.2.1
end Go.Proofs.Ytbcejiobmeglgaa.Fn
