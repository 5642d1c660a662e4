/- Chapter 7: which networks may be, by the document: what each of its functions computes. -/
import Derived.Test.YtbcejiobmeglgaaPre07
namespace Go.Proofs.Ytbcejiobmeglgaa.Fn
open Go Go.RowKit Go.Den
set_option linter.unusedVariables false
abbrev Err := Int × Int
def zHead : HeadT := (ByteArray.mk #[], 0, 0, 0, 0, 0, 0, 0, 0, 0, 0)
def zPhase : PhaseT := (ByteArray.mk #[], [], 0)
def zPed : PedT := (ByteArray.mk #[], ByteArray.mk #[], 0, 0, 0, 0)
def zFoe : FoeT := (ByteArray.mk #[], ByteArray.mk #[], 0)
def zStop : StopT := (ByteArray.mk #[], ByteArray.mk #[], ByteArray.mk #[], 0, 0, 0)
def zNode : NodeT := (ByteArray.mk #[], [], [], [], [], [], 0)
abbrev Sh {A : Type} (l : List A) : Prop := l.length ≤ 9223372036854775807
def headIx (hs : List HeadT) (k : ByteArray) : Int := idxI (fun h => strEq h.1 k) hs
def phaseIx (ph : List PhaseT) (k : ByteArray) : Int := idxI (fun h => strEq h.1 k) ph
def nodeIx (ns : List NodeT) (k : ByteArray) : Int := idxI (fun h => strEq h.1 k) ns
theorem inOf_comm (l : List ByteArray) (k : ByteArray) : inOf l k = l.any fun x => strEq x k := by
  unfold inOf
  congr 1
  funext x; exact strEq_comm k x
def inR (a lo hi : Int) : Bool := decide (lo ≤ a) && decide (a ≤ hi)
def headRange (h : HeadT) : Bool := inR h.2.1 0 1000000000 && (inR h.2.2.1 1 1000000000 && (inR h.2.2.2.1 1 1000000000 && (inR h.2.2.2.2.1 1 1000000000 && (inR h.2.2.2.2.2.1 1 10000 && (inR h.2.2.2.2.2.2.1 (-200) 200 && (inR h.2.2.2.2.2.2.2.1 0 100000 && (inR h.2.2.2.2.2.2.2.2.1 0 100000 && inR h.2.2.2.2.2.2.2.2.2.1 1 6000)))))))
def headE (hs : List HeadT) (i : Nat) : Err := if headIx hs (hs.getD i zHead).1 < i then (71, (hs.getD i zHead).2.2.2.2.2.2.2.2.2.2) else if headRange (hs.getD i zHead) then (0, 0) else (70, (hs.getD i zHead).2.2.2.2.2.2.2.2.2.2)
def headsE (hs : List HeadT) : Err := scanE hs.length (headE hs)
def phHeadE (hs : List HeadT) (ph : List PhaseT) (i : Nat) (p : PhaseT) (k : Nat) : Err :=
  if headIx hs (p.2.1.getD k (ByteArray.mk #[])) < 0 then (72, p.2.2) else if homeOf ph (p.2.1.getD k (ByteArray.mk #[])) < i ∨ inOf (p.2.1.take k) (p.2.1.getD k (ByteArray.mk #[])) = true then (71, p.2.2) else (0, 0)
def phaseE (hs : List HeadT) (ph : List PhaseT) (i : Nat) : Err :=
  if phaseIx ph (ph.getD i zPhase).1 < i then (71, (ph.getD i zPhase).2.2) else if (scanE (ph.getD i zPhase).2.1.length (phHeadE hs ph i (ph.getD i zPhase))).1 = 0 then (if (ph.getD i zPhase).2.1.length = 0 then (73, (ph.getD i zPhase).2.2) else (0, 0)) else scanE (ph.getD i zPhase).2.1.length (phHeadE hs ph i (ph.getD i zPhase))
def homeE (hs : List HeadT) (ph : List PhaseT) (i : Nat) : Err := if homeOf ph (hs.getD i zHead).1 < 0 then (73, (hs.getD i zHead).2.2.2.2.2.2.2.2.2.2) else (0, 0)
def phasesE (hs : List HeadT) (ph : List PhaseT) : Err := if (scanE ph.length (phaseE hs ph)).1 = 0 then scanE hs.length (homeE hs ph) else scanE ph.length (phaseE hs ph)
def pedRange (p : PedT) : Bool := inR p.2.2.1 1 100000 && (inR p.2.2.2.1 1 10000 && inR p.2.2.2.2.1 1 6000)
def pedE (ps : List PedT) (ph : List PhaseT) (i : Nat) : Err :=
  if (ps.take i).any (fun q => strEq q.1 (ps.getD i zPed).1) then (71, (ps.getD i zPed).2.2.2.2.2) else if phaseIx ph (ps.getD i zPed).2.1 < 0 then (72, (ps.getD i zPed).2.2.2.2.2) else if pedRange (ps.getD i zPed) then (0, 0) else (70, (ps.getD i zPed).2.2.2.2.2)
def pedsE (ps : List PedT) (ph : List PhaseT) : Err := scanE ps.length (pedE ps ph)
theorem take_getD {A : Type} (l : List A) (i k : Nat) (d : A) (h : k < i) : (l.take i).getD k d = l.getD k d := by
  simp [List.getD_eq_getElem?_getD, List.getElem?_take_of_lt h]
def foeE (hs : List HeadT) (ph : List PhaseT) (fs : List FoeT) (i : Nat) : Err :=
  if headIx hs (fs.getD i zFoe).1 < 0 ∨ headIx hs (fs.getD i zFoe).2.1 < 0 then (72, (fs.getD i zFoe).2.2) else if strEq (fs.getD i zFoe).1 (fs.getD i zFoe).2.1 = true ∨ homeOf ph (fs.getD i zFoe).1 = homeOf ph (fs.getD i zFoe).2.1 then (75, (fs.getD i zFoe).2.2) else (0, 0)
def foesE (hs : List HeadT) (ph : List PhaseT) (fs : List FoeT) : Err := scanE fs.length (foeE hs ph fs)
end Go.Proofs.Ytbcejiobmeglgaa.Fn
