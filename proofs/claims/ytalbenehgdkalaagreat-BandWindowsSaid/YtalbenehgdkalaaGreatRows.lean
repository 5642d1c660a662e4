/-
  No cell of these rows narrows 'for every input' (looked for: loops, veiled, ifaces, maps, wideKeys, modest, calm, conditions, laid).
  DERIVED. THE GIVEN ROWS OF THIS SEAT. 8 by the template 'for every input the law returns true; each argument reads behind the call as it read before'; 0 by the template 'total and deterministic' (their statements: YtalbenehgdkalaaGreatTotals.lean).
  GIVEN WITH THE SEED: the statements are not yours to turn. If you find one false, say at which input.
  Laid BY PROGRAM, IN A SANDBOX (cutbox-rows.mjs): the forced cells as the released guide's own fill.sh prints them over the translation f7dd78221e4891c4… (all of the seat's roots in one cut). By AI agents, Wed Nov 11 2026. No macro, syntax, notation, axiom, sorry.
-/
import Derived.Test.YtalbenehgdkalaaGreatChecked
import GoSem.Claim
import GoSem.ClaimJoined
import GoSem.ClaimMapViews
import Derived.JoinedTies
import Derived.KernelRfl
namespace Go.Proofs.YtalbenehgdkalaaGreat
/- THE CELL 'sum', in the pinned program and in every row, IS THE sha256 OF THE DUMP (.gsa) THAT YtalbenehgdkalaaGreatProg.lean LOADS. Nothing in Lean hashes anything: it is a label: what it is worth is what the hold of that sum in a sandbox is worth. -/
noncomputable def Tryz.pinned : Pinned := { name := "ytalbenehgdkalaagreat", sum := "f7dd78221e4891c486012f9357495727b269851a8c98fba60564adf3d2d25eea", checked := Tryz.checked }
namespace Rows
def none {H : Type} : Left H := { results := [], args := [] }

/-- 'carrefourlaw20.WalkerTrip': WHATEVER THE INPUT: true; the input reads as it did. -/
def walkerTripSpec : ChangeSpec := { name := "walkerTrip", fn := fun _ => fun
  | [d1, d2, d3] => { results := [.lit (.bool true)], args := [d1, d2, d3] }
  | _ => none }
def walkerTripRow : OpenClaim := { program := "ytalbenehgdkalaagreat", sum := "f7dd78221e4891c486012f9357495727b269851a8c98fba60564adf3d2d25eea", func := "carrefour/carrefourlaw20.WalkerTrip", spec := "walkerTrip", unfollowed := true, recurses := true, apart := false }
def WalkerTripSaid : Prop := walkerTripRow.holds Tryz.pinned (OpenSpec.ofChange walkerTripSpec)

/-- ITS FALSE NEIGHBOUR: 'it returns false'. Refute it at one input. -/
def walkerTripWrong : ChangeSpec := { name := "walkerTrip", fn := fun _ => fun
  | [d1, d2, d3] => { results := [.lit (.bool false)], args := [d1, d2, d3] }
  | _ => none }
def WalkerTripWrongFalsely : Prop := walkerTripRow.holds Tryz.pinned (OpenSpec.ofChange walkerTripWrong)

/-- 'carrefourlaw20.WalkerPlatoon': WHATEVER THE INPUT: true; the input reads as it did. -/
def walkerPlatoonSpec : ChangeSpec := { name := "walkerPlatoon", fn := fun _ => fun
  | [d1, d2, d3] => { results := [.lit (.bool true)], args := [d1, d2, d3] }
  | _ => none }
def walkerPlatoonRow : OpenClaim := { program := "ytalbenehgdkalaagreat", sum := "f7dd78221e4891c486012f9357495727b269851a8c98fba60564adf3d2d25eea", func := "carrefour/carrefourlaw20.WalkerPlatoon", spec := "walkerPlatoon", unfollowed := true, recurses := true, apart := false }
def WalkerPlatoonSaid : Prop := walkerPlatoonRow.holds Tryz.pinned (OpenSpec.ofChange walkerPlatoonSpec)

/-- ITS FALSE NEIGHBOUR: 'it returns false'. Refute it at one input. -/
def walkerPlatoonWrong : ChangeSpec := { name := "walkerPlatoon", fn := fun _ => fun
  | [d1, d2, d3] => { results := [.lit (.bool false)], args := [d1, d2, d3] }
  | _ => none }
def WalkerPlatoonWrongFalsely : Prop := walkerPlatoonRow.holds Tryz.pinned (OpenSpec.ofChange walkerPlatoonWrong)

/-- 'carrefourlaw20.WalkerCycle': WHATEVER THE INPUT: true; the input reads as it did. -/
def walkerCycleSpec : ChangeSpec := { name := "walkerCycle", fn := fun _ => fun
  | [d1, d2, d3] => { results := [.lit (.bool true)], args := [d1, d2, d3] }
  | _ => none }
def walkerCycleRow : OpenClaim := { program := "ytalbenehgdkalaagreat", sum := "f7dd78221e4891c486012f9357495727b269851a8c98fba60564adf3d2d25eea", func := "carrefour/carrefourlaw20.WalkerCycle", spec := "walkerCycle", unfollowed := true, recurses := true, apart := false }
def WalkerCycleSaid : Prop := walkerCycleRow.holds Tryz.pinned (OpenSpec.ofChange walkerCycleSpec)

/-- ITS FALSE NEIGHBOUR: 'it returns false'. Refute it at one input. -/
def walkerCycleWrong : ChangeSpec := { name := "walkerCycle", fn := fun _ => fun
  | [d1, d2, d3] => { results := [.lit (.bool false)], args := [d1, d2, d3] }
  | _ => none }
def WalkerCycleWrongFalsely : Prop := walkerCycleRow.holds Tryz.pinned (OpenSpec.ofChange walkerCycleWrong)

/-- 'carrefourlaw20.WalkerFree': WHATEVER THE INPUT: true; the input reads as it did. -/
def walkerFreeSpec : ChangeSpec := { name := "walkerFree", fn := fun _ => fun
  | [d1, d2, d3] => { results := [.lit (.bool true)], args := [d1, d2, d3] }
  | _ => none }
def walkerFreeRow : OpenClaim := { program := "ytalbenehgdkalaagreat", sum := "f7dd78221e4891c486012f9357495727b269851a8c98fba60564adf3d2d25eea", func := "carrefour/carrefourlaw20.WalkerFree", spec := "walkerFree", unfollowed := true, recurses := true, apart := false }
def WalkerFreeSaid : Prop := walkerFreeRow.holds Tryz.pinned (OpenSpec.ofChange walkerFreeSpec)

/-- ITS FALSE NEIGHBOUR: 'it returns false'. Refute it at one input. -/
def walkerFreeWrong : ChangeSpec := { name := "walkerFree", fn := fun _ => fun
  | [d1, d2, d3] => { results := [.lit (.bool false)], args := [d1, d2, d3] }
  | _ => none }
def WalkerFreeWrongFalsely : Prop := walkerFreeRow.holds Tryz.pinned (OpenSpec.ofChange walkerFreeWrong)

/-- 'carrefourlaw21.BandWindows': WHATEVER THE INPUT: true; the input reads as it did. -/
def bandWindowsSpec : ChangeSpec := { name := "bandWindows", fn := fun _ => fun
  | [d1, d2] => { results := [.lit (.bool true)], args := [d1, d2] }
  | _ => none }
def bandWindowsRow : OpenClaim := { program := "ytalbenehgdkalaagreat", sum := "f7dd78221e4891c486012f9357495727b269851a8c98fba60564adf3d2d25eea", func := "carrefour/carrefourlaw21.BandWindows", spec := "bandWindows", unfollowed := true, recurses := true, apart := false }
def BandWindowsSaid : Prop := bandWindowsRow.holds Tryz.pinned (OpenSpec.ofChange bandWindowsSpec)

/-- ITS FALSE NEIGHBOUR: 'it returns false'. Refute it at one input. -/
def bandWindowsWrong : ChangeSpec := { name := "bandWindows", fn := fun _ => fun
  | [d1, d2] => { results := [.lit (.bool false)], args := [d1, d2] }
  | _ => none }
def BandWindowsWrongFalsely : Prop := bandWindowsRow.holds Tryz.pinned (OpenSpec.ofChange bandWindowsWrong)

/-- 'carrefourlaw21.BandHolds': WHATEVER THE INPUT: true; the input reads as it did. -/
def bandHoldsSpec : ChangeSpec := { name := "bandHolds", fn := fun _ => fun
  | [d1, d2, d3] => { results := [.lit (.bool true)], args := [d1, d2, d3] }
  | _ => none }
def bandHoldsRow : OpenClaim := { program := "ytalbenehgdkalaagreat", sum := "f7dd78221e4891c486012f9357495727b269851a8c98fba60564adf3d2d25eea", func := "carrefour/carrefourlaw21.BandHolds", spec := "bandHolds", unfollowed := true, recurses := true, apart := false }
def BandHoldsSaid : Prop := bandHoldsRow.holds Tryz.pinned (OpenSpec.ofChange bandHoldsSpec)

/-- ITS FALSE NEIGHBOUR: 'it returns false'. Refute it at one input. -/
def bandHoldsWrong : ChangeSpec := { name := "bandHolds", fn := fun _ => fun
  | [d1, d2, d3] => { results := [.lit (.bool false)], args := [d1, d2, d3] }
  | _ => none }
def BandHoldsWrongFalsely : Prop := bandHoldsRow.holds Tryz.pinned (OpenSpec.ofChange bandHoldsWrong)

/-- 'carrefourlaw21.BandWidest': WHATEVER THE INPUT: true; the input reads as it did. -/
def bandWidestSpec : ChangeSpec := { name := "bandWidest", fn := fun _ => fun
  | [d1, d2, d3] => { results := [.lit (.bool true)], args := [d1, d2, d3] }
  | _ => none }
def bandWidestRow : OpenClaim := { program := "ytalbenehgdkalaagreat", sum := "f7dd78221e4891c486012f9357495727b269851a8c98fba60564adf3d2d25eea", func := "carrefour/carrefourlaw21.BandWidest", spec := "bandWidest", unfollowed := true, recurses := true, apart := false }
def BandWidestSaid : Prop := bandWidestRow.holds Tryz.pinned (OpenSpec.ofChange bandWidestSpec)

/-- ITS FALSE NEIGHBOUR: 'it returns false'. Refute it at one input. -/
def bandWidestWrong : ChangeSpec := { name := "bandWidest", fn := fun _ => fun
  | [d1, d2, d3] => { results := [.lit (.bool false)], args := [d1, d2, d3] }
  | _ => none }
def BandWidestWrongFalsely : Prop := bandWidestRow.holds Tryz.pinned (OpenSpec.ofChange bandWidestWrong)

/-- 'carrefourlaw21.BandTrips': WHATEVER THE INPUT: true; the input reads as it did. -/
def bandTripsSpec : ChangeSpec := { name := "bandTrips", fn := fun _ => fun
  | [d1, d2, d3] => { results := [.lit (.bool true)], args := [d1, d2, d3] }
  | _ => none }
def bandTripsRow : OpenClaim := { program := "ytalbenehgdkalaagreat", sum := "f7dd78221e4891c486012f9357495727b269851a8c98fba60564adf3d2d25eea", func := "carrefour/carrefourlaw21.BandTrips", spec := "bandTrips", unfollowed := true, recurses := true, apart := false }
def BandTripsSaid : Prop := bandTripsRow.holds Tryz.pinned (OpenSpec.ofChange bandTripsSpec)

/-- ITS FALSE NEIGHBOUR: 'it returns false'. Refute it at one input. -/
def bandTripsWrong : ChangeSpec := { name := "bandTrips", fn := fun _ => fun
  | [d1, d2, d3] => { results := [.lit (.bool false)], args := [d1, d2, d3] }
  | _ => none }
def BandTripsWrongFalsely : Prop := bandTripsRow.holds Tryz.pinned (OpenSpec.ofChange bandTripsWrong)

/- THE SECOND FORM. 'bulk': how many values and letters a reading holds, each counted each time it is reached (what is shared counts as often as it is met; a slice's spare places count too). A statement '..UptoSaid' is the law's where the arguments, and the package variables that the reading takes, are together of bulk at most 1048576: NARROWER than '..Said'. Prove '..Said' where nothing that the law and all that it calls make is longer than what came in: it says more and counts as full. Else prove '..UptoSaid'. A law counts once. -/
mutual
def uptoBulk {H : Type} : DataW H → Nat
  | .lit (.string bytes) => bytes.length + 1
  | .lit _ => 1
  | .nil => 1
  | .ptr d => uptoBulk d + 1
  | .slice elems spare => uptoBulkAll elems + uptoBulkAll spare + 1
  | .agg parts => uptoBulkAll parts + 1
  | .iface _ d => uptoBulk d + 1
  | .map entries => uptoBulkEntries entries + 1
  | .held _ => 1
def uptoBulkAll {H : Type} : List (DataW H) → Nat
  | [] => 0
  | d :: r => uptoBulk d + uptoBulkAll r
def uptoBulkEntries {H : Type} : List (Lit × DataW H) → Nat
  | [] => 0
  | x :: r => uptoBulkEntry x + uptoBulkEntries r
def uptoBulkEntry {H : Type} : Lit × DataW H → Nat
  | (.string bytes, d) => bytes.length + uptoBulk d + 1
  | (_, d) => uptoBulk d + 1
 end
def uptoSmall : (H : Type) → List (DataW H) → Bool := fun _ ds => decide (uptoBulkAll ds ≤ 1048576)
def OpenSpec.upto (s : _root_.Go.ChangeSpec) : _root_.Go.OpenSpec := { _root_.Go.OpenSpec.ofChange s with cond := some uptoSmall }

/-- 'carrefourlaw20.WalkerTrip', WHERE WHAT IT READS IS OF BULK AT MOST 1048576: true; the input reads as it did. -/
def walkerTripUptoRow : OpenClaim := { program := "ytalbenehgdkalaagreat", sum := "f7dd78221e4891c486012f9357495727b269851a8c98fba60564adf3d2d25eea", func := "carrefour/carrefourlaw20.WalkerTrip", spec := "walkerTrip", unfollowed := true, recurses := true, apart := false, narrowed := true }
def WalkerTripUptoSaid : Prop := walkerTripUptoRow.holds Tryz.pinned (OpenSpec.upto walkerTripSpec)

/-- 'carrefourlaw20.WalkerPlatoon', WHERE WHAT IT READS IS OF BULK AT MOST 1048576: true; the input reads as it did. -/
def walkerPlatoonUptoRow : OpenClaim := { program := "ytalbenehgdkalaagreat", sum := "f7dd78221e4891c486012f9357495727b269851a8c98fba60564adf3d2d25eea", func := "carrefour/carrefourlaw20.WalkerPlatoon", spec := "walkerPlatoon", unfollowed := true, recurses := true, apart := false, narrowed := true }
def WalkerPlatoonUptoSaid : Prop := walkerPlatoonUptoRow.holds Tryz.pinned (OpenSpec.upto walkerPlatoonSpec)

/-- 'carrefourlaw20.WalkerCycle', WHERE WHAT IT READS IS OF BULK AT MOST 1048576: true; the input reads as it did. -/
def walkerCycleUptoRow : OpenClaim := { program := "ytalbenehgdkalaagreat", sum := "f7dd78221e4891c486012f9357495727b269851a8c98fba60564adf3d2d25eea", func := "carrefour/carrefourlaw20.WalkerCycle", spec := "walkerCycle", unfollowed := true, recurses := true, apart := false, narrowed := true }
def WalkerCycleUptoSaid : Prop := walkerCycleUptoRow.holds Tryz.pinned (OpenSpec.upto walkerCycleSpec)

/-- 'carrefourlaw20.WalkerFree', WHERE WHAT IT READS IS OF BULK AT MOST 1048576: true; the input reads as it did. -/
def walkerFreeUptoRow : OpenClaim := { program := "ytalbenehgdkalaagreat", sum := "f7dd78221e4891c486012f9357495727b269851a8c98fba60564adf3d2d25eea", func := "carrefour/carrefourlaw20.WalkerFree", spec := "walkerFree", unfollowed := true, recurses := true, apart := false, narrowed := true }
def WalkerFreeUptoSaid : Prop := walkerFreeUptoRow.holds Tryz.pinned (OpenSpec.upto walkerFreeSpec)

/-- 'carrefourlaw21.BandWindows', WHERE WHAT IT READS IS OF BULK AT MOST 1048576: true; the input reads as it did. -/
def bandWindowsUptoRow : OpenClaim := { program := "ytalbenehgdkalaagreat", sum := "f7dd78221e4891c486012f9357495727b269851a8c98fba60564adf3d2d25eea", func := "carrefour/carrefourlaw21.BandWindows", spec := "bandWindows", unfollowed := true, recurses := true, apart := false, narrowed := true }
def BandWindowsUptoSaid : Prop := bandWindowsUptoRow.holds Tryz.pinned (OpenSpec.upto bandWindowsSpec)

/-- 'carrefourlaw21.BandHolds', WHERE WHAT IT READS IS OF BULK AT MOST 1048576: true; the input reads as it did. -/
def bandHoldsUptoRow : OpenClaim := { program := "ytalbenehgdkalaagreat", sum := "f7dd78221e4891c486012f9357495727b269851a8c98fba60564adf3d2d25eea", func := "carrefour/carrefourlaw21.BandHolds", spec := "bandHolds", unfollowed := true, recurses := true, apart := false, narrowed := true }
def BandHoldsUptoSaid : Prop := bandHoldsUptoRow.holds Tryz.pinned (OpenSpec.upto bandHoldsSpec)

/-- 'carrefourlaw21.BandWidest', WHERE WHAT IT READS IS OF BULK AT MOST 1048576: true; the input reads as it did. -/
def bandWidestUptoRow : OpenClaim := { program := "ytalbenehgdkalaagreat", sum := "f7dd78221e4891c486012f9357495727b269851a8c98fba60564adf3d2d25eea", func := "carrefour/carrefourlaw21.BandWidest", spec := "bandWidest", unfollowed := true, recurses := true, apart := false, narrowed := true }
def BandWidestUptoSaid : Prop := bandWidestUptoRow.holds Tryz.pinned (OpenSpec.upto bandWidestSpec)

/-- 'carrefourlaw21.BandTrips', WHERE WHAT IT READS IS OF BULK AT MOST 1048576: true; the input reads as it did. -/
def bandTripsUptoRow : OpenClaim := { program := "ytalbenehgdkalaagreat", sum := "f7dd78221e4891c486012f9357495727b269851a8c98fba60564adf3d2d25eea", func := "carrefour/carrefourlaw21.BandTrips", spec := "bandTrips", unfollowed := true, recurses := true, apart := false, narrowed := true }
def BandTripsUptoSaid : Prop := bandTripsUptoRow.holds Tryz.pinned (OpenSpec.upto bandTripsSpec)

end Rows
end Go.Proofs.YtalbenehgdkalaaGreat
