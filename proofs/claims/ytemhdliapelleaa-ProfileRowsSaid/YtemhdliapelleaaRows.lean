/-
  No cell of these rows narrows 'for every input' (looked for: loops, veiled, ifaces, maps, wideKeys, modest, calm, conditions, laid).
  DERIVED. THE GIVEN ROWS OF THIS SEAT. 11 by the template 'for every input the law returns true; each argument reads behind the call as it read before'; 0 by the template 'total and deterministic' (their statements: YtemhdliapelleaaTotals.lean).
  GIVEN WITH THE SEED: the statements are not yours to turn. If you find one false, say at which input.
  Laid BY PROGRAM, IN A SANDBOX (cutbox-rows.mjs): the forced cells as the released guide's own fill.sh prints them over the translation 84232658d0de8061… (all of the seat's roots in one cut). By AI agents, Wed Nov 11 2026. No macro, syntax, notation, axiom, sorry.
-/
import Derived.Test.YtemhdliapelleaaChecked
import GoSem.Claim
import GoSem.ClaimJoined
import GoSem.ClaimMapViews
import Derived.JoinedTies
import Derived.KernelRfl
namespace Go.Proofs.Ytemhdliapelleaa
/- THE CELL 'sum', in the pinned program and in every row, IS THE sha256 OF THE DUMP (.gsa) THAT YtemhdliapelleaaProg.lean LOADS. Nothing in Lean hashes anything: it is a label: what it is worth is what the hold of that sum in a sandbox is worth. -/
noncomputable def Try.pinned : Pinned := { name := "ytemhdliapelleaa", sum := "84232658d0de8061c4ea887f54bef41067571bc629722be99f0221f13a455171", checked := Try.checked }
namespace Rows
def none {H : Type} : Left H := { results := [], args := [] }

/-- 'carrefourlaw03.CircleArcs': WHATEVER THE INPUT: true; the input reads as it did. -/
def circleArcsSpec : ChangeSpec := { name := "circleArcs", fn := fun _ => fun
  | [d1, d2, d3] => { results := [.lit (.bool true)], args := [d1, d2, d3] }
  | _ => none }
def circleArcsRow : OpenClaim := { program := "ytemhdliapelleaa", sum := "84232658d0de8061c4ea887f54bef41067571bc629722be99f0221f13a455171", func := "carrefour/carrefourlaw03.CircleArcs", spec := "circleArcs", unfollowed := true, recurses := true, apart := false }
def CircleArcsSaid : Prop := circleArcsRow.holds Try.pinned (OpenSpec.ofChange circleArcsSpec)

/-- ITS FALSE NEIGHBOUR: 'it returns false'. Refute it at one input. -/
def circleArcsWrong : ChangeSpec := { name := "circleArcs", fn := fun _ => fun
  | [d1, d2, d3] => { results := [.lit (.bool false)], args := [d1, d2, d3] }
  | _ => none }
def CircleArcsWrongFalsely : Prop := circleArcsRow.holds Try.pinned (OpenSpec.ofChange circleArcsWrong)

/-- 'carrefourlaw03.CircleForm': WHATEVER THE INPUT: true; the input reads as it did. -/
def circleFormSpec : ChangeSpec := { name := "circleForm", fn := fun _ => fun
  | [d1, d2, d3] => { results := [.lit (.bool true)], args := [d1, d2, d3] }
  | _ => none }
def circleFormRow : OpenClaim := { program := "ytemhdliapelleaa", sum := "84232658d0de8061c4ea887f54bef41067571bc629722be99f0221f13a455171", func := "carrefour/carrefourlaw03.CircleForm", spec := "circleForm", unfollowed := true, recurses := true, apart := false }
def CircleFormSaid : Prop := circleFormRow.holds Try.pinned (OpenSpec.ofChange circleFormSpec)

/-- ITS FALSE NEIGHBOUR: 'it returns false'. Refute it at one input. -/
def circleFormWrong : ChangeSpec := { name := "circleForm", fn := fun _ => fun
  | [d1, d2, d3] => { results := [.lit (.bool false)], args := [d1, d2, d3] }
  | _ => none }
def CircleFormWrongFalsely : Prop := circleFormRow.holds Try.pinned (OpenSpec.ofChange circleFormWrong)

/-- 'carrefourlaw03.CircleTurns': WHATEVER THE INPUT: true; the input reads as it did. -/
def circleTurnsSpec : ChangeSpec := { name := "circleTurns", fn := fun _ => fun
  | [d1, d2, d3] => { results := [.lit (.bool true)], args := [d1, d2, d3] }
  | _ => none }
def circleTurnsRow : OpenClaim := { program := "ytemhdliapelleaa", sum := "84232658d0de8061c4ea887f54bef41067571bc629722be99f0221f13a455171", func := "carrefour/carrefourlaw03.CircleTurns", spec := "circleTurns", unfollowed := true, recurses := true, apart := false }
def CircleTurnsSaid : Prop := circleTurnsRow.holds Try.pinned (OpenSpec.ofChange circleTurnsSpec)

/-- ITS FALSE NEIGHBOUR: 'it returns false'. Refute it at one input. -/
def circleTurnsWrong : ChangeSpec := { name := "circleTurns", fn := fun _ => fun
  | [d1, d2, d3] => { results := [.lit (.bool false)], args := [d1, d2, d3] }
  | _ => none }
def CircleTurnsWrongFalsely : Prop := circleTurnsRow.holds Try.pinned (OpenSpec.ofChange circleTurnsWrong)

/-- 'carrefourlaw03.CircleWidest': WHATEVER THE INPUT: true; the input reads as it did. -/
def circleWidestSpec : ChangeSpec := { name := "circleWidest", fn := fun _ => fun
  | [d1, d2, d3] => { results := [.lit (.bool true)], args := [d1, d2, d3] }
  | _ => none }
def circleWidestRow : OpenClaim := { program := "ytemhdliapelleaa", sum := "84232658d0de8061c4ea887f54bef41067571bc629722be99f0221f13a455171", func := "carrefour/carrefourlaw03.CircleWidest", spec := "circleWidest", unfollowed := true, recurses := true, apart := false }
def CircleWidestSaid : Prop := circleWidestRow.holds Try.pinned (OpenSpec.ofChange circleWidestSpec)

/-- ITS FALSE NEIGHBOUR: 'it returns false'. Refute it at one input. -/
def circleWidestWrong : ChangeSpec := { name := "circleWidest", fn := fun _ => fun
  | [d1, d2, d3] => { results := [.lit (.bool false)], args := [d1, d2, d3] }
  | _ => none }
def CircleWidestWrongFalsely : Prop := circleWidestRow.holds Try.pinned (OpenSpec.ofChange circleWidestWrong)

/-- 'carrefourlaw03.CircleMeets': WHATEVER THE INPUT: true; the input reads as it did. -/
def circleMeetsSpec : ChangeSpec := { name := "circleMeets", fn := fun _ => fun
  | [d1, d2, d3] => { results := [.lit (.bool true)], args := [d1, d2, d3] }
  | _ => none }
def circleMeetsRow : OpenClaim := { program := "ytemhdliapelleaa", sum := "84232658d0de8061c4ea887f54bef41067571bc629722be99f0221f13a455171", func := "carrefour/carrefourlaw03.CircleMeets", spec := "circleMeets", unfollowed := true, recurses := true, apart := false }
def CircleMeetsSaid : Prop := circleMeetsRow.holds Try.pinned (OpenSpec.ofChange circleMeetsSpec)

/-- ITS FALSE NEIGHBOUR: 'it returns false'. Refute it at one input. -/
def circleMeetsWrong : ChangeSpec := { name := "circleMeets", fn := fun _ => fun
  | [d1, d2, d3] => { results := [.lit (.bool false)], args := [d1, d2, d3] }
  | _ => none }
def CircleMeetsWrongFalsely : Prop := circleMeetsRow.holds Try.pinned (OpenSpec.ofChange circleMeetsWrong)

/-- 'carrefourlaw03.CircleSets': WHATEVER THE INPUT: true; the input reads as it did. -/
def circleSetsSpec : ChangeSpec := { name := "circleSets", fn := fun _ => fun
  | [d1, d2] => { results := [.lit (.bool true)], args := [d1, d2] }
  | _ => none }
def circleSetsRow : OpenClaim := { program := "ytemhdliapelleaa", sum := "84232658d0de8061c4ea887f54bef41067571bc629722be99f0221f13a455171", func := "carrefour/carrefourlaw03.CircleSets", spec := "circleSets", unfollowed := true, recurses := true, apart := false }
def CircleSetsSaid : Prop := circleSetsRow.holds Try.pinned (OpenSpec.ofChange circleSetsSpec)

/-- ITS FALSE NEIGHBOUR: 'it returns false'. Refute it at one input. -/
def circleSetsWrong : ChangeSpec := { name := "circleSets", fn := fun _ => fun
  | [d1, d2] => { results := [.lit (.bool false)], args := [d1, d2] }
  | _ => none }
def CircleSetsWrongFalsely : Prop := circleSetsRow.holds Try.pinned (OpenSpec.ofChange circleSetsWrong)

/-- 'carrefourlaw03.CircleRests': WHATEVER THE INPUT: true; the input reads as it did. -/
def circleRestsSpec : ChangeSpec := { name := "circleRests", fn := fun _ => fun
  | [d1, d2, d3] => { results := [.lit (.bool true)], args := [d1, d2, d3] }
  | _ => none }
def circleRestsRow : OpenClaim := { program := "ytemhdliapelleaa", sum := "84232658d0de8061c4ea887f54bef41067571bc629722be99f0221f13a455171", func := "carrefour/carrefourlaw03.CircleRests", spec := "circleRests", unfollowed := true, recurses := true, apart := false }
def CircleRestsSaid : Prop := circleRestsRow.holds Try.pinned (OpenSpec.ofChange circleRestsSpec)

/-- ITS FALSE NEIGHBOUR: 'it returns false'. Refute it at one input. -/
def circleRestsWrong : ChangeSpec := { name := "circleRests", fn := fun _ => fun
  | [d1, d2, d3] => { results := [.lit (.bool false)], args := [d1, d2, d3] }
  | _ => none }
def CircleRestsWrongFalsely : Prop := circleRestsRow.holds Try.pinned (OpenSpec.ofChange circleRestsWrong)

/-- 'carrefourlaw34.ProfilePass': WHATEVER THE INPUT: true; the input reads as it did. -/
def profilePassSpec : ChangeSpec := { name := "profilePass", fn := fun _ => fun
  | [d1, d2, d3] => { results := [.lit (.bool true)], args := [d1, d2, d3] }
  | _ => none }
def profilePassRow : OpenClaim := { program := "ytemhdliapelleaa", sum := "84232658d0de8061c4ea887f54bef41067571bc629722be99f0221f13a455171", func := "carrefour/carrefourlaw34.ProfilePass", spec := "profilePass", unfollowed := true, recurses := true, apart := false }
def ProfilePassSaid : Prop := profilePassRow.holds Try.pinned (OpenSpec.ofChange profilePassSpec)

/-- ITS FALSE NEIGHBOUR: 'it returns false'. Refute it at one input. -/
def profilePassWrong : ChangeSpec := { name := "profilePass", fn := fun _ => fun
  | [d1, d2, d3] => { results := [.lit (.bool false)], args := [d1, d2, d3] }
  | _ => none }
def ProfilePassWrongFalsely : Prop := profilePassRow.holds Try.pinned (OpenSpec.ofChange profilePassWrong)

/-- 'carrefourlaw34.ProfileKeeps': WHATEVER THE INPUT: true; the input reads as it did. -/
def profileKeepsSpec : ChangeSpec := { name := "profileKeeps", fn := fun _ => fun
  | [d1, d2, d3] => { results := [.lit (.bool true)], args := [d1, d2, d3] }
  | _ => none }
def profileKeepsRow : OpenClaim := { program := "ytemhdliapelleaa", sum := "84232658d0de8061c4ea887f54bef41067571bc629722be99f0221f13a455171", func := "carrefour/carrefourlaw34.ProfileKeeps", spec := "profileKeeps", unfollowed := true, recurses := true, apart := false }
def ProfileKeepsSaid : Prop := profileKeepsRow.holds Try.pinned (OpenSpec.ofChange profileKeepsSpec)

/-- ITS FALSE NEIGHBOUR: 'it returns false'. Refute it at one input. -/
def profileKeepsWrong : ChangeSpec := { name := "profileKeeps", fn := fun _ => fun
  | [d1, d2, d3] => { results := [.lit (.bool false)], args := [d1, d2, d3] }
  | _ => none }
def ProfileKeepsWrongFalsely : Prop := profileKeepsRow.holds Try.pinned (OpenSpec.ofChange profileKeepsWrong)

/-- 'carrefourlaw34.ProfileTurn': WHATEVER THE INPUT: true; the input reads as it did. -/
def profileTurnSpec : ChangeSpec := { name := "profileTurn", fn := fun _ => fun
  | [d1, d2, d3] => { results := [.lit (.bool true)], args := [d1, d2, d3] }
  | _ => none }
def profileTurnRow : OpenClaim := { program := "ytemhdliapelleaa", sum := "84232658d0de8061c4ea887f54bef41067571bc629722be99f0221f13a455171", func := "carrefour/carrefourlaw34.ProfileTurn", spec := "profileTurn", unfollowed := true, recurses := true, apart := false }
def ProfileTurnSaid : Prop := profileTurnRow.holds Try.pinned (OpenSpec.ofChange profileTurnSpec)

/-- ITS FALSE NEIGHBOUR: 'it returns false'. Refute it at one input. -/
def profileTurnWrong : ChangeSpec := { name := "profileTurn", fn := fun _ => fun
  | [d1, d2, d3] => { results := [.lit (.bool false)], args := [d1, d2, d3] }
  | _ => none }
def ProfileTurnWrongFalsely : Prop := profileTurnRow.holds Try.pinned (OpenSpec.ofChange profileTurnWrong)

/-- 'carrefourlaw34.ProfileRows': WHATEVER THE INPUT: true; the input reads as it did. -/
def profileRowsSpec : ChangeSpec := { name := "profileRows", fn := fun _ => fun
  | [d1, d2, d3] => { results := [.lit (.bool true)], args := [d1, d2, d3] }
  | _ => none }
def profileRowsRow : OpenClaim := { program := "ytemhdliapelleaa", sum := "84232658d0de8061c4ea887f54bef41067571bc629722be99f0221f13a455171", func := "carrefour/carrefourlaw34.ProfileRows", spec := "profileRows", unfollowed := true, recurses := true, apart := false }
def ProfileRowsSaid : Prop := profileRowsRow.holds Try.pinned (OpenSpec.ofChange profileRowsSpec)

/-- ITS FALSE NEIGHBOUR: 'it returns false'. Refute it at one input. -/
def profileRowsWrong : ChangeSpec := { name := "profileRows", fn := fun _ => fun
  | [d1, d2, d3] => { results := [.lit (.bool false)], args := [d1, d2, d3] }
  | _ => none }
def ProfileRowsWrongFalsely : Prop := profileRowsRow.holds Try.pinned (OpenSpec.ofChange profileRowsWrong)

/- THE SECOND FORM. 'bulk': how many values and letters a reading holds, each counted each time it is reached (what is shared counts as often as it is met; a slice's spare places count too). A statement '..UptoSaid' is the law's where the arguments, and the package variables that the reading takes, are together of bulk at most 1048576: NARROWER than '..Said'. Prove '..Said' where nothing that the law and all that it calls make is longer than what came in: it says more and counts as full. Else prove '..UptoSaid'. A law counts once. -/
mutual
def uptoBulk {H : Type} : DataW H → Nat
  | .lit (.string bytes) => bytes.length + 1
  | .lit _ => 1
  | .nil => 1
  | .ptr d => uptoBulk d + 1
  | .slice elems spare => uptoBulkAll elems + uptoBulkAll spare + 1
  | .agg parts => uptoBulkAll parts + 1
  | .iface _ d => uptoBulk d + 1
  | .map entries => uptoBulkEntries entries + 1
  | .held _ => 1
def uptoBulkAll {H : Type} : List (DataW H) → Nat
  | [] => 0
  | d :: r => uptoBulk d + uptoBulkAll r
def uptoBulkEntries {H : Type} : List (Lit × DataW H) → Nat
  | [] => 0
  | x :: r => uptoBulkEntry x + uptoBulkEntries r
def uptoBulkEntry {H : Type} : Lit × DataW H → Nat
  | (.string bytes, d) => bytes.length + uptoBulk d + 1
  | (_, d) => uptoBulk d + 1
 end
def uptoSmall : (H : Type) → List (DataW H) → Bool := fun _ ds => decide (uptoBulkAll ds ≤ 1048576)
def OpenSpec.upto (s : _root_.Go.ChangeSpec) : _root_.Go.OpenSpec := { _root_.Go.OpenSpec.ofChange s with cond := some uptoSmall }

/-- 'carrefourlaw03.CircleArcs', WHERE WHAT IT READS IS OF BULK AT MOST 1048576: true; the input reads as it did. -/
def circleArcsUptoRow : OpenClaim := { program := "ytemhdliapelleaa", sum := "84232658d0de8061c4ea887f54bef41067571bc629722be99f0221f13a455171", func := "carrefour/carrefourlaw03.CircleArcs", spec := "circleArcs", unfollowed := true, recurses := true, apart := false, narrowed := true }
def CircleArcsUptoSaid : Prop := circleArcsUptoRow.holds Try.pinned (OpenSpec.upto circleArcsSpec)

/-- 'carrefourlaw03.CircleForm', WHERE WHAT IT READS IS OF BULK AT MOST 1048576: true; the input reads as it did. -/
def circleFormUptoRow : OpenClaim := { program := "ytemhdliapelleaa", sum := "84232658d0de8061c4ea887f54bef41067571bc629722be99f0221f13a455171", func := "carrefour/carrefourlaw03.CircleForm", spec := "circleForm", unfollowed := true, recurses := true, apart := false, narrowed := true }
def CircleFormUptoSaid : Prop := circleFormUptoRow.holds Try.pinned (OpenSpec.upto circleFormSpec)

/-- 'carrefourlaw03.CircleTurns', WHERE WHAT IT READS IS OF BULK AT MOST 1048576: true; the input reads as it did. -/
def circleTurnsUptoRow : OpenClaim := { program := "ytemhdliapelleaa", sum := "84232658d0de8061c4ea887f54bef41067571bc629722be99f0221f13a455171", func := "carrefour/carrefourlaw03.CircleTurns", spec := "circleTurns", unfollowed := true, recurses := true, apart := false, narrowed := true }
def CircleTurnsUptoSaid : Prop := circleTurnsUptoRow.holds Try.pinned (OpenSpec.upto circleTurnsSpec)

/-- 'carrefourlaw03.CircleWidest', WHERE WHAT IT READS IS OF BULK AT MOST 1048576: true; the input reads as it did. -/
def circleWidestUptoRow : OpenClaim := { program := "ytemhdliapelleaa", sum := "84232658d0de8061c4ea887f54bef41067571bc629722be99f0221f13a455171", func := "carrefour/carrefourlaw03.CircleWidest", spec := "circleWidest", unfollowed := true, recurses := true, apart := false, narrowed := true }
def CircleWidestUptoSaid : Prop := circleWidestUptoRow.holds Try.pinned (OpenSpec.upto circleWidestSpec)

/-- 'carrefourlaw03.CircleMeets', WHERE WHAT IT READS IS OF BULK AT MOST 1048576: true; the input reads as it did. -/
def circleMeetsUptoRow : OpenClaim := { program := "ytemhdliapelleaa", sum := "84232658d0de8061c4ea887f54bef41067571bc629722be99f0221f13a455171", func := "carrefour/carrefourlaw03.CircleMeets", spec := "circleMeets", unfollowed := true, recurses := true, apart := false, narrowed := true }
def CircleMeetsUptoSaid : Prop := circleMeetsUptoRow.holds Try.pinned (OpenSpec.upto circleMeetsSpec)

/-- 'carrefourlaw03.CircleSets', WHERE WHAT IT READS IS OF BULK AT MOST 1048576: true; the input reads as it did. -/
def circleSetsUptoRow : OpenClaim := { program := "ytemhdliapelleaa", sum := "84232658d0de8061c4ea887f54bef41067571bc629722be99f0221f13a455171", func := "carrefour/carrefourlaw03.CircleSets", spec := "circleSets", unfollowed := true, recurses := true, apart := false, narrowed := true }
def CircleSetsUptoSaid : Prop := circleSetsUptoRow.holds Try.pinned (OpenSpec.upto circleSetsSpec)

/-- 'carrefourlaw03.CircleRests', WHERE WHAT IT READS IS OF BULK AT MOST 1048576: true; the input reads as it did. -/
def circleRestsUptoRow : OpenClaim := { program := "ytemhdliapelleaa", sum := "84232658d0de8061c4ea887f54bef41067571bc629722be99f0221f13a455171", func := "carrefour/carrefourlaw03.CircleRests", spec := "circleRests", unfollowed := true, recurses := true, apart := false, narrowed := true }
def CircleRestsUptoSaid : Prop := circleRestsUptoRow.holds Try.pinned (OpenSpec.upto circleRestsSpec)

/-- 'carrefourlaw34.ProfilePass', WHERE WHAT IT READS IS OF BULK AT MOST 1048576: true; the input reads as it did. -/
def profilePassUptoRow : OpenClaim := { program := "ytemhdliapelleaa", sum := "84232658d0de8061c4ea887f54bef41067571bc629722be99f0221f13a455171", func := "carrefour/carrefourlaw34.ProfilePass", spec := "profilePass", unfollowed := true, recurses := true, apart := false, narrowed := true }
def ProfilePassUptoSaid : Prop := profilePassUptoRow.holds Try.pinned (OpenSpec.upto profilePassSpec)

/-- 'carrefourlaw34.ProfileKeeps', WHERE WHAT IT READS IS OF BULK AT MOST 1048576: true; the input reads as it did. -/
def profileKeepsUptoRow : OpenClaim := { program := "ytemhdliapelleaa", sum := "84232658d0de8061c4ea887f54bef41067571bc629722be99f0221f13a455171", func := "carrefour/carrefourlaw34.ProfileKeeps", spec := "profileKeeps", unfollowed := true, recurses := true, apart := false, narrowed := true }
def ProfileKeepsUptoSaid : Prop := profileKeepsUptoRow.holds Try.pinned (OpenSpec.upto profileKeepsSpec)

/-- 'carrefourlaw34.ProfileTurn', WHERE WHAT IT READS IS OF BULK AT MOST 1048576: true; the input reads as it did. -/
def profileTurnUptoRow : OpenClaim := { program := "ytemhdliapelleaa", sum := "84232658d0de8061c4ea887f54bef41067571bc629722be99f0221f13a455171", func := "carrefour/carrefourlaw34.ProfileTurn", spec := "profileTurn", unfollowed := true, recurses := true, apart := false, narrowed := true }
def ProfileTurnUptoSaid : Prop := profileTurnUptoRow.holds Try.pinned (OpenSpec.upto profileTurnSpec)

/-- 'carrefourlaw34.ProfileRows', WHERE WHAT IT READS IS OF BULK AT MOST 1048576: true; the input reads as it did. -/
def profileRowsUptoRow : OpenClaim := { program := "ytemhdliapelleaa", sum := "84232658d0de8061c4ea887f54bef41067571bc629722be99f0221f13a455171", func := "carrefour/carrefourlaw34.ProfileRows", spec := "profileRows", unfollowed := true, recurses := true, apart := false, narrowed := true }
def ProfileRowsUptoSaid : Prop := profileRowsUptoRow.holds Try.pinned (OpenSpec.upto profileRowsSpec)

end Rows
end Go.Proofs.Ytemhdliapelleaa
