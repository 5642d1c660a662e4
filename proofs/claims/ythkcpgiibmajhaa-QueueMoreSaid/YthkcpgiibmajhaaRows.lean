/-
  No cell of these rows narrows 'for every input' (looked for: loops, veiled, ifaces, maps, wideKeys, modest, calm, conditions, laid).
  DERIVED. THE GIVEN ROWS OF THIS SEAT. 4 by the template 'for every input the law returns true; each argument reads behind the call as it read before'; 0 by the template 'total and deterministic' (their statements: YthkcpgiibmajhaaTotals.lean).
  GIVEN WITH THE SEED: the statements are not yours to turn. If you find one false, say at which input.
  Laid BY PROGRAM, IN A SANDBOX (cutbox-rows.mjs): the forced cells as the released guide's own fill.sh prints them over the translation 115d07f4edfd897a… (all of the seat's roots in one cut). By AI agents, Wed Nov 11 2026. No macro, syntax, notation, axiom, sorry.
-/
import Derived.Test.YthkcpgiibmajhaaChecked
import GoSem.Claim
import GoSem.ClaimJoined
import GoSem.ClaimMapViews
import Derived.JoinedTies
import Derived.KernelRfl
namespace Go.Proofs.Ythkcpgiibmajhaa
/- THE CELL 'sum', in the pinned program and in every row, IS THE sha256 OF THE DUMP (.gsa) THAT YthkcpgiibmajhaaProg.lean LOADS. Nothing in Lean hashes anything: it is a label: what it is worth is what the hold of that sum in a sandbox is worth. -/
noncomputable def Try.pinned : Pinned := { name := "ythkcpgiibmajhaa", sum := "115d07f4edfd897afbf14e7f8ae2e9fd3efd079ab04df1e9e4bd25e06ee214c9", checked := Try.checked }
namespace Rows
def none {H : Type} : Left H := { results := [], args := [] }

/-- 'carrefourlaw25.QueueAfter': WHATEVER THE INPUT: true; the input reads as it did. -/
def queueAfterSpec : ChangeSpec := { name := "queueAfter", fn := fun _ => fun
  | [d1, d2] => { results := [.lit (.bool true)], args := [d1, d2] }
  | _ => none }
def queueAfterRow : OpenClaim := { program := "ythkcpgiibmajhaa", sum := "115d07f4edfd897afbf14e7f8ae2e9fd3efd079ab04df1e9e4bd25e06ee214c9", func := "carrefour/carrefourlaw25.QueueAfter", spec := "queueAfter", unfollowed := true, recurses := true, apart := false }
def QueueAfterSaid : Prop := queueAfterRow.holds Try.pinned (OpenSpec.ofChange queueAfterSpec)

/-- ITS FALSE NEIGHBOUR: 'it returns false'. Refute it at one input. -/
def queueAfterWrong : ChangeSpec := { name := "queueAfter", fn := fun _ => fun
  | [d1, d2] => { results := [.lit (.bool false)], args := [d1, d2] }
  | _ => none }
def QueueAfterWrongFalsely : Prop := queueAfterRow.holds Try.pinned (OpenSpec.ofChange queueAfterWrong)

/-- 'carrefourlaw25.QueueSplit': WHATEVER THE INPUT: true; the input reads as it did. -/
def queueSplitSpec : ChangeSpec := { name := "queueSplit", fn := fun _ => fun
  | [d1, d2] => { results := [.lit (.bool true)], args := [d1, d2] }
  | _ => none }
def queueSplitRow : OpenClaim := { program := "ythkcpgiibmajhaa", sum := "115d07f4edfd897afbf14e7f8ae2e9fd3efd079ab04df1e9e4bd25e06ee214c9", func := "carrefour/carrefourlaw25.QueueSplit", spec := "queueSplit", unfollowed := true, recurses := true, apart := false }
def QueueSplitSaid : Prop := queueSplitRow.holds Try.pinned (OpenSpec.ofChange queueSplitSpec)

/-- ITS FALSE NEIGHBOUR: 'it returns false'. Refute it at one input. -/
def queueSplitWrong : ChangeSpec := { name := "queueSplit", fn := fun _ => fun
  | [d1, d2] => { results := [.lit (.bool false)], args := [d1, d2] }
  | _ => none }
def QueueSplitWrongFalsely : Prop := queueSplitRow.holds Try.pinned (OpenSpec.ofChange queueSplitWrong)

/-- 'carrefourlaw25.QueueMore': WHATEVER THE INPUT: true; the input reads as it did. -/
def queueMoreSpec : ChangeSpec := { name := "queueMore", fn := fun _ => fun
  | [d1, d2] => { results := [.lit (.bool true)], args := [d1, d2] }
  | _ => none }
def queueMoreRow : OpenClaim := { program := "ythkcpgiibmajhaa", sum := "115d07f4edfd897afbf14e7f8ae2e9fd3efd079ab04df1e9e4bd25e06ee214c9", func := "carrefour/carrefourlaw25.QueueMore", spec := "queueMore", unfollowed := true, recurses := true, apart := false }
def QueueMoreSaid : Prop := queueMoreRow.holds Try.pinned (OpenSpec.ofChange queueMoreSpec)

/-- ITS FALSE NEIGHBOUR: 'it returns false'. Refute it at one input. -/
def queueMoreWrong : ChangeSpec := { name := "queueMore", fn := fun _ => fun
  | [d1, d2] => { results := [.lit (.bool false)], args := [d1, d2] }
  | _ => none }
def QueueMoreWrongFalsely : Prop := queueMoreRow.holds Try.pinned (OpenSpec.ofChange queueMoreWrong)

/-- 'carrefourlaw25.QueueAgain': WHATEVER THE INPUT: true; the input reads as it did. -/
def queueAgainSpec : ChangeSpec := { name := "queueAgain", fn := fun _ => fun
  | [d1, d2] => { results := [.lit (.bool true)], args := [d1, d2] }
  | _ => none }
def queueAgainRow : OpenClaim := { program := "ythkcpgiibmajhaa", sum := "115d07f4edfd897afbf14e7f8ae2e9fd3efd079ab04df1e9e4bd25e06ee214c9", func := "carrefour/carrefourlaw25.QueueAgain", spec := "queueAgain", unfollowed := true, recurses := true, apart := false }
def QueueAgainSaid : Prop := queueAgainRow.holds Try.pinned (OpenSpec.ofChange queueAgainSpec)

/-- ITS FALSE NEIGHBOUR: 'it returns false'. Refute it at one input. -/
def queueAgainWrong : ChangeSpec := { name := "queueAgain", fn := fun _ => fun
  | [d1, d2] => { results := [.lit (.bool false)], args := [d1, d2] }
  | _ => none }
def QueueAgainWrongFalsely : Prop := queueAgainRow.holds Try.pinned (OpenSpec.ofChange queueAgainWrong)

/- THE SECOND FORM. 'bulk': how many values and letters a reading holds, each counted each time it is reached (what is shared counts as often as it is met; a slice's spare places count too). A statement '..UptoSaid' is the law's where the arguments, and the package variables that the reading takes, are together of bulk at most 1048576: NARROWER than '..Said'. Prove '..Said' where nothing that the law and all that it calls make is longer than what came in: it says more and counts as full. Else prove '..UptoSaid'. A law counts once. -/
mutual
def uptoBulk {H : Type} : DataW H → Nat
  | .lit (.string bytes) => bytes.length + 1
  | .lit _ => 1
  | .nil => 1
  | .ptr d => uptoBulk d + 1
  | .slice elems spare => uptoBulkAll elems + uptoBulkAll spare + 1
  | .agg parts => uptoBulkAll parts + 1
  | .iface _ d => uptoBulk d + 1
  | .map entries => uptoBulkEntries entries + 1
  | .held _ => 1
def uptoBulkAll {H : Type} : List (DataW H) → Nat
  | [] => 0
  | d :: r => uptoBulk d + uptoBulkAll r
def uptoBulkEntries {H : Type} : List (Lit × DataW H) → Nat
  | [] => 0
  | x :: r => uptoBulkEntry x + uptoBulkEntries r
def uptoBulkEntry {H : Type} : Lit × DataW H → Nat
  | (.string bytes, d) => bytes.length + uptoBulk d + 1
  | (_, d) => uptoBulk d + 1
 end
def uptoSmall : (H : Type) → List (DataW H) → Bool := fun _ ds => decide (uptoBulkAll ds ≤ 1048576)
def OpenSpec.upto (s : _root_.Go.ChangeSpec) : _root_.Go.OpenSpec := { _root_.Go.OpenSpec.ofChange s with cond := some uptoSmall }

/-- 'carrefourlaw25.QueueAfter', WHERE WHAT IT READS IS OF BULK AT MOST 1048576: true; the input reads as it did. -/
def queueAfterUptoRow : OpenClaim := { program := "ythkcpgiibmajhaa", sum := "115d07f4edfd897afbf14e7f8ae2e9fd3efd079ab04df1e9e4bd25e06ee214c9", func := "carrefour/carrefourlaw25.QueueAfter", spec := "queueAfter", unfollowed := true, recurses := true, apart := false, narrowed := true }
def QueueAfterUptoSaid : Prop := queueAfterUptoRow.holds Try.pinned (OpenSpec.upto queueAfterSpec)

/-- 'carrefourlaw25.QueueSplit', WHERE WHAT IT READS IS OF BULK AT MOST 1048576: true; the input reads as it did. -/
def queueSplitUptoRow : OpenClaim := { program := "ythkcpgiibmajhaa", sum := "115d07f4edfd897afbf14e7f8ae2e9fd3efd079ab04df1e9e4bd25e06ee214c9", func := "carrefour/carrefourlaw25.QueueSplit", spec := "queueSplit", unfollowed := true, recurses := true, apart := false, narrowed := true }
def QueueSplitUptoSaid : Prop := queueSplitUptoRow.holds Try.pinned (OpenSpec.upto queueSplitSpec)

/-- 'carrefourlaw25.QueueMore', WHERE WHAT IT READS IS OF BULK AT MOST 1048576: true; the input reads as it did. -/
def queueMoreUptoRow : OpenClaim := { program := "ythkcpgiibmajhaa", sum := "115d07f4edfd897afbf14e7f8ae2e9fd3efd079ab04df1e9e4bd25e06ee214c9", func := "carrefour/carrefourlaw25.QueueMore", spec := "queueMore", unfollowed := true, recurses := true, apart := false, narrowed := true }
def QueueMoreUptoSaid : Prop := queueMoreUptoRow.holds Try.pinned (OpenSpec.upto queueMoreSpec)

/-- 'carrefourlaw25.QueueAgain', WHERE WHAT IT READS IS OF BULK AT MOST 1048576: true; the input reads as it did. -/
def queueAgainUptoRow : OpenClaim := { program := "ythkcpgiibmajhaa", sum := "115d07f4edfd897afbf14e7f8ae2e9fd3efd079ab04df1e9e4bd25e06ee214c9", func := "carrefour/carrefourlaw25.QueueAgain", spec := "queueAgain", unfollowed := true, recurses := true, apart := false, narrowed := true }
def QueueAgainUptoSaid : Prop := queueAgainUptoRow.holds Try.pinned (OpenSpec.upto queueAgainSpec)

end Rows
end Go.Proofs.Ythkcpgiibmajhaa
