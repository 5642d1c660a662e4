/-
  No cell of these rows narrows 'for every input' (looked for: loops, veiled, ifaces, maps, wideKeys, modest, calm, conditions, laid).
  DERIVED. THE GIVEN ROWS OF THIS SEAT. 4 by the template 'for every input the law returns true; each argument reads behind the call as it read before'; 0 by the template 'total and deterministic' (their statements: YtbcejiobmeglgaaTotals.lean).
  GIVEN WITH THE SEED: the statements are not yours to turn. If you find one false, say at which input.
  Laid BY PROGRAM, IN A SANDBOX (cutbox-rows.mjs): the forced cells as the released guide's own fill.sh prints them over the translation 3acddc8fdbc2118c… (all of the seat's roots in one cut). By AI agents, Wed Nov 11 2026. No macro, syntax, notation, axiom, sorry.
-/
import Derived.Test.YtbcejiobmeglgaaChecked
import GoSem.Claim
import GoSem.ClaimJoined
import GoSem.ClaimMapViews
import Derived.JoinedTies
import Derived.KernelRfl
namespace Go.Proofs.Ytbcejiobmeglgaa
/- THE CELL 'sum', in the pinned program and in every row, IS THE sha256 OF THE DUMP (.gsa) THAT YtbcejiobmeglgaaProg.lean LOADS. Nothing in Lean hashes anything: it is a label: what it is worth is what the hold of that sum in a sandbox is worth. -/
noncomputable def Try.pinned : Pinned := { name := "ytbcejiobmeglgaa", sum := "3acddc8fdbc2118cd159d0f9a7a09070684be1d85c4624281e2c3779647aab08", checked := Try.checked }
namespace Rows
def none {H : Type} : Left H := { results := [], args := [] }

/-- 'carrefourlaw07.ValidCheck': WHATEVER THE INPUT: true; the input reads as it did. -/
def validCheckSpec : ChangeSpec := { name := "validCheck", fn := fun _ => fun
  | [d] => { results := [.lit (.bool true)], args := [d] }
  | _ => none }
def validCheckRow : OpenClaim := { program := "ytbcejiobmeglgaa", sum := "3acddc8fdbc2118cd159d0f9a7a09070684be1d85c4624281e2c3779647aab08", func := "carrefour/carrefourlaw07.ValidCheck", spec := "validCheck", unfollowed := true, recurses := true, apart := false }
def ValidCheckSaid : Prop := validCheckRow.holds Try.pinned (OpenSpec.ofChange validCheckSpec)

/-- ITS FALSE NEIGHBOUR: 'it returns false'. Refute it at one input. -/
def validCheckWrong : ChangeSpec := { name := "validCheck", fn := fun _ => fun
  | [d] => { results := [.lit (.bool false)], args := [d] }
  | _ => none }
def ValidCheckWrongFalsely : Prop := validCheckRow.holds Try.pinned (OpenSpec.ofChange validCheckWrong)

/-- 'carrefourlaw07.ValidParts': WHATEVER THE INPUT: true; the input reads as it did. -/
def validPartsSpec : ChangeSpec := { name := "validParts", fn := fun _ => fun
  | [d] => { results := [.lit (.bool true)], args := [d] }
  | _ => none }
def validPartsRow : OpenClaim := { program := "ytbcejiobmeglgaa", sum := "3acddc8fdbc2118cd159d0f9a7a09070684be1d85c4624281e2c3779647aab08", func := "carrefour/carrefourlaw07.ValidParts", spec := "validParts", unfollowed := true, recurses := true, apart := false }
def ValidPartsSaid : Prop := validPartsRow.holds Try.pinned (OpenSpec.ofChange validPartsSpec)

/-- ITS FALSE NEIGHBOUR: 'it returns false'. Refute it at one input. -/
def validPartsWrong : ChangeSpec := { name := "validParts", fn := fun _ => fun
  | [d] => { results := [.lit (.bool false)], args := [d] }
  | _ => none }
def ValidPartsWrongFalsely : Prop := validPartsRow.holds Try.pinned (OpenSpec.ofChange validPartsWrong)

/-- 'carrefourlaw07.ValidOnce': WHATEVER THE INPUT: true; the input reads as it did. -/
def validOnceSpec : ChangeSpec := { name := "validOnce", fn := fun _ => fun
  | [d] => { results := [.lit (.bool true)], args := [d] }
  | _ => none }
def validOnceRow : OpenClaim := { program := "ytbcejiobmeglgaa", sum := "3acddc8fdbc2118cd159d0f9a7a09070684be1d85c4624281e2c3779647aab08", func := "carrefour/carrefourlaw07.ValidOnce", spec := "validOnce", unfollowed := true, recurses := true, apart := false }
def ValidOnceSaid : Prop := validOnceRow.holds Try.pinned (OpenSpec.ofChange validOnceSpec)

/-- ITS FALSE NEIGHBOUR: 'it returns false'. Refute it at one input. -/
def validOnceWrong : ChangeSpec := { name := "validOnce", fn := fun _ => fun
  | [d] => { results := [.lit (.bool false)], args := [d] }
  | _ => none }
def ValidOnceWrongFalsely : Prop := validOnceRow.holds Try.pinned (OpenSpec.ofChange validOnceWrong)

/-- 'carrefourlaw07.ValidFinds': WHATEVER THE INPUT: true; the input reads as it did. -/
def validFindsSpec : ChangeSpec := { name := "validFinds", fn := fun _ => fun
  | [d1, d2] => { results := [.lit (.bool true)], args := [d1, d2] }
  | _ => none }
def validFindsRow : OpenClaim := { program := "ytbcejiobmeglgaa", sum := "3acddc8fdbc2118cd159d0f9a7a09070684be1d85c4624281e2c3779647aab08", func := "carrefour/carrefourlaw07.ValidFinds", spec := "validFinds", unfollowed := true, recurses := true, apart := false }
def ValidFindsSaid : Prop := validFindsRow.holds Try.pinned (OpenSpec.ofChange validFindsSpec)

/-- ITS FALSE NEIGHBOUR: 'it returns false'. Refute it at one input. -/
def validFindsWrong : ChangeSpec := { name := "validFinds", fn := fun _ => fun
  | [d1, d2] => { results := [.lit (.bool false)], args := [d1, d2] }
  | _ => none }
def ValidFindsWrongFalsely : Prop := validFindsRow.holds Try.pinned (OpenSpec.ofChange validFindsWrong)

/- THE SECOND FORM. 'bulk': how many values and letters a reading holds, each counted each time it is reached (what is shared counts as often as it is met; a slice's spare places count too). A statement '..UptoSaid' is the law's where the arguments, and the package variables that the reading takes, are together of bulk at most 1048576: NARROWER than '..Said'. Prove '..Said' where nothing that the law and all that it calls make is longer than what came in: it says more and counts as full. Else prove '..UptoSaid'. A law counts once. -/
mutual
def uptoBulk {H : Type} : DataW H → Nat
  | .lit (.string bytes) => bytes.length + 1
  | .lit _ => 1
  | .nil => 1
  | .ptr d => uptoBulk d + 1
  | .slice elems spare => uptoBulkAll elems + uptoBulkAll spare + 1
  | .agg parts => uptoBulkAll parts + 1
  | .iface _ d => uptoBulk d + 1
  | .map entries => uptoBulkEntries entries + 1
  | .held _ => 1
def uptoBulkAll {H : Type} : List (DataW H) → Nat
  | [] => 0
  | d :: r => uptoBulk d + uptoBulkAll r
def uptoBulkEntries {H : Type} : List (Lit × DataW H) → Nat
  | [] => 0
  | x :: r => uptoBulkEntry x + uptoBulkEntries r
def uptoBulkEntry {H : Type} : Lit × DataW H → Nat
  | (.string bytes, d) => bytes.length + uptoBulk d + 1
  | (_, d) => uptoBulk d + 1
 end
def uptoSmall : (H : Type) → List (DataW H) → Bool := fun _ ds => decide (uptoBulkAll ds ≤ 1048576)
def OpenSpec.upto (s : _root_.Go.ChangeSpec) : _root_.Go.OpenSpec := { _root_.Go.OpenSpec.ofChange s with cond := some uptoSmall }

/-- 'carrefourlaw07.ValidCheck', WHERE WHAT IT READS IS OF BULK AT MOST 1048576: true; the input reads as it did. -/
def validCheckUptoRow : OpenClaim := { program := "ytbcejiobmeglgaa", sum := "3acddc8fdbc2118cd159d0f9a7a09070684be1d85c4624281e2c3779647aab08", func := "carrefour/carrefourlaw07.ValidCheck", spec := "validCheck", unfollowed := true, recurses := true, apart := false, narrowed := true }
def ValidCheckUptoSaid : Prop := validCheckUptoRow.holds Try.pinned (OpenSpec.upto validCheckSpec)

/-- 'carrefourlaw07.ValidParts', WHERE WHAT IT READS IS OF BULK AT MOST 1048576: true; the input reads as it did. -/
def validPartsUptoRow : OpenClaim := { program := "ytbcejiobmeglgaa", sum := "3acddc8fdbc2118cd159d0f9a7a09070684be1d85c4624281e2c3779647aab08", func := "carrefour/carrefourlaw07.ValidParts", spec := "validParts", unfollowed := true, recurses := true, apart := false, narrowed := true }
def ValidPartsUptoSaid : Prop := validPartsUptoRow.holds Try.pinned (OpenSpec.upto validPartsSpec)

/-- 'carrefourlaw07.ValidOnce', WHERE WHAT IT READS IS OF BULK AT MOST 1048576: true; the input reads as it did. -/
def validOnceUptoRow : OpenClaim := { program := "ytbcejiobmeglgaa", sum := "3acddc8fdbc2118cd159d0f9a7a09070684be1d85c4624281e2c3779647aab08", func := "carrefour/carrefourlaw07.ValidOnce", spec := "validOnce", unfollowed := true, recurses := true, apart := false, narrowed := true }
def ValidOnceUptoSaid : Prop := validOnceUptoRow.holds Try.pinned (OpenSpec.upto validOnceSpec)

/-- 'carrefourlaw07.ValidFinds', WHERE WHAT IT READS IS OF BULK AT MOST 1048576: true; the input reads as it did. -/
def validFindsUptoRow : OpenClaim := { program := "ytbcejiobmeglgaa", sum := "3acddc8fdbc2118cd159d0f9a7a09070684be1d85c4624281e2c3779647aab08", func := "carrefour/carrefourlaw07.ValidFinds", spec := "validFinds", unfollowed := true, recurses := true, apart := false, narrowed := true }
def ValidFindsUptoSaid : Prop := validFindsUptoRow.holds Try.pinned (OpenSpec.upto validFindsSpec)

end Rows
end Go.Proofs.Ytbcejiobmeglgaa
