/- Chapter 7's example: a network that may be, and the same with one text of a row turned. -/
import Derived.Test.YtbcejiobmeglgaaFnS3
namespace Go.Proofs.Ytbcejiobmeglgaa.Fn
set_option linter.unusedVariables false
set_option maxRecDepth 100000
open Go Go.RowKit Go.Den
noncomputable def c10 : Code := match Try.f10.body with
  | some c => c
  | none => .skip
def sl_ : Code → Code
  | .seq a _ => a
  | c => c
def sr_ : Code → Code
  | .seq _ b => b
  | c => c
theorem body10 : Try.f10.body = some (.seq (sl_ c10) (.seq (sl_ (sr_ c10)) (.seq (sl_ (sr_ (sr_ c10))) (.seq (sl_ (sr_ (sr_ (sr_ c10)))) (sr_ (sr_ (sr_ (sr_ c10)))))))) := by kernel_rfl
noncomputable def ops3 : Array Oper := match sl_ (sr_ (sr_ (sr_ c10))) with
  | .region _ ops _ => ops
  | _ => #[]
theorem region3 : sl_ (sr_ (sr_ (sr_ c10))) = .region 3 ops3 false := by kernel_rfl
noncomputable def cW (b : Nat) : Cx := ⟨Try.prog, Θ b, [23], [(31, ⟨h_law07_Sample, o_law07_Sample, law07_Sample 150⟩), (8, ⟨h_valid_Check, o_valid_Check, valid_Check 150⟩), (13, ⟨h_valid_Node, o_valid_Node, valid_Node 150⟩)], [], [], []⟩
theorem cW_ok (b : Nat) : (cW b).Ok := ok_of mixed eqsOk ⟨s_law07_Sample b 150, s_valid_Check b 150, s_valid_Node b 150, trivial⟩ trivial trivial
def hA : Shape := ⟨[], [], []⟩
def oA : List (Ex × Shape) := [(.ret, ⟨[.c (.hole .bool)], [], []⟩)]
def h3 : Shape := ⟨slotsOf 69 [(1, .c (.hole (.int .i64))), (2, .c (.hole (.int .i64))), (3, .c (.box 3 0))], [(3, 27, [.hole (.int .i64), .hole (.int .i64), .hole (.int .i64), .hole (.int .i64), .hole (.int .i64), .hole (.sl 39), .hole (.sl 53), .hole (.int .i64), .hole (.int .i64)])], []⟩
abbrev NodeT0 := ByteArray × List (ByteArray × Int × Int × Int × Int × Int × Int × Int × Int × Int × Int) × List (ByteArray × ByteArray × Int × Int × Int × Int) × List (ByteArray × List ByteArray × Int) × List (List (Bool × List ByteArray)) × List (ByteArray × ByteArray × Int) × Int
def awNode (t1 t2 r1 r2 : ByteArray) : NodeT0 := (ByteArray.mk #[97], [(ByteArray.mk #[110], 400, 1800, 1, 1, 1500, 0, 1800, 600, 10, 48), (ByteArray.mk #[101], 300, 1700, 1, 1, 1000, -20, 2000, 600, 8, 135)], [(ByteArray.mk #[119], ByteArray.mk #[112], 300, 120, 5, 223)], [(ByteArray.mk #[112], [t1], 265), (ByteArray.mk #[113], [t2], 277)], [[(true, [r1, r2])]], [(ByteArray.mk #[110], ByteArray.mk #[101], 313)], 39)
def awS0 : List (ByteArray × ByteArray × ByteArray × Int × Int × Int) := [(ByteArray.mk #[97], ByteArray.mk #[110], ByteArray.mk #[110], 0, 0, 334)]
noncomputable def k3 (b : Nat) (e : Ex) (s : St (Θ b).T) : Option (h3.X (Θ b).T) := match e with
  | .normal => h3.ext s
  | _ => none
noncomputable def k2 (b : Nat) (e : Ex) (s : St (Θ b).T) : Option (h3.X (Θ b).T) := match e with
  | .normal => codeC (cW b) 150 (sl_ (sr_ (sr_ c10))) .leaf s (k3 b)
  | _ => none
noncomputable def k1 (b : Nat) (e : Ex) (s : St (Θ b).T) : Option (h3.X (Θ b).T) := match e with
  | .normal => codeC (cW b) 150 (sl_ (sr_ c10)) .leaf s (k2 b)
  | _ => none
def xOf (ns : List NodeT0) : Int × Int × Int × Int × Int × Int × Int × List NodeT0 × List (ByteArray × ByteArray × ByteArray × Int × Int × Int) × Int × Int := (0, 0, 30, 200, 10, 9, 10, ns, awS0, 1, 1)
def tN : ByteArray := ByteArray.mk #[110]
def tE : ByteArray := ByteArray.mk #[101]
def tP : ByteArray := ByteArray.mk #[112]
def tQ : ByteArray := ByteArray.mk #[113]
theorem pre_val (b : Nat) : codeC (cW b) 150 (sl_ c10) .leaf (entry (cW b) Try.f10 hA ()) (k1 b) = some (xOf [awNode tN tE tP tQ]) := by kernel_rfl
theorem post_val (b : Nat) : ∀ r1 ∈ [tP, tN], ∀ r2 ∈ [tQ, tN], codeC (cW b) 150 (sr_ (sr_ (sr_ (sr_ c10)))) .leaf (h3.st (T := (Θ b).T) (xOf [awNode tN tN r1 r2])) (outK (cW b) Try.f10 oA) = some true := by
  intro r1 h1 r2 h2
  simp only [List.mem_cons, List.not_mem_nil, or_false] at h1 h2
  rcases h1 with rfl | rfl <;> rcases h2 with rfl | rfl <;> kernel_rfl
end Go.Proofs.Ytbcejiobmeglgaa.Fn
