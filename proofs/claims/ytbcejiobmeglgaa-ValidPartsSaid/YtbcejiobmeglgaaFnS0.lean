/- Functions of the program, each as a plain function, and that the machine does what it says. -/
import Derived.Test.YtbcejiobmeglgaaGiven
namespace Go.Proofs.Ytbcejiobmeglgaa.Fn
set_option linter.unusedVariables false
set_option maxRecDepth 100000
open Go Go.RowKit Go.Den
def h_valid_must : Shape := ⟨slotsOf 3 [(0, .c (.hole (.bool))), (1, .c (.hole (.int .i64))), (2, .c (.hole (.int .i64)))], [], []⟩
def o_valid_must : List (Ex × Shape) := [(.pan 55, ⟨slotsOf 1 [(0, .agg [.hole (.int .i64), .hole (.int .i64)])], [], []⟩), (.ret, ⟨slotsOf 0 [], [], []⟩)]
def valid_must (n : Nat) (x0 : Bool × Int × Int) : Option ((Int × Int) ⊕ (Unit)) :=
  bif !x0.1 then
    some (.inl x0.2)
  else
  some (.inr ())
def p_valid_must : Plan := .leaf
noncomputable def c_valid_must (b n : Nat) : Cx := ⟨Go.Proofs.Try.prog, (Θ b), [23], [], [], [], []⟩
theorem d_valid_must (b n : Nat) (x : h_valid_must.X T) : denF (c_valid_must b n) n Go.Proofs.Try.f23 p_valid_must h_valid_must o_valid_must x = valid_must n x := by kernel_rfl
theorem s_valid_must (b n : Nat) : PCalls Go.Proofs.Try.prog (Θ b) 23 ⟨h_valid_must, o_valid_must, valid_must n⟩ :=
  func_ok' (C := c_valid_must b n) (n := n) (p := p_valid_must) (ok_of mixed eqsOk trivial trivial trivial) Go.Proofs.Try.func23 (by kernel_rfl) (by kernel_rfl) (d_valid_must b n) (by kernel_rfl)
def h_valid_once : Shape := ⟨slotsOf 2 [(0, .c (.row 1000000)), (1, .c (.hole (.str)))], [], [(1000000, 1000116)]⟩
def o_valid_once : List (Ex × Shape) := [(.ret, ⟨slotsOf 1 [(0, .c (.hole (.bool)))], [], [(1000000, 1000116)]⟩)]
def valid_once (n : Nat) (x0 : ByteArray × List (ByteArray × Bool)) : Option (Bool × List (ByteArray × Bool)) :=
  some (!(mfind x0.1 (x0.1, false) x0.2).2, mput x0.1 (x0.1, true) x0.2)
def p_valid_once : Plan := .leaf
noncomputable def c_valid_once (b n : Nat) : Cx := ⟨Go.Proofs.Try.prog, (Θ b), [23], [], [], [], []⟩
theorem d_valid_once (b n : Nat) (x : h_valid_once.X T) : denF (c_valid_once b n) n Go.Proofs.Try.f25 p_valid_once h_valid_once o_valid_once x = valid_once n x := by kernel_rfl
theorem s_valid_once (b n : Nat) : PCalls Go.Proofs.Try.prog (Θ b) 25 ⟨h_valid_once, o_valid_once, valid_once n⟩ :=
  func_ok' (C := c_valid_once b n) (n := n) (p := p_valid_once) (ok_of mixed eqsOk trivial trivial trivial) Go.Proofs.Try.func25 (by kernel_rfl) (by kernel_rfl) (d_valid_once b n) (by kernel_rfl)
def h_valid_checker_sizes : Shape := ⟨slotsOf 1 [(0, .c (.box 1000000 0))], [(1000000, 85, [.hole (.str), .hole (.sl 44), .hole (.sl 78), .hole (.sl 42), .hole (.sl 67), .hole (.sl 47), .hole (.int .i64), .row 1000000, .row 1000001, .row 1000002])], [(1000000, 1000116), (1000001, 1000116), (1000002, 1000166)]⟩
def o_valid_checker_sizes : List (Ex × Shape) := [(.pan 55, ⟨slotsOf 1 [(0, .agg [.hole (.int .i64), .hole (.int .i64)])], [], []⟩), (.ret, ⟨slotsOf 0 [], [(1000000, 85, [.hole (.str), .hole (.sl 44), .hole (.sl 78), .hole (.sl 42), .hole (.sl 67), .hole (.sl 47), .hole (.int .i64), .row 1000000, .row 1000001, .row 1000002])], [(1000000, 1000116), (1000001, 1000116), (1000002, 1000166)]⟩)]
def valid_checker_sizes (n : Nat) (x0 : ByteArray × (List (ByteArray × Int × Int × Int × Int × Int × Int × Int × Int × Int × Int)) × (List (ByteArray × ByteArray × Int × Int × Int × Int)) × (List (ByteArray × (List ByteArray) × Int)) × (List (List (Bool × List ByteArray))) × (List (ByteArray × ByteArray × Int)) × Int × (List (ByteArray × Bool)) × (List (ByteArray × Bool)) × List (ByteArray × Int)) : Option ((Int × Int) ⊕ (ByteArray × (List (ByteArray × Int × Int × Int × Int × Int × Int × Int × Int × Int × Int)) × (List (ByteArray × ByteArray × Int × Int × Int × Int)) × (List (ByteArray × (List ByteArray) × Int)) × (List (List (Bool × List ByteArray))) × (List (ByteArray × ByteArray × Int)) × Int × (List (ByteArray × Bool)) × (List (ByteArray × Bool)) × List (ByteArray × Int))) :=
  letJ (fun (x1 : Bool × ByteArray × (List (ByteArray × Int × Int × Int × Int × Int × Int × Int × Int × Int × Int)) × (List (ByteArray × ByteArray × Int × Int × Int × Int)) × (List (ByteArray × (List ByteArray) × Int)) × (List (List (Bool × List ByteArray))) × (List (ByteArray × ByteArray × Int)) × Int × ByteArray × (List (ByteArray × Int × Int × Int × Int × Int × Int × Int × Int × Int × Int)) × (List (ByteArray × ByteArray × Int × Int × Int × Int)) × (List (ByteArray × (List ByteArray) × Int)) × (List (List (Bool × List ByteArray))) × (List (ByteArray × ByteArray × Int)) × Int × (List (ByteArray × Bool)) × (List (ByteArray × Bool)) × List (ByteArray × Int)) =>
    (valid_must n (!x1.1, 4, x1.2.2.2.2.2.2.2.2.2.2.2.2.2.2.1)).bind (Sum.elim (fun (y4 : Int × Int) =>
      some (.inl y4)) (fun (y5 : Unit) =>
      bif decide (0 < ((x1.2.2.2.2.2.2.2.2.2.1.length : Nat) : Int)) then
        bif decide (0 < ((x1.2.2.2.2.2.2.2.2.2.2.2.1.length : Nat) : Int)) then
          (valid_must n (decide (0 < ((x1.2.2.2.2.2.2.2.2.2.2.2.2.1.length : Nat) : Int)), 73, x1.2.2.2.2.2.2.2.2.2.2.2.2.2.2.1)).bind (Sum.elim (fun (y7 : Int × Int) =>
            some (.inl y7)) (fun (y8 : Unit) =>
            some (.inr (x1.2.1, x1.2.2.1, x1.2.2.2.1, x1.2.2.2.2.1, x1.2.2.2.2.2.1, x1.2.2.2.2.2.2.1, x1.2.2.2.2.2.2.2.1, x1.2.2.2.2.2.2.2.2.2.2.2.2.2.2.2))))
        else
          (valid_must n (false, 73, x1.2.2.2.2.2.2.2.2.2.2.2.2.2.2.1)).bind (Sum.elim (fun (y10 : Int × Int) =>
            some (.inl y10)) (fun (y11 : Unit) =>
            some (.inr (x1.2.1, x1.2.2.1, x1.2.2.2.1, x1.2.2.2.2.1, x1.2.2.2.2.2.1, x1.2.2.2.2.2.2.1, x1.2.2.2.2.2.2.2.1, x1.2.2.2.2.2.2.2.2.2.2.2.2.2.2.2))))
      else
        (valid_must n (false, 73, x1.2.2.2.2.2.2.2.2.2.2.2.2.2.2.1)).bind (Sum.elim (fun (y13 : Int × Int) =>
          some (.inl y13)) (fun (y14 : Unit) =>
          some (.inr (x1.2.1, x1.2.2.1, x1.2.2.2.1, x1.2.2.2.2.1, x1.2.2.2.2.2.1, x1.2.2.2.2.2.2.1, x1.2.2.2.2.2.2.2.1, x1.2.2.2.2.2.2.2.2.2.2.2.2.2.2.2))))))) fun J2 =>
  bif decide (16 < ((x0.2.1.length : Nat) : Int)) then
    J2 (true, x0.1, x0.2.1, x0.2.2.1, x0.2.2.2.1, x0.2.2.2.2.1, x0.2.2.2.2.2.1, x0.2.2.2.2.2.2.1, x0)
  else
  bif decide (16 < ((x0.2.2.2.1.length : Nat) : Int)) then
    J2 (true, x0.1, x0.2.1, x0.2.2.1, x0.2.2.2.1, x0.2.2.2.2.1, x0.2.2.2.2.2.1, x0.2.2.2.2.2.2.1, x0)
  else
  bif decide (8 < ((x0.2.2.1.length : Nat) : Int)) then
    J2 (true, x0.1, x0.2.1, x0.2.2.1, x0.2.2.2.1, x0.2.2.2.2.1, x0.2.2.2.2.2.1, x0.2.2.2.2.2.2.1, x0)
  else
  bif decide (4 < ((x0.2.2.2.2.1.length : Nat) : Int)) then
    J2 (true, x0.1, x0.2.1, x0.2.2.1, x0.2.2.2.1, x0.2.2.2.2.1, x0.2.2.2.2.2.1, x0.2.2.2.2.2.2.1, x0)
  else
  J2 (decide (64 < ((x0.2.2.2.2.2.1.length : Nat) : Int)), x0.1, x0.2.1, x0.2.2.1, x0.2.2.2.1, x0.2.2.2.2.1, x0.2.2.2.2.2.1, x0.2.2.2.2.2.2.1, x0)
def p_valid_checker_sizes : Plan := .two (.leaf) (.two (.join ⟨slotsOf 60 [(2, .c (.box 2 0)), (3, .c (.hole (.bool)))], [(1000000, 85, [.hole (.str), .hole (.sl 44), .hole (.sl 78), .hole (.sl 42), .hole (.sl 67), .hole (.sl 47), .hole (.int .i64), .row 1000000, .row 1000001, .row 1000002]), (2, 39, [.hole (.str), .hole (.sl 44), .hole (.sl 78), .hole (.sl 42), .hole (.sl 67), .hole (.sl 47), .hole (.int .i64)])], [(1000000, 1000116), (1000001, 1000116), (1000002, 1000166)]⟩ (.leaf)) (.leaf))
noncomputable def c_valid_checker_sizes (b n : Nat) : Cx := ⟨Go.Proofs.Try.prog, (Θ b), [23], [(23, ⟨h_valid_must, o_valid_must, valid_must n⟩)], [], [], []⟩
theorem d_valid_checker_sizes (b n : Nat) (x : h_valid_checker_sizes.X T) : denF (c_valid_checker_sizes b n) n Go.Proofs.Try.f43 p_valid_checker_sizes h_valid_checker_sizes o_valid_checker_sizes x = valid_checker_sizes n x := by kernel_rfl
theorem s_valid_checker_sizes (b n : Nat) : PCalls Go.Proofs.Try.prog (Θ b) 43 ⟨h_valid_checker_sizes, o_valid_checker_sizes, valid_checker_sizes n⟩ :=
  func_ok' (C := c_valid_checker_sizes b n) (n := n) (p := p_valid_checker_sizes) (ok_of mixed eqsOk ⟨s_valid_must b n, trivial⟩ trivial trivial) Go.Proofs.Try.func43 (by kernel_rfl) (by kernel_rfl) (d_valid_checker_sizes b n) (by kernel_rfl)
def h_valid_within_1 : Shape := ⟨slotsOf 3 [(0, .c (.hole (.int .i64))), (1, .c (.box 1000000 0)), (2, .c (.box 1000001 0))], [(1000000, 2, [.hole (.int .i64)]), (1000001, 2, [.hole (.int .i64)])], []⟩
def o_valid_within_1 : List (Ex × Shape) := [(.ret, ⟨slotsOf 1 [(0, .c (.hole (.bool)))], [(1000000, 2, [.hole (.int .i64)]), (1000001, 2, [.hole (.int .i64)])], []⟩)]
def valid_within_1 (n : Nat) (x0 : Int × Int × Int) : Option (Bool × Int × Int) :=
  bif decide (x0.1 < x0.2.1) then
    some (true, x0.2)
  else
  some (decide (x0.2.2 < x0.1), x0.2)
def p_valid_within_1 : Plan := .leaf
noncomputable def c_valid_within_1 (b n : Nat) : Cx := ⟨Go.Proofs.Try.prog, (Θ b), [23], [], [], [], []⟩
theorem d_valid_within_1 (b n : Nat) (x : h_valid_within_1.X T) : denF (c_valid_within_1 b n) n Go.Proofs.Try.f42 p_valid_within_1 h_valid_within_1 o_valid_within_1 x = valid_within_1 n x := by kernel_rfl
theorem s_valid_within_1 (b n : Nat) : PCalls Go.Proofs.Try.prog (Θ b) 42 ⟨h_valid_within_1, o_valid_within_1, valid_within_1 n⟩ :=
  func_ok' (C := c_valid_within_1 b n) (n := n) (p := p_valid_within_1) (ok_of mixed eqsOk trivial trivial trivial) Go.Proofs.Try.func42 (by kernel_rfl) (by kernel_rfl) (d_valid_within_1 b n) (by kernel_rfl)
def h_slices_IndexFunc_valid_within_1 : Shape := ⟨slotsOf 2 [(0, .c (.hole (.sl 2))), (1, .c (.fn 42 [1000000, 1000001]))], [(1000000, 2, [.hole (.int .i64)]), (1000001, 2, [.hole (.int .i64)])], []⟩
def o_slices_IndexFunc_valid_within_1 : List (Ex × Shape) := [(.ret, ⟨slotsOf 1 [(0, .c (.hole (.int .i64)))], [(1000000, 2, [.hole (.int .i64)]), (1000001, 2, [.hole (.int .i64)])], []⟩)]
def slices_IndexFunc_valid_within_1 (n : Nat) (x0 : (List Int) × Int × Int) : Option (Int × Int × Int) :=
  (iterL (Y := (Int × Int × Int) ⊕ (Int × Int)) n (fun (x1 : (List Int) × Int × Int × Int × Int) =>
    bif decide (x1.2.2.1 < x1.2.1) then
      bif inB x1.2.2.1 x1.1.length then
        (valid_within_1 n (atI 0 x1.1 x1.2.2.1, x1.2.2.2)).bind fun y2 =>
        bif y2.1 then
          some (.inr (.inl (x1.2.2.1, y2.2)))
        else
        some (.inl (x1.1, x1.2.1, wrap64 (x1.2.2.1 + 1), y2.2))
      else
      none
    else
    some (.inr (.inr x1.2.2.2))) (x0.1, ((x0.1.length : Nat) : Int), 0, x0.2)).bind (Sum.elim (fun (z3 : Int × Int × Int) =>
    some z3) (fun (z4 : Int × Int) =>
    some ((-1), z4)))
def p_slices_IndexFunc_valid_within_1 : Plan := .two (.leaf) (.two (.two (.leaf) (.one (.loop ⟨slotsOf 19 [(0, .c (.hole (.sl 2))), (1, .c (.fn 42 [1000000, 1000001])), (7, .c (.hole (.int .i64))), (8, .c (.hole (.int .i64)))], [(1000000, 2, [.hole (.int .i64)]), (1000001, 2, [.hole (.int .i64)])], []⟩ [(.ret, ⟨slotsOf 19 [(4, .c (.hole (.int .i64)))], [(1000000, 2, [.hole (.int .i64)]), (1000001, 2, [.hole (.int .i64)])], []⟩), (.exit 0, ⟨slotsOf 19 [], [(1000000, 2, [.hole (.int .i64)]), (1000001, 2, [.hole (.int .i64)])], []⟩)] (.leaf)))) (.leaf))
noncomputable def c_slices_IndexFunc_valid_within_1 (b n : Nat) : Cx := ⟨Go.Proofs.Try.prog, (Θ b), [23], [(42, ⟨h_valid_within_1, o_valid_within_1, valid_within_1 n⟩)], [], [], []⟩
theorem d_slices_IndexFunc_valid_within_1 (b n : Nat) (x : h_slices_IndexFunc_valid_within_1.X T) : denF (c_slices_IndexFunc_valid_within_1 b n) n Go.Proofs.Try.f56 p_slices_IndexFunc_valid_within_1 h_slices_IndexFunc_valid_within_1 o_slices_IndexFunc_valid_within_1 x = slices_IndexFunc_valid_within_1 n x := by kernel_rfl
theorem s_slices_IndexFunc_valid_within_1 (b n : Nat) : PCalls Go.Proofs.Try.prog (Θ b) 56 ⟨h_slices_IndexFunc_valid_within_1, o_slices_IndexFunc_valid_within_1, slices_IndexFunc_valid_within_1 n⟩ :=
  func_ok' (C := c_slices_IndexFunc_valid_within_1 b n) (n := n) (p := p_slices_IndexFunc_valid_within_1) (ok_of mixed eqsOk ⟨s_valid_within_1 b n, trivial⟩ trivial trivial) Go.Proofs.Try.func56 (by kernel_rfl) (by kernel_rfl) (d_slices_IndexFunc_valid_within_1 b n) (by kernel_rfl)
def h_slices_ContainsFunc_valid_within_1 : Shape := ⟨slotsOf 2 [(0, .c (.hole (.sl 2))), (1, .c (.fn 42 [1000000, 1000001]))], [(1000000, 2, [.hole (.int .i64)]), (1000001, 2, [.hole (.int .i64)])], []⟩
def o_slices_ContainsFunc_valid_within_1 : List (Ex × Shape) := [(.ret, ⟨slotsOf 1 [(0, .c (.hole (.bool)))], [(1000000, 2, [.hole (.int .i64)]), (1000001, 2, [.hole (.int .i64)])], []⟩)]
def slices_ContainsFunc_valid_within_1 (n : Nat) (x0 : (List Int) × Int × Int) : Option (Bool × Int × Int) :=
  (slices_IndexFunc_valid_within_1 n x0).bind fun y1 =>
  some (decide (0 ≤ y1.1), y1.2)
def p_slices_ContainsFunc_valid_within_1 : Plan := .leaf
noncomputable def c_slices_ContainsFunc_valid_within_1 (b n : Nat) : Cx := ⟨Go.Proofs.Try.prog, (Θ b), [23], [(56, ⟨h_slices_IndexFunc_valid_within_1, o_slices_IndexFunc_valid_within_1, slices_IndexFunc_valid_within_1 n⟩)], [], [], []⟩
theorem d_slices_ContainsFunc_valid_within_1 (b n : Nat) (x : h_slices_ContainsFunc_valid_within_1.X T) : denF (c_slices_ContainsFunc_valid_within_1 b n) n Go.Proofs.Try.f41 p_slices_ContainsFunc_valid_within_1 h_slices_ContainsFunc_valid_within_1 o_slices_ContainsFunc_valid_within_1 x = slices_ContainsFunc_valid_within_1 n x := by kernel_rfl
theorem s_slices_ContainsFunc_valid_within_1 (b n : Nat) : PCalls Go.Proofs.Try.prog (Θ b) 41 ⟨h_slices_ContainsFunc_valid_within_1, o_slices_ContainsFunc_valid_within_1, slices_ContainsFunc_valid_within_1 n⟩ :=
  func_ok' (C := c_slices_ContainsFunc_valid_within_1 b n) (n := n) (p := p_slices_ContainsFunc_valid_within_1) (ok_of mixed eqsOk ⟨s_slices_IndexFunc_valid_within_1 b n, trivial⟩ trivial trivial) Go.Proofs.Try.func41 (by kernel_rfl) (by kernel_rfl) (d_slices_ContainsFunc_valid_within_1 b n) (by kernel_rfl)
def h_valid_within : Shape := ⟨slotsOf 3 [(0, .c (.hole (.int .i64))), (1, .c (.hole (.int .i64))), (2, .c (.hole (.sl 2)))], [], []⟩
def o_valid_within : List (Ex × Shape) := [(.ret, ⟨slotsOf 1 [(0, .c (.hole (.bool)))], [], []⟩)]
def valid_within (n : Nat) (x0 : Int × Int × List Int) : Option (Bool) :=
  (slices_ContainsFunc_valid_within_1 n (x0.2.2, x0.1, x0.2.1)).bind fun y1 =>
  some (!y1.1)
def p_valid_within : Plan := .leaf
noncomputable def c_valid_within (b n : Nat) : Cx := ⟨Go.Proofs.Try.prog, (Θ b), [23], [(41, ⟨h_slices_ContainsFunc_valid_within_1, o_slices_ContainsFunc_valid_within_1, slices_ContainsFunc_valid_within_1 n⟩)], [], [], []⟩
theorem d_valid_within (b n : Nat) (x : h_valid_within.X T) : denF (c_valid_within b n) n Go.Proofs.Try.f24 p_valid_within h_valid_within o_valid_within x = valid_within n x := by kernel_rfl
theorem s_valid_within (b n : Nat) : PCalls Go.Proofs.Try.prog (Θ b) 24 ⟨h_valid_within, o_valid_within, valid_within n⟩ :=
  func_ok' (C := c_valid_within b n) (n := n) (p := p_valid_within) (ok_of mixed eqsOk ⟨s_slices_ContainsFunc_valid_within_1 b n, trivial⟩ trivial trivial) Go.Proofs.Try.func24 (by kernel_rfl) (by kernel_rfl) (d_valid_within b n) (by kernel_rfl)
def h_valid_checker_head : Shape := ⟨slotsOf 2 [(0, .c (.box 1000000 0)), (1, .agg [.hole (.str), .hole (.int .i64), .hole (.int .i64), .hole (.int .i64), .hole (.int .i64), .hole (.int .i64), .hole (.int .i64), .hole (.int .i64), .hole (.int .i64), .hole (.int .i64), .hole (.int .i64)])], [(1000000, 85, [.hole (.str), .hole (.sl 44), .hole (.sl 78), .hole (.sl 42), .hole (.sl 67), .hole (.sl 47), .hole (.int .i64), .row 1000000, .row 1000001, .row 1000002])], [(1000000, 1000116), (1000001, 1000116), (1000002, 1000166)]⟩
def o_valid_checker_head : List (Ex × Shape) := [(.pan 55, ⟨slotsOf 1 [(0, .agg [.hole (.int .i64), .hole (.int .i64)])], [], []⟩), (.ret, ⟨slotsOf 0 [], [(1000000, 85, [.hole (.str), .hole (.sl 44), .hole (.sl 78), .hole (.sl 42), .hole (.sl 67), .hole (.sl 47), .hole (.int .i64), .row 1000000, .row 1000001, .row 1000002])], [(1000000, 1000116), (1000001, 1000116), (1000002, 1000166)]⟩)]
def valid_checker_head (n : Nat) (x0 : ByteArray × Int × Int × Int × Int × Int × Int × Int × Int × Int × Int × ByteArray × (List (ByteArray × Int × Int × Int × Int × Int × Int × Int × Int × Int × Int)) × (List (ByteArray × ByteArray × Int × Int × Int × Int)) × (List (ByteArray × (List ByteArray) × Int)) × (List (List (Bool × List ByteArray))) × (List (ByteArray × ByteArray × Int)) × Int × (List (ByteArray × Bool)) × (List (ByteArray × Bool)) × List (ByteArray × Int)) : Option ((Int × Int) ⊕ (ByteArray × (List (ByteArray × Int × Int × Int × Int × Int × Int × Int × Int × Int × Int)) × (List (ByteArray × ByteArray × Int × Int × Int × Int)) × (List (ByteArray × (List ByteArray) × Int)) × (List (List (Bool × List ByteArray))) × (List (ByteArray × ByteArray × Int)) × Int × (List (ByteArray × Bool)) × (List (ByteArray × Bool)) × List (ByteArray × Int))) :=
  (valid_once n (x0.1, x0.2.2.2.2.2.2.2.2.2.2.2.2.2.2.2.2.2.2.1)).bind fun y1 =>
  (valid_must n (y1.1, 71, x0.2.2.2.2.2.2.2.2.2.2.1)).bind (Sum.elim (fun (y3 : Int × Int) =>
    some (.inl y3)) (fun (y4 : Unit) =>
    letJ (fun (x11 : Bool × ByteArray × (List (ByteArray × Int × Int × Int × Int × Int × Int × Int × Int × Int × Int)) × (List (ByteArray × ByteArray × Int × Int × Int × Int)) × (List (ByteArray × (List ByteArray) × Int)) × (List (List (Bool × List ByteArray))) × (List (ByteArray × ByteArray × Int)) × Int × ByteArray × Int × Int × Int × Int × Int × Int × Int × Int × Int × Int × (List (ByteArray × Bool)) × (List (ByteArray × Bool)) × List (ByteArray × Int)) =>
      (valid_must n (x11.1, 70, x11.2.2.2.2.2.2.2.2.2.2.2.2.2.2.2.2.2.2.1)).bind (Sum.elim (fun (y14 : Int × Int) =>
        some (.inl y14)) (fun (y15 : Unit) =>
        some (.inr (x11.2.1, x11.2.2.1, x11.2.2.2.1, x11.2.2.2.2.1, x11.2.2.2.2.2.1, x11.2.2.2.2.2.2.1, x11.2.2.2.2.2.2.2.1, x11.2.2.2.2.2.2.2.2.2.2.2.2.2.2.2.2.2.2.2))))) fun J12 =>
    (valid_within n (0, 1000000000, x0.2.1 :: [])).bind fun y5 =>
    bif y5 then
      (valid_within n (1, 1000000000, x0.2.2.1 :: (x0.2.2.2.1 :: (x0.2.2.2.2.1 :: [])))).bind fun y6 =>
      bif y6 then
        (valid_within n (1, 10000, x0.2.2.2.2.2.1 :: [])).bind fun y7 =>
        bif y7 then
          (valid_within n ((-200), 200, x0.2.2.2.2.2.2.1 :: [])).bind fun y8 =>
          bif y8 then
            (valid_within n (0, 100000, x0.2.2.2.2.2.2.2.1 :: (x0.2.2.2.2.2.2.2.2.1 :: []))).bind fun y9 =>
            bif y9 then
              (valid_within n (1, 6000, x0.2.2.2.2.2.2.2.2.2.1 :: [])).bind fun y10 =>
              J12 (y10, x0.2.2.2.2.2.2.2.2.2.2.2.1, x0.2.2.2.2.2.2.2.2.2.2.2.2.1, x0.2.2.2.2.2.2.2.2.2.2.2.2.2.1, x0.2.2.2.2.2.2.2.2.2.2.2.2.2.2.1, x0.2.2.2.2.2.2.2.2.2.2.2.2.2.2.2.1, x0.2.2.2.2.2.2.2.2.2.2.2.2.2.2.2.2.1, x0.2.2.2.2.2.2.2.2.2.2.2.2.2.2.2.2.2.1, x0.1, x0.2.1, x0.2.2.1, x0.2.2.2.1, x0.2.2.2.2.1, x0.2.2.2.2.2.1, x0.2.2.2.2.2.2.1, x0.2.2.2.2.2.2.2.1, x0.2.2.2.2.2.2.2.2.1, x0.2.2.2.2.2.2.2.2.2.1, x0.2.2.2.2.2.2.2.2.2.2.1, y1.2, x0.2.2.2.2.2.2.2.2.2.2.2.2.2.2.2.2.2.2.2)
            else
            J12 (false, x0.2.2.2.2.2.2.2.2.2.2.2.1, x0.2.2.2.2.2.2.2.2.2.2.2.2.1, x0.2.2.2.2.2.2.2.2.2.2.2.2.2.1, x0.2.2.2.2.2.2.2.2.2.2.2.2.2.2.1, x0.2.2.2.2.2.2.2.2.2.2.2.2.2.2.2.1, x0.2.2.2.2.2.2.2.2.2.2.2.2.2.2.2.2.1, x0.2.2.2.2.2.2.2.2.2.2.2.2.2.2.2.2.2.1, x0.1, x0.2.1, x0.2.2.1, x0.2.2.2.1, x0.2.2.2.2.1, x0.2.2.2.2.2.1, x0.2.2.2.2.2.2.1, x0.2.2.2.2.2.2.2.1, x0.2.2.2.2.2.2.2.2.1, x0.2.2.2.2.2.2.2.2.2.1, x0.2.2.2.2.2.2.2.2.2.2.1, y1.2, x0.2.2.2.2.2.2.2.2.2.2.2.2.2.2.2.2.2.2.2)
          else
          J12 (false, x0.2.2.2.2.2.2.2.2.2.2.2.1, x0.2.2.2.2.2.2.2.2.2.2.2.2.1, x0.2.2.2.2.2.2.2.2.2.2.2.2.2.1, x0.2.2.2.2.2.2.2.2.2.2.2.2.2.2.1, x0.2.2.2.2.2.2.2.2.2.2.2.2.2.2.2.1, x0.2.2.2.2.2.2.2.2.2.2.2.2.2.2.2.2.1, x0.2.2.2.2.2.2.2.2.2.2.2.2.2.2.2.2.2.1, x0.1, x0.2.1, x0.2.2.1, x0.2.2.2.1, x0.2.2.2.2.1, x0.2.2.2.2.2.1, x0.2.2.2.2.2.2.1, x0.2.2.2.2.2.2.2.1, x0.2.2.2.2.2.2.2.2.1, x0.2.2.2.2.2.2.2.2.2.1, x0.2.2.2.2.2.2.2.2.2.2.1, y1.2, x0.2.2.2.2.2.2.2.2.2.2.2.2.2.2.2.2.2.2.2)
        else
        J12 (false, x0.2.2.2.2.2.2.2.2.2.2.2.1, x0.2.2.2.2.2.2.2.2.2.2.2.2.1, x0.2.2.2.2.2.2.2.2.2.2.2.2.2.1, x0.2.2.2.2.2.2.2.2.2.2.2.2.2.2.1, x0.2.2.2.2.2.2.2.2.2.2.2.2.2.2.2.1, x0.2.2.2.2.2.2.2.2.2.2.2.2.2.2.2.2.1, x0.2.2.2.2.2.2.2.2.2.2.2.2.2.2.2.2.2.1, x0.1, x0.2.1, x0.2.2.1, x0.2.2.2.1, x0.2.2.2.2.1, x0.2.2.2.2.2.1, x0.2.2.2.2.2.2.1, x0.2.2.2.2.2.2.2.1, x0.2.2.2.2.2.2.2.2.1, x0.2.2.2.2.2.2.2.2.2.1, x0.2.2.2.2.2.2.2.2.2.2.1, y1.2, x0.2.2.2.2.2.2.2.2.2.2.2.2.2.2.2.2.2.2.2)
      else
      J12 (false, x0.2.2.2.2.2.2.2.2.2.2.2.1, x0.2.2.2.2.2.2.2.2.2.2.2.2.1, x0.2.2.2.2.2.2.2.2.2.2.2.2.2.1, x0.2.2.2.2.2.2.2.2.2.2.2.2.2.2.1, x0.2.2.2.2.2.2.2.2.2.2.2.2.2.2.2.1, x0.2.2.2.2.2.2.2.2.2.2.2.2.2.2.2.2.1, x0.2.2.2.2.2.2.2.2.2.2.2.2.2.2.2.2.2.1, x0.1, x0.2.1, x0.2.2.1, x0.2.2.2.1, x0.2.2.2.2.1, x0.2.2.2.2.2.1, x0.2.2.2.2.2.2.1, x0.2.2.2.2.2.2.2.1, x0.2.2.2.2.2.2.2.2.1, x0.2.2.2.2.2.2.2.2.2.1, x0.2.2.2.2.2.2.2.2.2.2.1, y1.2, x0.2.2.2.2.2.2.2.2.2.2.2.2.2.2.2.2.2.2.2)
    else
    J12 (false, x0.2.2.2.2.2.2.2.2.2.2.2.1, x0.2.2.2.2.2.2.2.2.2.2.2.2.1, x0.2.2.2.2.2.2.2.2.2.2.2.2.2.1, x0.2.2.2.2.2.2.2.2.2.2.2.2.2.2.1, x0.2.2.2.2.2.2.2.2.2.2.2.2.2.2.2.1, x0.2.2.2.2.2.2.2.2.2.2.2.2.2.2.2.2.1, x0.2.2.2.2.2.2.2.2.2.2.2.2.2.2.2.2.2.1, x0.1, x0.2.1, x0.2.2.1, x0.2.2.2.1, x0.2.2.2.2.1, x0.2.2.2.2.2.1, x0.2.2.2.2.2.2.1, x0.2.2.2.2.2.2.2.1, x0.2.2.2.2.2.2.2.2.1, x0.2.2.2.2.2.2.2.2.2.1, x0.2.2.2.2.2.2.2.2.2.2.1, y1.2, x0.2.2.2.2.2.2.2.2.2.2.2.2.2.2.2.2.2.2.2)))
def p_valid_checker_head : Plan := .two (.leaf) (.two (.leaf) (.two (.join ⟨slotsOf 61 [(3, .c (.box 3 0)), (4, .c (.hole (.bool)))], [(1000000, 85, [.hole (.str), .hole (.sl 44), .hole (.sl 78), .hole (.sl 42), .hole (.sl 67), .hole (.sl 47), .hole (.int .i64), .row 1000000, .row 1000001, .row 1000002]), (3, 44, [.hole (.str), .hole (.int .i64), .hole (.int .i64), .hole (.int .i64), .hole (.int .i64), .hole (.int .i64), .hole (.int .i64), .hole (.int .i64), .hole (.int .i64), .hole (.int .i64), .hole (.int .i64)])], [(1000000, 1000116), (1000001, 1000116), (1000002, 1000166)]⟩ (.leaf)) (.leaf)))
noncomputable def c_valid_checker_head (b n : Nat) : Cx := ⟨Go.Proofs.Try.prog, (Θ b), [23], [(23, ⟨h_valid_must, o_valid_must, valid_must n⟩), (24, ⟨h_valid_within, o_valid_within, valid_within n⟩), (25, ⟨h_valid_once, o_valid_once, valid_once n⟩)], [], [], []⟩
theorem d_valid_checker_head (b n : Nat) (x : h_valid_checker_head.X T) : denF (c_valid_checker_head b n) n Go.Proofs.Try.f44 p_valid_checker_head h_valid_checker_head o_valid_checker_head x = valid_checker_head n x := by kernel_rfl
theorem s_valid_checker_head (b n : Nat) : PCalls Go.Proofs.Try.prog (Θ b) 44 ⟨h_valid_checker_head, o_valid_checker_head, valid_checker_head n⟩ :=
  func_ok' (C := c_valid_checker_head b n) (n := n) (p := p_valid_checker_head) (ok_of mixed eqsOk ⟨s_valid_must b n, s_valid_within b n, s_valid_once b n, trivial⟩ trivial trivial) Go.Proofs.Try.func44 (by kernel_rfl) (by kernel_rfl) (d_valid_checker_head b n) (by kernel_rfl)
def h_valid_checker_phase : Shape := ⟨slotsOf 3 [(0, .c (.box 1000000 0)), (1, .c (.hole (.int .i64))), (2, .agg [.hole (.str), .hole (.sl 9), .hole (.int .i64)])], [(1000000, 85, [.hole (.str), .hole (.sl 44), .hole (.sl 78), .hole (.sl 42), .hole (.sl 67), .hole (.sl 47), .hole (.int .i64), .row 1000000, .row 1000001, .row 1000002])], [(1000000, 1000116), (1000001, 1000116), (1000002, 1000166)]⟩
def o_valid_checker_phase : List (Ex × Shape) := [(.pan 55, ⟨slotsOf 1 [(0, .agg [.hole (.int .i64), .hole (.int .i64)])], [], []⟩), (.ret, ⟨slotsOf 0 [], [(1000000, 85, [.hole (.str), .hole (.sl 44), .hole (.sl 78), .hole (.sl 42), .hole (.sl 67), .hole (.sl 47), .hole (.int .i64), .row 1000000, .row 1000001, .row 1000002])], [(1000001, 1000116), (1000000, 1000116), (1000002, 1000166)]⟩)]
def valid_checker_phase (n : Nat) (x0 : Int × ByteArray × (List ByteArray) × Int × ByteArray × (List (ByteArray × Int × Int × Int × Int × Int × Int × Int × Int × Int × Int)) × (List (ByteArray × ByteArray × Int × Int × Int × Int)) × (List (ByteArray × (List ByteArray) × Int)) × (List (List (Bool × List ByteArray))) × (List (ByteArray × ByteArray × Int)) × Int × (List (ByteArray × Bool)) × (List (ByteArray × Bool)) × List (ByteArray × Int)) : Option ((Int × Int) ⊕ (ByteArray × (List (ByteArray × Int × Int × Int × Int × Int × Int × Int × Int × Int × Int)) × (List (ByteArray × ByteArray × Int × Int × Int × Int)) × (List (ByteArray × (List ByteArray) × Int)) × (List (List (Bool × List ByteArray))) × (List (ByteArray × ByteArray × Int)) × Int × (List (ByteArray × Bool)) × (List (ByteArray × Bool)) × List (ByteArray × Int))) :=
  (valid_once n (x0.2.1, x0.2.2.2.2.2.2.2.2.2.2.2.2.1)).bind fun y1 =>
  (valid_must n (y1.1, 71, x0.2.2.2.1)).bind (Sum.elim (fun (y3 : Int × Int) =>
    some (.inl y3)) (fun (y4 : Unit) =>
    (iterL (Y := (Int × Int) ⊕ (ByteArray × (List (ByteArray × Int × Int × Int × Int × Int × Int × Int × Int × Int × Int)) × (List (ByteArray × ByteArray × Int × Int × Int × Int)) × (List (ByteArray × (List ByteArray) × Int)) × (List (List (Bool × List ByteArray))) × (List (ByteArray × ByteArray × Int)) × Int × ByteArray × (List ByteArray) × Int × (List (ByteArray × Bool)) × (List (ByteArray × Bool)) × List (ByteArray × Int))) n (fun (x5 : Int × (List ByteArray) × Int × Int × ByteArray × (List (ByteArray × Int × Int × Int × Int × Int × Int × Int × Int × Int × Int)) × (List (ByteArray × ByteArray × Int × Int × Int × Int)) × (List (ByteArray × (List ByteArray) × Int)) × (List (List (Bool × List ByteArray))) × (List (ByteArray × ByteArray × Int)) × Int × ByteArray × (List ByteArray) × Int × (List (ByteArray × Bool)) × (List (ByteArray × Bool)) × List (ByteArray × Int)) =>
      let e0 := atI (ByteArray.mk #[]) x5.2.1 x5.2.2.2.1
      bif decide (x5.2.2.2.1 < x5.2.2.1) then
        bif inB x5.2.2.2.1 x5.2.1.length then
          (valid_must n ((mfind e0 (e0, false) x5.2.2.2.2.2.2.2.2.2.2.2.2.2.2.2.1).2, 72, x5.2.2.2.2.2.2.2.2.2.2.2.2.2.1)).bind (Sum.elim (fun (y7 : Int × Int) =>
            some (.inr (.inl y7))) (fun (y8 : Unit) =>
            (valid_must n (!(mhas e0 x5.2.2.2.2.2.2.2.2.2.2.2.2.2.2.2.2), 71, x5.2.2.2.2.2.2.2.2.2.2.2.2.2.1)).bind (Sum.elim (fun (y10 : Int × Int) =>
              some (.inr (.inl y10))) (fun (y11 : Unit) =>
              some (.inl (x5.1, x5.2.1, x5.2.2.1, wrap64 (x5.2.2.2.1 + 1), x5.2.2.2.2.1, x5.2.2.2.2.2.1, x5.2.2.2.2.2.2.1, x5.2.2.2.2.2.2.2.1, x5.2.2.2.2.2.2.2.2.1, x5.2.2.2.2.2.2.2.2.2.1, x5.2.2.2.2.2.2.2.2.2.2.1, x5.2.2.2.2.2.2.2.2.2.2.2.1, x5.2.2.2.2.2.2.2.2.2.2.2.2.1, x5.2.2.2.2.2.2.2.2.2.2.2.2.2.1, x5.2.2.2.2.2.2.2.2.2.2.2.2.2.2.1, x5.2.2.2.2.2.2.2.2.2.2.2.2.2.2.2.1, mput e0 (e0, x5.1) x5.2.2.2.2.2.2.2.2.2.2.2.2.2.2.2.2))))))
        else
        none
      else
      some (.inr (.inr x5.2.2.2.2))) (x0.1, x0.2.2.1, ((x0.2.2.1.length : Nat) : Int), 0, x0.2.2.2.2.1, x0.2.2.2.2.2.1, x0.2.2.2.2.2.2.1, x0.2.2.2.2.2.2.2.1, x0.2.2.2.2.2.2.2.2.1, x0.2.2.2.2.2.2.2.2.2.1, x0.2.2.2.2.2.2.2.2.2.2.1, x0.2.1, x0.2.2.1, x0.2.2.2.1, y1.2, x0.2.2.2.2.2.2.2.2.2.2.2.1, x0.2.2.2.2.2.2.2.2.2.2.2.2.2)).bind (Sum.elim (fun (z12 : Int × Int) =>
      some (.inl z12)) (fun (z13 : ByteArray × (List (ByteArray × Int × Int × Int × Int × Int × Int × Int × Int × Int × Int)) × (List (ByteArray × ByteArray × Int × Int × Int × Int)) × (List (ByteArray × (List ByteArray) × Int)) × (List (List (Bool × List ByteArray))) × (List (ByteArray × ByteArray × Int)) × Int × ByteArray × (List ByteArray) × Int × (List (ByteArray × Bool)) × (List (ByteArray × Bool)) × List (ByteArray × Int)) =>
      (valid_must n (decide (0 < ((z13.2.2.2.2.2.2.2.2.1.length : Nat) : Int)), 73, z13.2.2.2.2.2.2.2.2.2.1)).bind (Sum.elim (fun (y15 : Int × Int) =>
        some (.inl y15)) (fun (y16 : Unit) =>
        some (.inr (z13.1, z13.2.1, z13.2.2.1, z13.2.2.2.1, z13.2.2.2.2.1, z13.2.2.2.2.2.1, z13.2.2.2.2.2.2.1, z13.2.2.2.2.2.2.2.2.2.2))))))))
def p_valid_checker_phase : Plan := .two (.leaf) (.two (.leaf) (.two (.two (.leaf) (.one (.loop ⟨slotsOf 64 [(0, .c (.box 1000000 0)), (1, .c (.hole (.int .i64))), (5, .c (.box 5 0)), (21, .c (.hole (.sl 9))), (22, .c (.hole (.int .i64))), (23, .c (.hole (.int .i64)))], [(1000000, 85, [.hole (.str), .hole (.sl 44), .hole (.sl 78), .hole (.sl 42), .hole (.sl 67), .hole (.sl 47), .hole (.int .i64), .row 1000000, .row 1000001, .row 1000002]), (5, 42, [.hole (.str), .hole (.sl 9), .hole (.int .i64)])], [(1000001, 1000116), (1000000, 1000116), (1000002, 1000166)]⟩ [(.pan 55, ⟨slotsOf 1 [(0, .agg [.hole (.int .i64), .hole (.int .i64)])], [], []⟩), (.exit 0, ⟨slotsOf 64 [(5, .c (.box 5 0))], [(1000000, 85, [.hole (.str), .hole (.sl 44), .hole (.sl 78), .hole (.sl 42), .hole (.sl 67), .hole (.sl 47), .hole (.int .i64), .row 1000000, .row 1000001, .row 1000002]), (5, 42, [.hole (.str), .hole (.sl 9), .hole (.int .i64)])], [(1000001, 1000116), (1000000, 1000116), (1000002, 1000166)]⟩)] (.leaf)))) (.leaf)))
noncomputable def c_valid_checker_phase (b n : Nat) : Cx := ⟨Go.Proofs.Try.prog, (Θ b), [23], [(23, ⟨h_valid_must, o_valid_must, valid_must n⟩), (25, ⟨h_valid_once, o_valid_once, valid_once n⟩)], [], [], []⟩
theorem d_valid_checker_phase (b n : Nat) (x : h_valid_checker_phase.X T) : denF (c_valid_checker_phase b n) n Go.Proofs.Try.f45 p_valid_checker_phase h_valid_checker_phase o_valid_checker_phase x = valid_checker_phase n x := by kernel_rfl
theorem s_valid_checker_phase (b n : Nat) : PCalls Go.Proofs.Try.prog (Θ b) 45 ⟨h_valid_checker_phase, o_valid_checker_phase, valid_checker_phase n⟩ :=
  func_ok' (C := c_valid_checker_phase b n) (n := n) (p := p_valid_checker_phase) (ok_of mixed eqsOk ⟨s_valid_must b n, s_valid_once b n, trivial⟩ trivial trivial) Go.Proofs.Try.func45 (by kernel_rfl) (by kernel_rfl) (d_valid_checker_phase b n) (by kernel_rfl)
def h_valid_checker_walks : Shape := ⟨slotsOf 1 [(0, .c (.box 1000000 0))], [(1000000, 85, [.hole (.str), .hole (.sl 44), .hole (.sl 78), .hole (.sl 42), .hole (.sl 67), .hole (.sl 47), .hole (.int .i64), .row 1000000, .row 1000001, .row 1000002])], [(1000000, 1000116), (1000001, 1000116), (1000002, 1000166)]⟩
def o_valid_checker_walks : List (Ex × Shape) := [(.pan 55, ⟨slotsOf 1 [(0, .agg [.hole (.int .i64), .hole (.int .i64)])], [], []⟩), (.ret, ⟨slotsOf 0 [], [(1000000, 85, [.hole (.str), .hole (.sl 44), .hole (.sl 78), .hole (.sl 42), .hole (.sl 67), .hole (.sl 47), .hole (.int .i64), .row 1000000, .row 1000001, .row 1000002])], [(1000000, 1000116), (1000001, 1000116), (1000002, 1000166)]⟩)]
def valid_checker_walks (n : Nat) (x0 : ByteArray × (List (ByteArray × Int × Int × Int × Int × Int × Int × Int × Int × Int × Int)) × (List (ByteArray × ByteArray × Int × Int × Int × Int)) × (List (ByteArray × (List ByteArray) × Int)) × (List (List (Bool × List ByteArray))) × (List (ByteArray × ByteArray × Int)) × Int × (List (ByteArray × Bool)) × (List (ByteArray × Bool)) × List (ByteArray × Int)) : Option ((Int × Int) ⊕ (ByteArray × (List (ByteArray × Int × Int × Int × Int × Int × Int × Int × Int × Int × Int)) × (List (ByteArray × ByteArray × Int × Int × Int × Int)) × (List (ByteArray × (List ByteArray) × Int)) × (List (List (Bool × List ByteArray))) × (List (ByteArray × ByteArray × Int)) × Int × (List (ByteArray × Bool)) × (List (ByteArray × Bool)) × List (ByteArray × Int))) :=
  (iterL (Y := (Int × Int) ⊕ (ByteArray × (List (ByteArray × Int × Int × Int × Int × Int × Int × Int × Int × Int × Int)) × (List (ByteArray × ByteArray × Int × Int × Int × Int)) × (List (ByteArray × (List ByteArray) × Int)) × (List (List (Bool × List ByteArray))) × (List (ByteArray × ByteArray × Int)) × Int × (List (ByteArray × Bool)) × (List (ByteArray × Bool)) × List (ByteArray × Int))) n (fun (x1 : (List (ByteArray × ByteArray × Int × Int × Int × Int)) × Int × Int × ByteArray × (List (ByteArray × Int × Int × Int × Int × Int × Int × Int × Int × Int × Int)) × (List (ByteArray × ByteArray × Int × Int × Int × Int)) × (List (ByteArray × (List ByteArray) × Int)) × (List (List (Bool × List ByteArray))) × (List (ByteArray × ByteArray × Int)) × Int × (List (ByteArray × Bool)) × (List (ByteArray × Bool)) × (List (ByteArray × Int)) × List (ByteArray × Bool)) =>
    let e0 := atI (ByteArray.mk #[], ByteArray.mk #[], 0, 0, 0, 0) x1.1 x1.2.2.1
    let e1 := e0.2
    let e2 := e0.2.2
    let e3 := e0.2.2.2
    let e4 := e0.2.2.2.2
    let e5 := e0.2.2.2.2.2
    let e6 := e0.2.1
    bif decide (x1.2.2.1 < x1.2.1) then
      bif inB x1.2.2.1 x1.1.length then
        (valid_once n (e0.1, x1.2.2.2.2.2.2.2.2.2.2.2.2.2)).bind fun y2 =>
        (valid_must n (y2.1, 71, e5)).bind (Sum.elim (fun (y4 : Int × Int) =>
          some (.inr (.inl y4))) (fun (y5 : Unit) =>
          (valid_must n ((mfind e6 (e6, false) x1.2.2.2.2.2.2.2.2.2.2.2.1).2, 72, e5)).bind (Sum.elim (fun (y7 : Int × Int) =>
            some (.inr (.inl y7))) (fun (y8 : Unit) =>
            (valid_within n (1, 100000, e0.2.2.1 :: [])).bind fun y9 =>
            bif y9 then
              (valid_within n (1, 10000, e0.2.2.2.1 :: [])).bind fun y10 =>
              bif y10 then
                (valid_within n (1, 6000, e0.2.2.2.2.1 :: [])).bind fun y11 =>
                (valid_must n (y11, 70, e5)).bind (Sum.elim (fun (y13 : Int × Int) =>
                  some (.inr (.inl y13))) (fun (y14 : Unit) =>
                  some (.inl (x1.1, x1.2.1, wrap64 (x1.2.2.1 + 1), x1.2.2.2.1, x1.2.2.2.2.1, x1.2.2.2.2.2.1, x1.2.2.2.2.2.2.1, x1.2.2.2.2.2.2.2.1, x1.2.2.2.2.2.2.2.2.1, x1.2.2.2.2.2.2.2.2.2.1, x1.2.2.2.2.2.2.2.2.2.2.1, x1.2.2.2.2.2.2.2.2.2.2.2.1, x1.2.2.2.2.2.2.2.2.2.2.2.2.1, y2.2))))
              else
                (valid_must n (false, 70, e5)).bind (Sum.elim (fun (y16 : Int × Int) =>
                  some (.inr (.inl y16))) (fun (y17 : Unit) =>
                  some (.inl (x1.1, x1.2.1, wrap64 (x1.2.2.1 + 1), x1.2.2.2.1, x1.2.2.2.2.1, x1.2.2.2.2.2.1, x1.2.2.2.2.2.2.1, x1.2.2.2.2.2.2.2.1, x1.2.2.2.2.2.2.2.2.1, x1.2.2.2.2.2.2.2.2.2.1, x1.2.2.2.2.2.2.2.2.2.2.1, x1.2.2.2.2.2.2.2.2.2.2.2.1, x1.2.2.2.2.2.2.2.2.2.2.2.2.1, y2.2))))
            else
              (valid_must n (false, 70, e5)).bind (Sum.elim (fun (y19 : Int × Int) =>
                some (.inr (.inl y19))) (fun (y20 : Unit) =>
                some (.inl (x1.1, x1.2.1, wrap64 (x1.2.2.1 + 1), x1.2.2.2.1, x1.2.2.2.2.1, x1.2.2.2.2.2.1, x1.2.2.2.2.2.2.1, x1.2.2.2.2.2.2.2.1, x1.2.2.2.2.2.2.2.2.1, x1.2.2.2.2.2.2.2.2.2.1, x1.2.2.2.2.2.2.2.2.2.2.1, x1.2.2.2.2.2.2.2.2.2.2.2.1, x1.2.2.2.2.2.2.2.2.2.2.2.2.1, y2.2))))))))
      else
      none
    else
    some (.inr (.inr (x1.2.2.2.1, x1.2.2.2.2.1, x1.2.2.2.2.2.1, x1.2.2.2.2.2.2.1, x1.2.2.2.2.2.2.2.1, x1.2.2.2.2.2.2.2.2.1, x1.2.2.2.2.2.2.2.2.2.1, x1.2.2.2.2.2.2.2.2.2.2.1, x1.2.2.2.2.2.2.2.2.2.2.2.1, x1.2.2.2.2.2.2.2.2.2.2.2.2.1)))) (x0.2.2.1, ((x0.2.2.1.length : Nat) : Int), 0, x0.1, x0.2.1, x0.2.2.1, x0.2.2.2.1, x0.2.2.2.2.1, x0.2.2.2.2.2.1, x0.2.2.2.2.2.2.1, x0.2.2.2.2.2.2.2.1, x0.2.2.2.2.2.2.2.2.1, x0.2.2.2.2.2.2.2.2.2, [])).bind (Sum.elim (fun (z21 : Int × Int) =>
    some (.inl z21)) (fun (z22 : ByteArray × (List (ByteArray × Int × Int × Int × Int × Int × Int × Int × Int × Int × Int)) × (List (ByteArray × ByteArray × Int × Int × Int × Int)) × (List (ByteArray × (List ByteArray) × Int)) × (List (List (Bool × List ByteArray))) × (List (ByteArray × ByteArray × Int)) × Int × (List (ByteArray × Bool)) × (List (ByteArray × Bool)) × List (ByteArray × Int)) =>
    some (.inr z22)))
def p_valid_checker_walks : Plan := .two (.leaf) (.two (.leaf) (.one (.loop ⟨slotsOf 53 [(0, .c (.box 1000000 0)), (2, .c (.row 5)), (10, .c (.hole (.sl 78))), (11, .c (.hole (.int .i64))), (12, .c (.hole (.int .i64)))], [(1000000, 85, [.hole (.str), .hole (.sl 44), .hole (.sl 78), .hole (.sl 42), .hole (.sl 67), .hole (.sl 47), .hole (.int .i64), .row 1000000, .row 1000001, .row 1000002])], [(1000000, 1000116), (1000001, 1000116), (1000002, 1000166), (5, 1000116)]⟩ [(.pan 55, ⟨slotsOf 1 [(0, .agg [.hole (.int .i64), .hole (.int .i64)])], [], []⟩), (.exit 0, ⟨slotsOf 53 [], [(1000000, 85, [.hole (.str), .hole (.sl 44), .hole (.sl 78), .hole (.sl 42), .hole (.sl 67), .hole (.sl 47), .hole (.int .i64), .row 1000000, .row 1000001, .row 1000002])], [(1000000, 1000116), (1000001, 1000116), (1000002, 1000166)]⟩)] (.leaf))))
noncomputable def c_valid_checker_walks (b n : Nat) : Cx := ⟨Go.Proofs.Try.prog, (Θ b), [23], [(23, ⟨h_valid_must, o_valid_must, valid_must n⟩), (24, ⟨h_valid_within, o_valid_within, valid_within n⟩), (25, ⟨h_valid_once, o_valid_once, valid_once n⟩)], [], [], []⟩
theorem d_valid_checker_walks (b n : Nat) (x : h_valid_checker_walks.X T) : denF (c_valid_checker_walks b n) n Go.Proofs.Try.f46 p_valid_checker_walks h_valid_checker_walks o_valid_checker_walks x = valid_checker_walks n x := by kernel_rfl
theorem s_valid_checker_walks (b n : Nat) : PCalls Go.Proofs.Try.prog (Θ b) 46 ⟨h_valid_checker_walks, o_valid_checker_walks, valid_checker_walks n⟩ :=
  func_ok' (C := c_valid_checker_walks b n) (n := n) (p := p_valid_checker_walks) (ok_of mixed eqsOk ⟨s_valid_must b n, s_valid_within b n, s_valid_once b n, trivial⟩ trivial trivial) Go.Proofs.Try.func46 (by kernel_rfl) (by kernel_rfl) (d_valid_checker_walks b n) (by kernel_rfl)
def h_valid_checker_rings : Shape := ⟨slotsOf 1 [(0, .c (.box 1000000 0))], [(1000000, 85, [.hole (.str), .hole (.sl 44), .hole (.sl 78), .hole (.sl 42), .hole (.sl 67), .hole (.sl 47), .hole (.int .i64), .row 1000000, .row 1000001, .row 1000002])], [(1000000, 1000116), (1000001, 1000116), (1000002, 1000166)]⟩
def o_valid_checker_rings : List (Ex × Shape) := [(.pan 55, ⟨slotsOf 1 [(0, .agg [.hole (.int .i64), .hole (.int .i64)])], [], []⟩), (.ret, ⟨slotsOf 0 [], [(1000000, 85, [.hole (.str), .hole (.sl 44), .hole (.sl 78), .hole (.sl 42), .hole (.sl 67), .hole (.sl 47), .hole (.int .i64), .row 1000000, .row 1000001, .row 1000002])], [(1000000, 1000116), (1000001, 1000116), (1000002, 1000166)]⟩)]
def valid_checker_rings (n : Nat) (x0 : ByteArray × (List (ByteArray × Int × Int × Int × Int × Int × Int × Int × Int × Int × Int)) × (List (ByteArray × ByteArray × Int × Int × Int × Int)) × (List (ByteArray × (List ByteArray) × Int)) × (List (List (Bool × List ByteArray))) × (List (ByteArray × ByteArray × Int)) × Int × (List (ByteArray × Bool)) × (List (ByteArray × Bool)) × List (ByteArray × Int)) : Option ((Int × Int) ⊕ (ByteArray × (List (ByteArray × Int × Int × Int × Int × Int × Int × Int × Int × Int × Int)) × (List (ByteArray × ByteArray × Int × Int × Int × Int)) × (List (ByteArray × (List ByteArray) × Int)) × (List (List (Bool × List ByteArray))) × (List (ByteArray × ByteArray × Int)) × Int × (List (ByteArray × Bool)) × (List (ByteArray × Bool)) × List (ByteArray × Int))) :=
  (iterL (Y := (Int × Int) ⊕ (ByteArray × (List (ByteArray × Int × Int × Int × Int × Int × Int × Int × Int × Int × Int)) × (List (ByteArray × ByteArray × Int × Int × Int × Int)) × (List (ByteArray × (List ByteArray) × Int)) × (List (List (Bool × List ByteArray))) × (List (ByteArray × ByteArray × Int)) × Int × (List (ByteArray × Bool)) × (List (ByteArray × Bool)) × (List (ByteArray × Int)) × List (ByteArray × Bool))) n (fun (x1 : Int × (List (List (Bool × List ByteArray))) × Int × Int × ByteArray × (List (ByteArray × Int × Int × Int × Int × Int × Int × Int × Int × Int × Int)) × (List (ByteArray × ByteArray × Int × Int × Int × Int)) × (List (ByteArray × (List ByteArray) × Int)) × (List (List (Bool × List ByteArray))) × (List (ByteArray × ByteArray × Int)) × Int × (List (ByteArray × Bool)) × (List (ByteArray × Bool)) × (List (ByteArray × Int)) × List (ByteArray × Bool)) =>
    let e0 := atI [] x1.2.1 x1.2.2.2.1
    let e1 := ((e0.length : Nat) : Int)
    bif decide (x1.2.2.2.1 < x1.2.2.1) then
      bif inB x1.2.2.2.1 x1.2.1.length then
        letJ (fun (x8 : Int × (List (List (Bool × List ByteArray))) × Int × Int × ByteArray × (List (ByteArray × Int × Int × Int × Int × Int × Int × Int × Int × Int × Int)) × (List (ByteArray × ByteArray × Int × Int × Int × Int)) × (List (ByteArray × (List ByteArray) × Int)) × (List (List (Bool × List ByteArray))) × (List (ByteArray × ByteArray × Int)) × Int × (List (Bool × List ByteArray)) × (List (ByteArray × Bool)) × (List (ByteArray × Bool)) × (List (ByteArray × Int)) × List (ByteArray × Bool)) =>
          (iterL (Y := (Int × Int) ⊕ (Int × (List (List (Bool × List ByteArray))) × Int × Int × ByteArray × (List (ByteArray × Int × Int × Int × Int × Int × Int × Int × Int × Int × Int)) × (List (ByteArray × ByteArray × Int × Int × Int × Int)) × (List (ByteArray × (List ByteArray) × Int)) × (List (List (Bool × List ByteArray))) × (List (ByteArray × ByteArray × Int)) × Int × (List (ByteArray × Bool)) × (List (ByteArray × Bool)) × (List (ByteArray × Int)) × List (ByteArray × Bool))) n (fun (x10 : Int × (List (List (Bool × List ByteArray))) × Int × Int × (List (Bool × List ByteArray)) × Int × Int × ByteArray × (List (ByteArray × Int × Int × Int × Int × Int × Int × Int × Int × Int × Int)) × (List (ByteArray × ByteArray × Int × Int × Int × Int)) × (List (ByteArray × (List ByteArray) × Int)) × (List (List (Bool × List ByteArray))) × (List (ByteArray × ByteArray × Int)) × Int × (List (ByteArray × Bool)) × (List (ByteArray × Bool)) × (List (ByteArray × Int)) × List (ByteArray × Bool)) =>
            let e2 := atI (false, []) x10.2.2.2.2.1 x10.2.2.2.2.2.2.1
            let e3 := e2.2
            let e4 := ((e3.length : Nat) : Int)
            bif decide (x10.2.2.2.2.2.2.1 < x10.2.2.2.2.2.1) then
              bif inB x10.2.2.2.2.2.2.1 x10.2.2.2.2.1.length then
                letJ (fun (x17 : Int × (List (List (Bool × List ByteArray))) × Int × Int × (List (Bool × List ByteArray)) × Int × Int × ByteArray × (List (ByteArray × Int × Int × Int × Int × Int × Int × Int × Int × Int × Int)) × (List (ByteArray × ByteArray × Int × Int × Int × Int)) × (List (ByteArray × (List ByteArray) × Int)) × (List (List (Bool × List ByteArray))) × (List (ByteArray × ByteArray × Int)) × Int × Bool × (List ByteArray) × (List (ByteArray × Bool)) × (List (ByteArray × Bool)) × (List (ByteArray × Int)) × List (ByteArray × Bool)) =>
                  (iterL (Y := (Int × Int) ⊕ (Int × (List (List (Bool × List ByteArray))) × Int × Int × (List (Bool × List ByteArray)) × Int × Int × ByteArray × (List (ByteArray × Int × Int × Int × Int × Int × Int × Int × Int × Int × Int)) × (List (ByteArray × ByteArray × Int × Int × Int × Int)) × (List (ByteArray × (List ByteArray) × Int)) × (List (List (Bool × List ByteArray))) × (List (ByteArray × ByteArray × Int)) × Int × (List (ByteArray × Bool)) × (List (ByteArray × Bool)) × (List (ByteArray × Int)) × List (ByteArray × Bool))) n (fun (x19 : Int × (List (List (Bool × List ByteArray))) × Int × Int × (List (Bool × List ByteArray)) × Int × Int × (List ByteArray) × Int × Int × ByteArray × (List (ByteArray × Int × Int × Int × Int × Int × Int × Int × Int × Int × Int)) × (List (ByteArray × ByteArray × Int × Int × Int × Int)) × (List (ByteArray × (List ByteArray) × Int)) × (List (List (Bool × List ByteArray))) × (List (ByteArray × ByteArray × Int)) × Int × (List (ByteArray × Bool)) × (List (ByteArray × Bool)) × (List (ByteArray × Int)) × List (ByteArray × Bool)) =>
                    let e5 := atI (ByteArray.mk #[]) x19.2.2.2.2.2.2.2.1 x19.2.2.2.2.2.2.2.2.2.1
                    bif decide (x19.2.2.2.2.2.2.2.2.2.1 < x19.2.2.2.2.2.2.2.2.1) then
                      bif inB x19.2.2.2.2.2.2.2.2.2.1 x19.2.2.2.2.2.2.2.1.length then
                        (valid_must n ((mfind e5 (e5, false) x19.2.2.2.2.2.2.2.2.2.2.2.2.2.2.2.2.2.2.1).2, 72, x19.1)).bind (Sum.elim (fun (y21 : Int × Int) =>
                          some (.inr (.inl y21))) (fun (y22 : Unit) =>
                          (valid_once n (e5, x19.2.2.2.2.2.2.2.2.2.2.2.2.2.2.2.2.2.2.2.2)).bind fun y23 =>
                          (valid_must n (y23.1, 71, x19.1)).bind (Sum.elim (fun (y25 : Int × Int) =>
                            some (.inr (.inl y25))) (fun (y26 : Unit) =>
                            some (.inl (x19.1, x19.2.1, x19.2.2.1, x19.2.2.2.1, x19.2.2.2.2.1, x19.2.2.2.2.2.1, x19.2.2.2.2.2.2.1, x19.2.2.2.2.2.2.2.1, x19.2.2.2.2.2.2.2.2.1, wrap64 (x19.2.2.2.2.2.2.2.2.2.1 + 1), x19.2.2.2.2.2.2.2.2.2.2.1, x19.2.2.2.2.2.2.2.2.2.2.2.1, x19.2.2.2.2.2.2.2.2.2.2.2.2.1, x19.2.2.2.2.2.2.2.2.2.2.2.2.2.1, x19.2.2.2.2.2.2.2.2.2.2.2.2.2.2.1, x19.2.2.2.2.2.2.2.2.2.2.2.2.2.2.2.1, x19.2.2.2.2.2.2.2.2.2.2.2.2.2.2.2.2.1, x19.2.2.2.2.2.2.2.2.2.2.2.2.2.2.2.2.2.1, x19.2.2.2.2.2.2.2.2.2.2.2.2.2.2.2.2.2.2.1, x19.2.2.2.2.2.2.2.2.2.2.2.2.2.2.2.2.2.2.2.1, y23.2))))))
                      else
                      none
                    else
                    some (.inr (.inr (x19.1, x19.2.1, x19.2.2.1, x19.2.2.2.1, x19.2.2.2.2.1, x19.2.2.2.2.2.1, x19.2.2.2.2.2.2.1, x19.2.2.2.2.2.2.2.2.2.2)))) (x17.1, x17.2.1, x17.2.2.1, x17.2.2.2.1, x17.2.2.2.2.1, x17.2.2.2.2.2.1, x17.2.2.2.2.2.2.1, x17.2.2.2.2.2.2.2.2.2.2.2.2.2.2.2.1, ((x17.2.2.2.2.2.2.2.2.2.2.2.2.2.2.2.1.length : Nat) : Int), 0, x17.2.2.2.2.2.2.2.1, x17.2.2.2.2.2.2.2.2.1, x17.2.2.2.2.2.2.2.2.2.1, x17.2.2.2.2.2.2.2.2.2.2.1, x17.2.2.2.2.2.2.2.2.2.2.2.1, x17.2.2.2.2.2.2.2.2.2.2.2.2.1, x17.2.2.2.2.2.2.2.2.2.2.2.2.2.1, x17.2.2.2.2.2.2.2.2.2.2.2.2.2.2.2.2)).bind (Sum.elim (fun (z27 : Int × Int) =>
                    some (.inr (.inl z27))) (fun (z28 : Int × (List (List (Bool × List ByteArray))) × Int × Int × (List (Bool × List ByteArray)) × Int × Int × ByteArray × (List (ByteArray × Int × Int × Int × Int × Int × Int × Int × Int × Int × Int)) × (List (ByteArray × ByteArray × Int × Int × Int × Int)) × (List (ByteArray × (List ByteArray) × Int)) × (List (List (Bool × List ByteArray))) × (List (ByteArray × ByteArray × Int)) × Int × (List (ByteArray × Bool)) × (List (ByteArray × Bool)) × (List (ByteArray × Int)) × List (ByteArray × Bool)) =>
                    some (.inl (z28.1, z28.2.1, z28.2.2.1, z28.2.2.2.1, z28.2.2.2.2.1, z28.2.2.2.2.2.1, wrap64 (z28.2.2.2.2.2.2.1 + 1), z28.2.2.2.2.2.2.2))))) fun J18 =>
                bif decide (0 < e4) then
                  (valid_must n (decide (e4 ≤ 4), 74, x10.1)).bind (Sum.elim (fun (y12 : Int × Int) =>
                    some (.inr (.inl y12))) (fun (y13 : Unit) =>
                    J18 (x10.1, x10.2.1, x10.2.2.1, x10.2.2.2.1, x10.2.2.2.2.1, x10.2.2.2.2.2.1, x10.2.2.2.2.2.2.1, x10.2.2.2.2.2.2.2.1, x10.2.2.2.2.2.2.2.2.1, x10.2.2.2.2.2.2.2.2.2.1, x10.2.2.2.2.2.2.2.2.2.2.1, x10.2.2.2.2.2.2.2.2.2.2.2.1, x10.2.2.2.2.2.2.2.2.2.2.2.2.1, x10.2.2.2.2.2.2.2.2.2.2.2.2.2.1, e2.1, e3, x10.2.2.2.2.2.2.2.2.2.2.2.2.2.2)))
                else
                  (valid_must n (false, 74, x10.1)).bind (Sum.elim (fun (y15 : Int × Int) =>
                    some (.inr (.inl y15))) (fun (y16 : Unit) =>
                    J18 (x10.1, x10.2.1, x10.2.2.1, x10.2.2.2.1, x10.2.2.2.2.1, x10.2.2.2.2.2.1, x10.2.2.2.2.2.2.1, x10.2.2.2.2.2.2.2.1, x10.2.2.2.2.2.2.2.2.1, x10.2.2.2.2.2.2.2.2.2.1, x10.2.2.2.2.2.2.2.2.2.2.1, x10.2.2.2.2.2.2.2.2.2.2.2.1, x10.2.2.2.2.2.2.2.2.2.2.2.2.1, x10.2.2.2.2.2.2.2.2.2.2.2.2.2.1, e2.1, e3, x10.2.2.2.2.2.2.2.2.2.2.2.2.2.2)))
              else
              none
            else
            some (.inr (.inr (x10.1, x10.2.1, x10.2.2.1, x10.2.2.2.1, x10.2.2.2.2.2.2.2)))) (x8.1, x8.2.1, x8.2.2.1, x8.2.2.2.1, x8.2.2.2.2.2.2.2.2.2.2.2.1, ((x8.2.2.2.2.2.2.2.2.2.2.2.1.length : Nat) : Int), 0, x8.2.2.2.2.1, x8.2.2.2.2.2.1, x8.2.2.2.2.2.2.1, x8.2.2.2.2.2.2.2.1, x8.2.2.2.2.2.2.2.2.1, x8.2.2.2.2.2.2.2.2.2.1, x8.2.2.2.2.2.2.2.2.2.2.1, x8.2.2.2.2.2.2.2.2.2.2.2.2)).bind (Sum.elim (fun (z29 : Int × Int) =>
            some (.inr (.inl z29))) (fun (z30 : Int × (List (List (Bool × List ByteArray))) × Int × Int × ByteArray × (List (ByteArray × Int × Int × Int × Int × Int × Int × Int × Int × Int × Int)) × (List (ByteArray × ByteArray × Int × Int × Int × Int)) × (List (ByteArray × (List ByteArray) × Int)) × (List (List (Bool × List ByteArray))) × (List (ByteArray × ByteArray × Int)) × Int × (List (ByteArray × Bool)) × (List (ByteArray × Bool)) × (List (ByteArray × Int)) × List (ByteArray × Bool)) =>
            some (.inl (z30.1, z30.2.1, z30.2.2.1, wrap64 (z30.2.2.2.1 + 1), z30.2.2.2.2))))) fun J9 =>
        bif decide (0 < e1) then
          (valid_must n (decide (e1 ≤ 2), 74, x1.1)).bind (Sum.elim (fun (y3 : Int × Int) =>
            some (.inr (.inl y3))) (fun (y4 : Unit) =>
            J9 (x1.1, x1.2.1, x1.2.2.1, x1.2.2.2.1, x1.2.2.2.2.1, x1.2.2.2.2.2.1, x1.2.2.2.2.2.2.1, x1.2.2.2.2.2.2.2.1, x1.2.2.2.2.2.2.2.2.1, x1.2.2.2.2.2.2.2.2.2.1, x1.2.2.2.2.2.2.2.2.2.2.1, e0, x1.2.2.2.2.2.2.2.2.2.2.2)))
        else
          (valid_must n (false, 74, x1.1)).bind (Sum.elim (fun (y6 : Int × Int) =>
            some (.inr (.inl y6))) (fun (y7 : Unit) =>
            J9 (x1.1, x1.2.1, x1.2.2.1, x1.2.2.2.1, x1.2.2.2.2.1, x1.2.2.2.2.2.1, x1.2.2.2.2.2.2.1, x1.2.2.2.2.2.2.2.1, x1.2.2.2.2.2.2.2.2.1, x1.2.2.2.2.2.2.2.2.2.1, x1.2.2.2.2.2.2.2.2.2.2.1, e0, x1.2.2.2.2.2.2.2.2.2.2.2)))
      else
      none
    else
    some (.inr (.inr x1.2.2.2.2))) (x0.2.2.2.2.2.2.1, x0.2.2.2.2.1, ((x0.2.2.2.2.1.length : Nat) : Int), 0, x0.1, x0.2.1, x0.2.2.1, x0.2.2.2.1, x0.2.2.2.2.1, x0.2.2.2.2.2.1, x0.2.2.2.2.2.2.1, x0.2.2.2.2.2.2.2.1, x0.2.2.2.2.2.2.2.2.1, x0.2.2.2.2.2.2.2.2.2, [])).bind (Sum.elim (fun (z31 : Int × Int) =>
    some (.inl z31)) (fun (z32 : ByteArray × (List (ByteArray × Int × Int × Int × Int × Int × Int × Int × Int × Int × Int)) × (List (ByteArray × ByteArray × Int × Int × Int × Int)) × (List (ByteArray × (List ByteArray) × Int)) × (List (List (Bool × List ByteArray))) × (List (ByteArray × ByteArray × Int)) × Int × (List (ByteArray × Bool)) × (List (ByteArray × Bool)) × (List (ByteArray × Int)) × List (ByteArray × Bool)) =>
    (iterL (Y := (Int × Int) ⊕ (ByteArray × (List (ByteArray × Int × Int × Int × Int × Int × Int × Int × Int × Int × Int)) × (List (ByteArray × ByteArray × Int × Int × Int × Int)) × (List (ByteArray × (List ByteArray) × Int)) × (List (List (Bool × List ByteArray))) × (List (ByteArray × ByteArray × Int)) × Int × (List (ByteArray × Bool)) × (List (ByteArray × Bool)) × List (ByteArray × Int))) n (fun (x33 : (List (ByteArray × (List ByteArray) × Int)) × Int × Int × ByteArray × (List (ByteArray × Int × Int × Int × Int × Int × Int × Int × Int × Int × Int)) × (List (ByteArray × ByteArray × Int × Int × Int × Int)) × (List (ByteArray × (List ByteArray) × Int)) × (List (List (Bool × List ByteArray))) × (List (ByteArray × ByteArray × Int)) × Int × (List (ByteArray × Bool)) × (List (ByteArray × Bool)) × (List (ByteArray × Int)) × List (ByteArray × Bool)) =>
      let e6 := atI (ByteArray.mk #[], [], 0) x33.1 x33.2.2.1
      let e7 := e6.1
      bif decide (x33.2.2.1 < x33.2.1) then
        bif inB x33.2.2.1 x33.1.length then
          (valid_must n ((mfind e7 (e7, false) x33.2.2.2.2.2.2.2.2.2.2.2.2.2).2, 74, e6.2.2)).bind (Sum.elim (fun (y35 : Int × Int) =>
            some (.inr (.inl y35))) (fun (y36 : Unit) =>
            some (.inl (x33.1, x33.2.1, wrap64 (x33.2.2.1 + 1), x33.2.2.2))))
        else
        none
      else
      some (.inr (.inr (x33.2.2.2.1, x33.2.2.2.2.1, x33.2.2.2.2.2.1, x33.2.2.2.2.2.2.1, x33.2.2.2.2.2.2.2.1, x33.2.2.2.2.2.2.2.2.1, x33.2.2.2.2.2.2.2.2.2.1, x33.2.2.2.2.2.2.2.2.2.2.1, x33.2.2.2.2.2.2.2.2.2.2.2.1, x33.2.2.2.2.2.2.2.2.2.2.2.2.1)))) (z32.2.2.2.1, ((z32.2.2.2.1.length : Nat) : Int), 0, z32)).bind (Sum.elim (fun (z37 : Int × Int) =>
      some (.inl z37)) (fun (z38 : ByteArray × (List (ByteArray × Int × Int × Int × Int × Int × Int × Int × Int × Int × Int)) × (List (ByteArray × ByteArray × Int × Int × Int × Int)) × (List (ByteArray × (List ByteArray) × Int)) × (List (List (Bool × List ByteArray))) × (List (ByteArray × ByteArray × Int)) × Int × (List (ByteArray × Bool)) × (List (ByteArray × Bool)) × List (ByteArray × Int)) =>
      some (.inr z38)))))
def p_valid_checker_rings : Plan := .two (.leaf) (.two (.leaf) (.two (.two (.leaf) (.one (.loop ⟨slotsOf 100 [(0, .c (.box 1000000 0)), (2, .c (.row 12)), (3, .c (.hole (.int .i64))), (22, .c (.hole (.sl 67))), (23, .c (.hole (.int .i64))), (24, .c (.hole (.int .i64)))], [(1000000, 85, [.hole (.str), .hole (.sl 44), .hole (.sl 78), .hole (.sl 42), .hole (.sl 67), .hole (.sl 47), .hole (.int .i64), .row 1000000, .row 1000001, .row 1000002])], [(1000000, 1000116), (1000001, 1000116), (1000002, 1000166), (12, 1000116)]⟩ [(.pan 55, ⟨slotsOf 1 [(0, .agg [.hole (.int .i64), .hole (.int .i64)])], [], []⟩), (.exit 0, ⟨slotsOf 100 [(0, .c (.box 1000000 0)), (2, .c (.row 12))], [(1000000, 85, [.hole (.str), .hole (.sl 44), .hole (.sl 78), .hole (.sl 42), .hole (.sl 67), .hole (.sl 47), .hole (.int .i64), .row 1000000, .row 1000001, .row 1000002])], [(1000000, 1000116), (1000001, 1000116), (1000002, 1000166), (12, 1000116)]⟩)] (.two (.leaf) (.two (.leaf) (.two (.one (.two (.leaf) (.two (.join ⟨slotsOf 100 [(0, .c (.box 1000000 0)), (2, .c (.row 12)), (3, .c (.hole (.int .i64))), (5, .c (.box 5 0)), (22, .c (.hole (.sl 67))), (23, .c (.hole (.int .i64))), (24, .c (.hole (.int .i64)))], [(1000000, 85, [.hole (.str), .hole (.sl 44), .hole (.sl 78), .hole (.sl 42), .hole (.sl 67), .hole (.sl 47), .hole (.int .i64), .row 1000000, .row 1000001, .row 1000002]), (5, 67, [.hole (.sl 69)])], [(1000000, 1000116), (1000001, 1000116), (1000002, 1000166), (12, 1000116)]⟩ (.leaf)) (.two (.leaf) (.one (.loop ⟨slotsOf 100 [(0, .c (.box 1000000 0)), (2, .c (.row 12)), (3, .c (.hole (.int .i64))), (22, .c (.hole (.sl 67))), (23, .c (.hole (.int .i64))), (24, .c (.hole (.int .i64))), (41, .c (.hole (.sl 69))), (42, .c (.hole (.int .i64))), (43, .c (.hole (.int .i64)))], [(1000000, 85, [.hole (.str), .hole (.sl 44), .hole (.sl 78), .hole (.sl 42), .hole (.sl 67), .hole (.sl 47), .hole (.int .i64), .row 1000000, .row 1000001, .row 1000002])], [(1000000, 1000116), (1000001, 1000116), (1000002, 1000166), (12, 1000116)]⟩ [(.pan 55, ⟨slotsOf 1 [(0, .agg [.hole (.int .i64), .hole (.int .i64)])], [], []⟩), (.exit 2, ⟨slotsOf 100 [(0, .c (.box 1000000 0)), (2, .c (.row 12)), (3, .c (.hole (.int .i64))), (22, .c (.hole (.sl 67))), (23, .c (.hole (.int .i64))), (24, .c (.hole (.int .i64)))], [(1000000, 85, [.hole (.str), .hole (.sl 44), .hole (.sl 78), .hole (.sl 42), .hole (.sl 67), .hole (.sl 47), .hole (.int .i64), .row 1000000, .row 1000001, .row 1000002])], [(1000000, 1000116), (1000001, 1000116), (1000002, 1000166), (12, 1000116)]⟩)] (.two (.leaf) (.two (.leaf) (.two (.one (.two (.leaf) (.two (.join ⟨slotsOf 100 [(0, .c (.box 1000000 0)), (2, .c (.row 12)), (3, .c (.hole (.int .i64))), (7, .c (.box 7 0)), (22, .c (.hole (.sl 67))), (23, .c (.hole (.int .i64))), (24, .c (.hole (.int .i64))), (41, .c (.hole (.sl 69))), (42, .c (.hole (.int .i64))), (43, .c (.hole (.int .i64)))], [(1000000, 85, [.hole (.str), .hole (.sl 44), .hole (.sl 78), .hole (.sl 42), .hole (.sl 67), .hole (.sl 47), .hole (.int .i64), .row 1000000, .row 1000001, .row 1000002]), (7, 69, [.hole (.bool), .hole (.sl 9)])], [(1000000, 1000116), (1000001, 1000116), (1000002, 1000166), (12, 1000116)]⟩ (.leaf)) (.two (.leaf) (.one (.loop ⟨slotsOf 100 [(0, .c (.box 1000000 0)), (2, .c (.row 12)), (3, .c (.hole (.int .i64))), (22, .c (.hole (.sl 67))), (23, .c (.hole (.int .i64))), (24, .c (.hole (.int .i64))), (41, .c (.hole (.sl 69))), (42, .c (.hole (.int .i64))), (43, .c (.hole (.int .i64))), (60, .c (.hole (.sl 9))), (61, .c (.hole (.int .i64))), (62, .c (.hole (.int .i64)))], [(1000000, 85, [.hole (.str), .hole (.sl 44), .hole (.sl 78), .hole (.sl 42), .hole (.sl 67), .hole (.sl 47), .hole (.int .i64), .row 1000000, .row 1000001, .row 1000002])], [(1000000, 1000116), (1000001, 1000116), (1000002, 1000166), (12, 1000116)]⟩ [(.pan 55, ⟨slotsOf 1 [(0, .agg [.hole (.int .i64), .hole (.int .i64)])], [], []⟩), (.exit 4, ⟨slotsOf 100 [(0, .c (.box 1000000 0)), (2, .c (.row 12)), (3, .c (.hole (.int .i64))), (22, .c (.hole (.sl 67))), (23, .c (.hole (.int .i64))), (24, .c (.hole (.int .i64))), (41, .c (.hole (.sl 69))), (42, .c (.hole (.int .i64))), (43, .c (.hole (.int .i64)))], [(1000000, 85, [.hole (.str), .hole (.sl 44), .hole (.sl 78), .hole (.sl 42), .hole (.sl 67), .hole (.sl 47), .hole (.int .i64), .row 1000000, .row 1000001, .row 1000002])], [(1000000, 1000116), (1000001, 1000116), (1000002, 1000166), (12, 1000116)]⟩)] (.leaf))))))) (.leaf)))))))))) (.leaf))))))) (.two (.leaf) (.one (.loop ⟨slotsOf 100 [(2, .c (.row 12)), (86, .c (.hole (.sl 42))), (87, .c (.hole (.int .i64))), (88, .c (.hole (.int .i64)))], [(1000000, 85, [.hole (.str), .hole (.sl 44), .hole (.sl 78), .hole (.sl 42), .hole (.sl 67), .hole (.sl 47), .hole (.int .i64), .row 1000000, .row 1000001, .row 1000002])], [(1000000, 1000116), (1000001, 1000116), (1000002, 1000166), (12, 1000116)]⟩ [(.pan 55, ⟨slotsOf 1 [(0, .agg [.hole (.int .i64), .hole (.int .i64)])], [], []⟩), (.exit 6, ⟨slotsOf 100 [], [(1000000, 85, [.hole (.str), .hole (.sl 44), .hole (.sl 78), .hole (.sl 42), .hole (.sl 67), .hole (.sl 47), .hole (.int .i64), .row 1000000, .row 1000001, .row 1000002])], [(1000000, 1000116), (1000001, 1000116), (1000002, 1000166)]⟩)] (.leaf))))))
noncomputable def c_valid_checker_rings (b n : Nat) : Cx := ⟨Go.Proofs.Try.prog, (Θ b), [23], [(23, ⟨h_valid_must, o_valid_must, valid_must n⟩), (25, ⟨h_valid_once, o_valid_once, valid_once n⟩)], [], [], []⟩
theorem d_valid_checker_rings (b n : Nat) (x : h_valid_checker_rings.X T) : denF (c_valid_checker_rings b n) n Go.Proofs.Try.f47 p_valid_checker_rings h_valid_checker_rings o_valid_checker_rings x = valid_checker_rings n x := by kernel_rfl
theorem s_valid_checker_rings (b n : Nat) : PCalls Go.Proofs.Try.prog (Θ b) 47 ⟨h_valid_checker_rings, o_valid_checker_rings, valid_checker_rings n⟩ :=
  func_ok' (C := c_valid_checker_rings b n) (n := n) (p := p_valid_checker_rings) (ok_of mixed eqsOk ⟨s_valid_must b n, s_valid_once b n, trivial⟩ trivial trivial) Go.Proofs.Try.func47 (by kernel_rfl) (by kernel_rfl) (d_valid_checker_rings b n) (by kernel_rfl)
def h_valid_checker_foes : Shape := ⟨slotsOf 1 [(0, .c (.box 1000000 0))], [(1000000, 85, [.hole (.str), .hole (.sl 44), .hole (.sl 78), .hole (.sl 42), .hole (.sl 67), .hole (.sl 47), .hole (.int .i64), .row 1000000, .row 1000001, .row 1000002])], [(1000000, 1000116), (1000001, 1000116), (1000002, 1000166)]⟩
def o_valid_checker_foes : List (Ex × Shape) := [(.pan 55, ⟨slotsOf 1 [(0, .agg [.hole (.int .i64), .hole (.int .i64)])], [], []⟩), (.ret, ⟨slotsOf 0 [], [(1000000, 85, [.hole (.str), .hole (.sl 44), .hole (.sl 78), .hole (.sl 42), .hole (.sl 67), .hole (.sl 47), .hole (.int .i64), .row 1000000, .row 1000001, .row 1000002])], [(1000000, 1000116), (1000001, 1000116), (1000002, 1000166)]⟩)]
def valid_checker_foes (n : Nat) (x0 : ByteArray × (List (ByteArray × Int × Int × Int × Int × Int × Int × Int × Int × Int × Int)) × (List (ByteArray × ByteArray × Int × Int × Int × Int)) × (List (ByteArray × (List ByteArray) × Int)) × (List (List (Bool × List ByteArray))) × (List (ByteArray × ByteArray × Int)) × Int × (List (ByteArray × Bool)) × (List (ByteArray × Bool)) × List (ByteArray × Int)) : Option ((Int × Int) ⊕ (ByteArray × (List (ByteArray × Int × Int × Int × Int × Int × Int × Int × Int × Int × Int)) × (List (ByteArray × ByteArray × Int × Int × Int × Int)) × (List (ByteArray × (List ByteArray) × Int)) × (List (List (Bool × List ByteArray))) × (List (ByteArray × ByteArray × Int)) × Int × (List (ByteArray × Bool)) × (List (ByteArray × Bool)) × List (ByteArray × Int))) :=
  (iterL (Y := (Int × Int) ⊕ (ByteArray × (List (ByteArray × Int × Int × Int × Int × Int × Int × Int × Int × Int × Int)) × (List (ByteArray × ByteArray × Int × Int × Int × Int)) × (List (ByteArray × (List ByteArray) × Int)) × (List (List (Bool × List ByteArray))) × (List (ByteArray × ByteArray × Int)) × Int × (List (ByteArray × Bool)) × (List (ByteArray × Bool)) × List (ByteArray × Int))) n (fun (x1 : (List (ByteArray × ByteArray × Int)) × Int × Int × ByteArray × (List (ByteArray × Int × Int × Int × Int × Int × Int × Int × Int × Int × Int)) × (List (ByteArray × ByteArray × Int × Int × Int × Int)) × (List (ByteArray × (List ByteArray) × Int)) × (List (List (Bool × List ByteArray))) × (List (ByteArray × ByteArray × Int)) × Int × (List (ByteArray × Bool)) × (List (ByteArray × Bool)) × List (ByteArray × Int)) =>
    let e0 := atI (ByteArray.mk #[], ByteArray.mk #[], 0) x1.1 x1.2.2.1
    let e1 := e0.2
    let e2 := e0.2.1
    let e3 := e0.2.2
    let e4 := e0.1
    bif decide (x1.2.2.1 < x1.2.1) then
      bif inB x1.2.2.1 x1.1.length then
        letJ (fun (x8 : (List (ByteArray × ByteArray × Int)) × Int × Int × ByteArray × (List (ByteArray × Int × Int × Int × Int × Int × Int × Int × Int × Int × Int)) × (List (ByteArray × ByteArray × Int × Int × Int × Int)) × (List (ByteArray × (List ByteArray) × Int)) × (List (List (Bool × List ByteArray))) × (List (ByteArray × ByteArray × Int)) × Int × ByteArray × ByteArray × Int × (List (ByteArray × Bool)) × (List (ByteArray × Bool)) × List (ByteArray × Int)) =>
          (valid_must n (!((mfind x8.2.2.2.2.2.2.2.2.2.2.1 (x8.2.2.2.2.2.2.2.2.2.2.1, 0) x8.2.2.2.2.2.2.2.2.2.2.2.2.2.2.2).2 == (mfind x8.2.2.2.2.2.2.2.2.2.2.2.1 (x8.2.2.2.2.2.2.2.2.2.2.2.1, 0) x8.2.2.2.2.2.2.2.2.2.2.2.2.2.2.2).2), 75, x8.2.2.2.2.2.2.2.2.2.2.2.2.1)).bind (Sum.elim (fun (y11 : Int × Int) =>
            some (.inr (.inl y11))) (fun (y12 : Unit) =>
            some (.inl (x8.1, x8.2.1, wrap64 (x8.2.2.1 + 1), x8.2.2.2.1, x8.2.2.2.2.1, x8.2.2.2.2.2.1, x8.2.2.2.2.2.2.1, x8.2.2.2.2.2.2.2.1, x8.2.2.2.2.2.2.2.2.1, x8.2.2.2.2.2.2.2.2.2.1, x8.2.2.2.2.2.2.2.2.2.2.2.2.2))))) fun J9 =>
        bif (mfind e4 (e4, false) x1.2.2.2.2.2.2.2.2.2.2.1).2 then
          (valid_must n ((mfind e2 (e2, false) x1.2.2.2.2.2.2.2.2.2.2.1).2, 72, e3)).bind (Sum.elim (fun (y3 : Int × Int) =>
            some (.inr (.inl y3))) (fun (y4 : Unit) =>
            J9 (x1.1, x1.2.1, x1.2.2.1, x1.2.2.2.1, x1.2.2.2.2.1, x1.2.2.2.2.2.1, x1.2.2.2.2.2.2.1, x1.2.2.2.2.2.2.2.1, x1.2.2.2.2.2.2.2.2.1, x1.2.2.2.2.2.2.2.2.2.1, e4, e2, e3, x1.2.2.2.2.2.2.2.2.2.2)))
        else
          (valid_must n (false, 72, e3)).bind (Sum.elim (fun (y6 : Int × Int) =>
            some (.inr (.inl y6))) (fun (y7 : Unit) =>
            J9 (x1.1, x1.2.1, x1.2.2.1, x1.2.2.2.1, x1.2.2.2.2.1, x1.2.2.2.2.2.1, x1.2.2.2.2.2.2.1, x1.2.2.2.2.2.2.2.1, x1.2.2.2.2.2.2.2.2.1, x1.2.2.2.2.2.2.2.2.2.1, e4, e2, e3, x1.2.2.2.2.2.2.2.2.2.2)))
      else
      none
    else
    some (.inr (.inr x1.2.2.2))) (x0.2.2.2.2.2.1, ((x0.2.2.2.2.2.1.length : Nat) : Int), 0, x0)).bind (Sum.elim (fun (z13 : Int × Int) =>
    some (.inl z13)) (fun (z14 : ByteArray × (List (ByteArray × Int × Int × Int × Int × Int × Int × Int × Int × Int × Int)) × (List (ByteArray × ByteArray × Int × Int × Int × Int)) × (List (ByteArray × (List ByteArray) × Int)) × (List (List (Bool × List ByteArray))) × (List (ByteArray × ByteArray × Int)) × Int × (List (ByteArray × Bool)) × (List (ByteArray × Bool)) × List (ByteArray × Int)) =>
    some (.inr z14)))
def p_valid_checker_foes : Plan := .two (.leaf) (.one (.loop ⟨slotsOf 52 [(0, .c (.box 1000000 0)), (8, .c (.hole (.sl 47))), (9, .c (.hole (.int .i64))), (10, .c (.hole (.int .i64)))], [(1000000, 85, [.hole (.str), .hole (.sl 44), .hole (.sl 78), .hole (.sl 42), .hole (.sl 67), .hole (.sl 47), .hole (.int .i64), .row 1000000, .row 1000001, .row 1000002])], [(1000000, 1000116), (1000001, 1000116), (1000002, 1000166)]⟩ [(.pan 55, ⟨slotsOf 1 [(0, .agg [.hole (.int .i64), .hole (.int .i64)])], [], []⟩), (.exit 0, ⟨slotsOf 52 [], [(1000000, 85, [.hole (.str), .hole (.sl 44), .hole (.sl 78), .hole (.sl 42), .hole (.sl 67), .hole (.sl 47), .hole (.int .i64), .row 1000000, .row 1000001, .row 1000002])], [(1000000, 1000116), (1000001, 1000116), (1000002, 1000166)]⟩)] (.two (.leaf) (.two (.leaf) (.two (.one (.two (.leaf) (.two (.join ⟨slotsOf 52 [(0, .c (.box 1000000 0)), (3, .c (.box 3 0)), (8, .c (.hole (.sl 47))), (9, .c (.hole (.int .i64))), (10, .c (.hole (.int .i64)))], [(1000000, 85, [.hole (.str), .hole (.sl 44), .hole (.sl 78), .hole (.sl 42), .hole (.sl 67), .hole (.sl 47), .hole (.int .i64), .row 1000000, .row 1000001, .row 1000002]), (3, 47, [.hole (.str), .hole (.str), .hole (.int .i64)])], [(1000000, 1000116), (1000001, 1000116), (1000002, 1000166)]⟩ (.leaf)) (.leaf)))) (.leaf))))))
noncomputable def c_valid_checker_foes (b n : Nat) : Cx := ⟨Go.Proofs.Try.prog, (Θ b), [23], [(23, ⟨h_valid_must, o_valid_must, valid_must n⟩)], [], [], []⟩
theorem d_valid_checker_foes (b n : Nat) (x : h_valid_checker_foes.X T) : denF (c_valid_checker_foes b n) n Go.Proofs.Try.f48 p_valid_checker_foes h_valid_checker_foes o_valid_checker_foes x = valid_checker_foes n x := by kernel_rfl
theorem s_valid_checker_foes (b n : Nat) : PCalls Go.Proofs.Try.prog (Θ b) 48 ⟨h_valid_checker_foes, o_valid_checker_foes, valid_checker_foes n⟩ :=
  func_ok' (C := c_valid_checker_foes b n) (n := n) (p := p_valid_checker_foes) (ok_of mixed eqsOk ⟨s_valid_must b n, trivial⟩ trivial trivial) Go.Proofs.Try.func48 (by kernel_rfl) (by kernel_rfl) (d_valid_checker_foes b n) (by kernel_rfl)
end Go.Proofs.Ytbcejiobmeglgaa.Fn
