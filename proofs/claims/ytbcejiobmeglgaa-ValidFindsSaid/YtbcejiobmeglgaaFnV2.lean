/- Functions of the program, each as a plain function, and that the machine does what it says. -/
import Derived.Test.YtbcejiobmeglgaaFnV1
namespace Go.Proofs.Ytbcejiobmeglgaa.Fn
set_option linter.unusedVariables false
set_option maxRecDepth 100000
open Go Go.RowKit Go.Den
def h_slices_Index_string : Shape := ⟨slotsOf 2 [(0, .c (.hole (.sl 9))), (1, .c (.hole (.str)))], [], []⟩
def o_slices_Index_string : List (Ex × Shape) := [(.ret, ⟨slotsOf 1 [(0, .c (.hole (.int .i64)))], [], []⟩)]
def slices_Index_string (n : Nat) (x0 : (List ByteArray) × ByteArray) : Option (Int) :=
  (iterL (Y := (Int) ⊕ (Unit)) n (fun (x1 : (List ByteArray) × ByteArray × Int × Int) =>
    bif decide (x1.2.2.2 < x1.2.2.1) then
      bif inB x1.2.2.2 x1.1.length then
        bif strEq x1.2.1 (atI (ByteArray.mk #[]) x1.1 x1.2.2.2) then
          some (.inr (.inl x1.2.2.2))
        else
        some (.inl (x1.1, x1.2.1, x1.2.2.1, wrap64 (x1.2.2.2 + 1)))
      else
      none
    else
    some (.inr (.inr ()))) (x0.1, x0.2, ((x0.1.length : Nat) : Int), 0)).bind (Sum.elim (fun (z2 : Int) =>
    some z2) (fun (z3 : Unit) =>
    some (-1)))
def p_slices_Index_string : Plan := .two (.leaf) (.two (.two (.leaf) (.one (.loop ⟨slotsOf 19 [(0, .c (.hole (.sl 9))), (1, .c (.hole (.str))), (7, .c (.hole (.int .i64))), (8, .c (.hole (.int .i64)))], [], []⟩ [(.ret, ⟨slotsOf 19 [(4, .c (.hole (.int .i64)))], [], []⟩), (.exit 0, ⟨slotsOf 19 [], [], []⟩)] (.leaf)))) (.leaf))
noncomputable def c_slices_Index_string (b n : Nat) : Cx := ⟨Go.Proofs.Try.prog, (Θ b), [23], [], [], [], []⟩
theorem d_slices_Index_string (b n : Nat) (x : h_slices_Index_string.X T) : denF (c_slices_Index_string b n) n Go.Proofs.Try.f55 p_slices_Index_string h_slices_Index_string o_slices_Index_string x = slices_Index_string n x := by kernel_rfl
theorem s_slices_Index_string (b n : Nat) : PCalls Go.Proofs.Try.prog (Θ b) 55 ⟨h_slices_Index_string, o_slices_Index_string, slices_Index_string n⟩ :=
  func_ok' (C := c_slices_Index_string b n) (n := n) (p := p_slices_Index_string) (ok_of mixed eqsOk trivial trivial trivial) Go.Proofs.Try.func55 (by kernel_rfl) (by kernel_rfl) (d_slices_Index_string b n) (by kernel_rfl)
def h_slices_Contains_string : Shape := ⟨slotsOf 2 [(0, .c (.hole (.sl 9))), (1, .c (.hole (.str)))], [], []⟩
def o_slices_Contains_string : List (Ex × Shape) := [(.ret, ⟨slotsOf 1 [(0, .c (.hole (.bool)))], [], []⟩)]
def slices_Contains_string (n : Nat) (x0 : (List ByteArray) × ByteArray) : Option (Bool) :=
  (slices_Index_string n x0).bind fun y1 =>
  some (decide (0 ≤ y1))
def p_slices_Contains_string : Plan := .leaf
noncomputable def c_slices_Contains_string (b n : Nat) : Cx := ⟨Go.Proofs.Try.prog, (Θ b), [23], [(55, ⟨h_slices_Index_string, o_slices_Index_string, slices_Index_string n⟩)], [], [], []⟩
theorem d_slices_Contains_string (b n : Nat) (x : h_slices_Contains_string.X T) : denF (c_slices_Contains_string b n) n Go.Proofs.Try.f34 p_slices_Contains_string h_slices_Contains_string o_slices_Contains_string x = slices_Contains_string n x := by kernel_rfl
theorem s_slices_Contains_string (b n : Nat) : PCalls Go.Proofs.Try.prog (Θ b) 34 ⟨h_slices_Contains_string, o_slices_Contains_string, slices_Contains_string n⟩ :=
  func_ok' (C := c_slices_Contains_string b n) (n := n) (p := p_slices_Contains_string) (ok_of mixed eqsOk ⟨s_slices_Index_string b n, trivial⟩ trivial trivial) Go.Proofs.Try.func34 (by kernel_rfl) (by kernel_rfl) (d_slices_Contains_string b n) (by kernel_rfl)
def h_valid_Home_1 : Shape := ⟨slotsOf 2 [(0, .agg [.hole (.str), .hole (.sl 9), .hole (.int .i64)]), (1, .c (.box 1000000 0))], [(1000000, 9, [.hole (.str)])], []⟩
def o_valid_Home_1 : List (Ex × Shape) := [(.ret, ⟨slotsOf 1 [(0, .c (.hole (.bool)))], [(1000000, 9, [.hole (.str)])], []⟩)]
def valid_Home_1 (n : Nat) (x0 : ByteArray × (List ByteArray) × Int × ByteArray) : Option (Bool × ByteArray) :=
  (slices_Contains_string n (x0.2.1, x0.2.2.2)).bind fun y1 =>
  some (y1, x0.2.2.2)
def p_valid_Home_1 : Plan := .leaf
noncomputable def c_valid_Home_1 (b n : Nat) : Cx := ⟨Go.Proofs.Try.prog, (Θ b), [23], [(34, ⟨h_slices_Contains_string, o_slices_Contains_string, slices_Contains_string n⟩)], [], [], []⟩
theorem d_valid_Home_1 (b n : Nat) (x : h_valid_Home_1.X T) : denF (c_valid_Home_1 b n) n Go.Proofs.Try.f33 p_valid_Home_1 h_valid_Home_1 o_valid_Home_1 x = valid_Home_1 n x := by kernel_rfl
theorem s_valid_Home_1 (b n : Nat) : PCalls Go.Proofs.Try.prog (Θ b) 33 ⟨h_valid_Home_1, o_valid_Home_1, valid_Home_1 n⟩ :=
  func_ok' (C := c_valid_Home_1 b n) (n := n) (p := p_valid_Home_1) (ok_of mixed eqsOk ⟨s_slices_Contains_string b n, trivial⟩ trivial trivial) Go.Proofs.Try.func33 (by kernel_rfl) (by kernel_rfl) (d_valid_Home_1 b n) (by kernel_rfl)
def h_slices_IndexFunc_valid_Home_1 : Shape := ⟨slotsOf 2 [(0, .c (.hole (.sl 42))), (1, .c (.fn 33 [1000000]))], [(1000000, 9, [.hole (.str)])], []⟩
def o_slices_IndexFunc_valid_Home_1 : List (Ex × Shape) := [(.ret, ⟨slotsOf 1 [(0, .c (.hole (.int .i64)))], [(1000000, 9, [.hole (.str)])], []⟩)]
def slices_IndexFunc_valid_Home_1 (n : Nat) (x0 : (List (ByteArray × (List ByteArray) × Int)) × ByteArray) : Option (Int × ByteArray) :=
  (iterL (Y := (Int × ByteArray) ⊕ (ByteArray)) n (fun (x1 : (List (ByteArray × (List ByteArray) × Int)) × Int × Int × ByteArray) =>
    let e0 := atI (ByteArray.mk #[], [], 0) x1.1 x1.2.2.1
    let e1 := e0.2
    bif decide (x1.2.2.1 < x1.2.1) then
      bif inB x1.2.2.1 x1.1.length then
        (valid_Home_1 n (e0.1, e0.2.1, e0.2.2, x1.2.2.2)).bind fun y2 =>
        bif y2.1 then
          some (.inr (.inl (x1.2.2.1, y2.2)))
        else
        some (.inl (x1.1, x1.2.1, wrap64 (x1.2.2.1 + 1), y2.2))
      else
      none
    else
    some (.inr (.inr x1.2.2.2))) (x0.1, ((x0.1.length : Nat) : Int), 0, x0.2)).bind (Sum.elim (fun (z3 : Int × ByteArray) =>
    some z3) (fun (z4 : ByteArray) =>
    some ((-1), z4)))
def p_slices_IndexFunc_valid_Home_1 : Plan := .two (.leaf) (.two (.two (.leaf) (.one (.loop ⟨slotsOf 19 [(0, .c (.hole (.sl 42))), (1, .c (.fn 33 [1000000])), (7, .c (.hole (.int .i64))), (8, .c (.hole (.int .i64)))], [(1000000, 9, [.hole (.str)])], []⟩ [(.ret, ⟨slotsOf 19 [(4, .c (.hole (.int .i64)))], [(1000000, 9, [.hole (.str)])], []⟩), (.exit 0, ⟨slotsOf 19 [], [(1000000, 9, [.hole (.str)])], []⟩)] (.leaf)))) (.leaf))
noncomputable def c_slices_IndexFunc_valid_Home_1 (b n : Nat) : Cx := ⟨Go.Proofs.Try.prog, (Θ b), [23], [(33, ⟨h_valid_Home_1, o_valid_Home_1, valid_Home_1 n⟩)], [], [], []⟩
theorem d_slices_IndexFunc_valid_Home_1 (b n : Nat) (x : h_slices_IndexFunc_valid_Home_1.X T) : denF (c_slices_IndexFunc_valid_Home_1 b n) n Go.Proofs.Try.f32 p_slices_IndexFunc_valid_Home_1 h_slices_IndexFunc_valid_Home_1 o_slices_IndexFunc_valid_Home_1 x = slices_IndexFunc_valid_Home_1 n x := by kernel_rfl
theorem s_slices_IndexFunc_valid_Home_1 (b n : Nat) : PCalls Go.Proofs.Try.prog (Θ b) 32 ⟨h_slices_IndexFunc_valid_Home_1, o_slices_IndexFunc_valid_Home_1, slices_IndexFunc_valid_Home_1 n⟩ :=
  func_ok' (C := c_slices_IndexFunc_valid_Home_1 b n) (n := n) (p := p_slices_IndexFunc_valid_Home_1) (ok_of mixed eqsOk ⟨s_valid_Home_1 b n, trivial⟩ trivial trivial) Go.Proofs.Try.func32 (by kernel_rfl) (by kernel_rfl) (d_slices_IndexFunc_valid_Home_1 b n) (by kernel_rfl)
def h_valid_Home : Shape := ⟨slotsOf 2 [(0, .agg [.hole (.str), .hole (.sl 44), .hole (.sl 78), .hole (.sl 42), .hole (.sl 67), .hole (.sl 47), .hole (.int .i64)]), (1, .c (.hole (.str)))], [], []⟩
def o_valid_Home : List (Ex × Shape) := [(.ret, ⟨slotsOf 1 [(0, .c (.hole (.int .i64)))], [], []⟩)]
def valid_Home (n : Nat) (x0 : ByteArray × (List (ByteArray × Int × Int × Int × Int × Int × Int × Int × Int × Int × Int)) × (List (ByteArray × ByteArray × Int × Int × Int × Int)) × (List (ByteArray × (List ByteArray) × Int)) × (List (List (Bool × List ByteArray))) × (List (ByteArray × ByteArray × Int)) × Int × ByteArray) : Option (Int) :=
  (slices_IndexFunc_valid_Home_1 n (x0.2.2.2.1, x0.2.2.2.2.2.2.2)).bind fun y1 =>
  some y1.1
def p_valid_Home : Plan := .leaf
noncomputable def c_valid_Home (b n : Nat) : Cx := ⟨Go.Proofs.Try.prog, (Θ b), [23], [(32, ⟨h_slices_IndexFunc_valid_Home_1, o_slices_IndexFunc_valid_Home_1, slices_IndexFunc_valid_Home_1 n⟩)], [], [], []⟩
theorem d_valid_Home (b n : Nat) (x : h_valid_Home.X T) : denF (c_valid_Home b n) n Go.Proofs.Try.f12 p_valid_Home h_valid_Home o_valid_Home x = valid_Home n x := by kernel_rfl
theorem s_valid_Home (b n : Nat) : PCalls Go.Proofs.Try.prog (Θ b) 12 ⟨h_valid_Home, o_valid_Home, valid_Home n⟩ :=
  func_ok' (C := c_valid_Home b n) (n := n) (p := p_valid_Home) (ok_of mixed eqsOk ⟨s_slices_IndexFunc_valid_Home_1 b n, trivial⟩ trivial trivial) Go.Proofs.Try.func12 (by kernel_rfl) (by kernel_rfl) (d_valid_Home b n) (by kernel_rfl)
def h_valid_Phase_1 : Shape := ⟨slotsOf 2 [(0, .agg [.hole (.str), .hole (.sl 9), .hole (.int .i64)]), (1, .c (.box 1000000 0))], [(1000000, 9, [.hole (.str)])], []⟩
def o_valid_Phase_1 : List (Ex × Shape) := [(.ret, ⟨slotsOf 1 [(0, .c (.hole (.bool)))], [(1000000, 9, [.hole (.str)])], []⟩)]
def valid_Phase_1 (n : Nat) (x0 : ByteArray × (List ByteArray) × Int × ByteArray) : Option (Bool × ByteArray) :=
  some (strEq x0.1 x0.2.2.2, x0.2.2.2)
def p_valid_Phase_1 : Plan := .leaf
noncomputable def c_valid_Phase_1 (b n : Nat) : Cx := ⟨Go.Proofs.Try.prog, (Θ b), [23], [], [], [], []⟩
theorem d_valid_Phase_1 (b n : Nat) (x : h_valid_Phase_1.X T) : denF (c_valid_Phase_1 b n) n Go.Proofs.Try.f39 p_valid_Phase_1 h_valid_Phase_1 o_valid_Phase_1 x = valid_Phase_1 n x := by kernel_rfl
theorem s_valid_Phase_1 (b n : Nat) : PCalls Go.Proofs.Try.prog (Θ b) 39 ⟨h_valid_Phase_1, o_valid_Phase_1, valid_Phase_1 n⟩ :=
  func_ok' (C := c_valid_Phase_1 b n) (n := n) (p := p_valid_Phase_1) (ok_of mixed eqsOk trivial trivial trivial) Go.Proofs.Try.func39 (by kernel_rfl) (by kernel_rfl) (d_valid_Phase_1 b n) (by kernel_rfl)
def h_slices_IndexFunc_valid_Phase_1 : Shape := ⟨slotsOf 2 [(0, .c (.hole (.sl 42))), (1, .c (.fn 39 [1000000]))], [(1000000, 9, [.hole (.str)])], []⟩
def o_slices_IndexFunc_valid_Phase_1 : List (Ex × Shape) := [(.ret, ⟨slotsOf 1 [(0, .c (.hole (.int .i64)))], [(1000000, 9, [.hole (.str)])], []⟩)]
def slices_IndexFunc_valid_Phase_1 (n : Nat) (x0 : (List (ByteArray × (List ByteArray) × Int)) × ByteArray) : Option (Int × ByteArray) :=
  (iterL (Y := (Int × ByteArray) ⊕ (ByteArray)) n (fun (x1 : (List (ByteArray × (List ByteArray) × Int)) × Int × Int × ByteArray) =>
    let e0 := atI (ByteArray.mk #[], [], 0) x1.1 x1.2.2.1
    let e1 := e0.2
    bif decide (x1.2.2.1 < x1.2.1) then
      bif inB x1.2.2.1 x1.1.length then
        (valid_Phase_1 n (e0.1, e0.2.1, e0.2.2, x1.2.2.2)).bind fun y2 =>
        bif y2.1 then
          some (.inr (.inl (x1.2.2.1, y2.2)))
        else
        some (.inl (x1.1, x1.2.1, wrap64 (x1.2.2.1 + 1), y2.2))
      else
      none
    else
    some (.inr (.inr x1.2.2.2))) (x0.1, ((x0.1.length : Nat) : Int), 0, x0.2)).bind (Sum.elim (fun (z3 : Int × ByteArray) =>
    some z3) (fun (z4 : ByteArray) =>
    some ((-1), z4)))
def p_slices_IndexFunc_valid_Phase_1 : Plan := .two (.leaf) (.two (.two (.leaf) (.one (.loop ⟨slotsOf 19 [(0, .c (.hole (.sl 42))), (1, .c (.fn 39 [1000000])), (7, .c (.hole (.int .i64))), (8, .c (.hole (.int .i64)))], [(1000000, 9, [.hole (.str)])], []⟩ [(.ret, ⟨slotsOf 19 [(4, .c (.hole (.int .i64)))], [(1000000, 9, [.hole (.str)])], []⟩), (.exit 0, ⟨slotsOf 19 [], [(1000000, 9, [.hole (.str)])], []⟩)] (.leaf)))) (.leaf))
noncomputable def c_slices_IndexFunc_valid_Phase_1 (b n : Nat) : Cx := ⟨Go.Proofs.Try.prog, (Θ b), [23], [(39, ⟨h_valid_Phase_1, o_valid_Phase_1, valid_Phase_1 n⟩)], [], [], []⟩
theorem d_slices_IndexFunc_valid_Phase_1 (b n : Nat) (x : h_slices_IndexFunc_valid_Phase_1.X T) : denF (c_slices_IndexFunc_valid_Phase_1 b n) n Go.Proofs.Try.f32 p_slices_IndexFunc_valid_Phase_1 h_slices_IndexFunc_valid_Phase_1 o_slices_IndexFunc_valid_Phase_1 x = slices_IndexFunc_valid_Phase_1 n x := by kernel_rfl
theorem s_slices_IndexFunc_valid_Phase_1 (b n : Nat) : PCalls Go.Proofs.Try.prog (Θ b) 32 ⟨h_slices_IndexFunc_valid_Phase_1, o_slices_IndexFunc_valid_Phase_1, slices_IndexFunc_valid_Phase_1 n⟩ :=
  func_ok' (C := c_slices_IndexFunc_valid_Phase_1 b n) (n := n) (p := p_slices_IndexFunc_valid_Phase_1) (ok_of mixed eqsOk ⟨s_valid_Phase_1 b n, trivial⟩ trivial trivial) Go.Proofs.Try.func32 (by kernel_rfl) (by kernel_rfl) (d_slices_IndexFunc_valid_Phase_1 b n) (by kernel_rfl)
def h_valid_Phase : Shape := ⟨slotsOf 2 [(0, .agg [.hole (.str), .hole (.sl 44), .hole (.sl 78), .hole (.sl 42), .hole (.sl 67), .hole (.sl 47), .hole (.int .i64)]), (1, .c (.hole (.str)))], [], []⟩
def o_valid_Phase : List (Ex × Shape) := [(.ret, ⟨slotsOf 1 [(0, .c (.hole (.int .i64)))], [], []⟩)]
def valid_Phase (n : Nat) (x0 : ByteArray × (List (ByteArray × Int × Int × Int × Int × Int × Int × Int × Int × Int × Int)) × (List (ByteArray × ByteArray × Int × Int × Int × Int)) × (List (ByteArray × (List ByteArray) × Int)) × (List (List (Bool × List ByteArray))) × (List (ByteArray × ByteArray × Int)) × Int × ByteArray) : Option (Int) :=
  (slices_IndexFunc_valid_Phase_1 n (x0.2.2.2.1, x0.2.2.2.2.2.2.2)).bind fun y1 =>
  some y1.1
def p_valid_Phase : Plan := .leaf
noncomputable def c_valid_Phase (b n : Nat) : Cx := ⟨Go.Proofs.Try.prog, (Θ b), [23], [(32, ⟨h_slices_IndexFunc_valid_Phase_1, o_slices_IndexFunc_valid_Phase_1, slices_IndexFunc_valid_Phase_1 n⟩)], [], [], []⟩
theorem d_valid_Phase (b n : Nat) (x : h_valid_Phase.X T) : denF (c_valid_Phase b n) n Go.Proofs.Try.f17 p_valid_Phase h_valid_Phase o_valid_Phase x = valid_Phase n x := by kernel_rfl
theorem s_valid_Phase (b n : Nat) : PCalls Go.Proofs.Try.prog (Θ b) 17 ⟨h_valid_Phase, o_valid_Phase, valid_Phase n⟩ :=
  func_ok' (C := c_valid_Phase b n) (n := n) (p := p_valid_Phase) (ok_of mixed eqsOk ⟨s_slices_IndexFunc_valid_Phase_1 b n, trivial⟩ trivial trivial) Go.Proofs.Try.func17 (by kernel_rfl) (by kernel_rfl) (d_valid_Phase b n) (by kernel_rfl)
def h_law07_ValidFinds : Shape := ⟨slotsOf 2 [(0, .agg [.hole (.int .i64), .hole (.int .i64), .hole (.int .i64), .hole (.int .i64), .hole (.int .i64), .hole (.sl 39), .hole (.sl 53), .hole (.int .i64), .hole (.int .i64)]), (1, .c (.hole (.str)))], [], []⟩
def o_law07_ValidFinds : List (Ex × Shape) := [(.ret, ⟨slotsOf 1 [(0, .c (.hole (.bool)))], [], []⟩)]
def law07_ValidFinds (n : Nat) (x0 : Int × Int × Int × Int × Int × (List (ByteArray × (List (ByteArray × Int × Int × Int × Int × Int × Int × Int × Int × Int × Int)) × (List (ByteArray × ByteArray × Int × Int × Int × Int)) × (List (ByteArray × (List ByteArray) × Int)) × (List (List (Bool × List ByteArray))) × (List (ByteArray × ByteArray × Int)) × Int)) × (List (ByteArray × ByteArray × ByteArray × Int × Int × Int)) × Int × Int × ByteArray) : Option (Bool) :=
  letJ (fun (x2 : ByteArray × Bool × Int × Int × Int × Int × Int × (List (ByteArray × (List (ByteArray × Int × Int × Int × Int × Int × Int × Int × Int × Int × Int)) × (List (ByteArray × ByteArray × Int × Int × Int × Int)) × (List (ByteArray × (List ByteArray) × Int)) × (List (List (Bool × List ByteArray))) × (List (ByteArray × ByteArray × Int)) × Int)) × (List (ByteArray × ByteArray × ByteArray × Int × Int × Int)) × Int × Int) =>
    bif x2.2.1 then
      some true
    else
    (valid_Node n (x2.2.2.1, x2.2.2.2.1, x2.2.2.2.2.1, x2.2.2.2.2.2.1, x2.2.2.2.2.2.2.1, x2.2.2.2.2.2.2.2.1, x2.2.2.2.2.2.2.2.2.1, x2.2.2.2.2.2.2.2.2.2.1, x2.2.2.2.2.2.2.2.2.2.2, x2.1)).bind fun y4 =>
    (ref07_Node n (x2.2.2.1, x2.2.2.2.1, x2.2.2.2.2.1, x2.2.2.2.2.2.1, x2.2.2.2.2.2.2.1, x2.2.2.2.2.2.2.2.1, x2.2.2.2.2.2.2.2.2.1, x2.2.2.2.2.2.2.2.2.2.1, x2.2.2.2.2.2.2.2.2.2.2, x2.1)).bind fun y5 =>
    bif !(y4 == y5) then
      some false
    else
    (iterL (Y := (Bool) ⊕ (Unit)) n (fun (x6 : ByteArray × Int × Int × Int × Int × Int × Int × (List (ByteArray × (List (ByteArray × Int × Int × Int × Int × Int × Int × Int × Int × Int × Int)) × (List (ByteArray × ByteArray × Int × Int × Int × Int)) × (List (ByteArray × (List ByteArray) × Int)) × (List (List (Bool × List ByteArray))) × (List (ByteArray × ByteArray × Int)) × Int)) × (List (ByteArray × ByteArray × ByteArray × Int × Int × Int)) × Int × Int) =>
      let e0 := x6.2.2.2.2.2.2.2.1.length
      let e1 := atI (ByteArray.mk #[], [], [], [], [], [], 0) x6.2.2.2.2.2.2.2.1 x6.2.1
      let e2 := e1.2
      let e3 := e1.2.2
      let e4 := e1.2.2.2
      let e5 := e1.2.2.2.2
      let e6 := e1.2.2.2.2.2
      bif decide (x6.2.1 < ((e0 : Nat) : Int)) then
        bif inB x6.2.1 e0 then
          letJ (fun (x13 : ByteArray × Int × Bool × Int × Int × Int × Int × Int × (List (ByteArray × (List (ByteArray × Int × Int × Int × Int × Int × Int × Int × Int × Int × Int)) × (List (ByteArray × ByteArray × Int × Int × Int × Int)) × (List (ByteArray × (List ByteArray) × Int)) × (List (List (Bool × List ByteArray))) × (List (ByteArray × ByteArray × Int)) × Int)) × (List (ByteArray × ByteArray × ByteArray × Int × Int × Int)) × Int × Int) =>
            bif x13.2.2.1 then
              some (.inr (.inl false))
            else
            some (.inl (x13.1, wrap64 (x13.2.1 + 1), x13.2.2.2))) fun J14 =>
          (valid_Head n (e1.1, e1.2.1, e1.2.2.1, e1.2.2.2.1, e1.2.2.2.2.1, e1.2.2.2.2.2.1, e1.2.2.2.2.2.2, x6.1)).bind fun y7 =>
          (ref07_Head n (e1.1, e1.2.1, e1.2.2.1, e1.2.2.2.1, e1.2.2.2.2.1, e1.2.2.2.2.2.1, e1.2.2.2.2.2.2, x6.1)).bind fun y8 =>
          bif !(y7 == y8) then
            J14 (x6.1, x6.2.1, true, x6.2.2)
          else
          (valid_Phase n (e1.1, e1.2.1, e1.2.2.1, e1.2.2.2.1, e1.2.2.2.2.1, e1.2.2.2.2.2.1, e1.2.2.2.2.2.2, x6.1)).bind fun y9 =>
          (ref07_Phase n (e1.1, e1.2.1, e1.2.2.1, e1.2.2.2.1, e1.2.2.2.2.1, e1.2.2.2.2.2.1, e1.2.2.2.2.2.2, x6.1)).bind fun y10 =>
          bif !(y9 == y10) then
            J14 (x6.1, x6.2.1, true, x6.2.2)
          else
          (valid_Home n (e1.1, e1.2.1, e1.2.2.1, e1.2.2.2.1, e1.2.2.2.2.1, e1.2.2.2.2.2.1, e1.2.2.2.2.2.2, x6.1)).bind fun y11 =>
          (ref07_Home n (e1.1, e1.2.1, e1.2.2.1, e1.2.2.2.1, e1.2.2.2.2.1, e1.2.2.2.2.2.1, e1.2.2.2.2.2.2, x6.1)).bind fun y12 =>
          J14 (x6.1, x6.2.1, !(y11 == y12), x6.2.2)
        else
        none
      else
      some (.inr (.inr ()))) (x2.1, 0, x2.2.2)).bind (Sum.elim (fun (z15 : Bool) =>
      some z15) (fun (z16 : Unit) =>
      (law07_awake n ()).bind fun y17 =>
      some y17))) fun J3 =>
  (law06_Few n (x0.1, x0.2.1, x0.2.2.1, x0.2.2.2.1, x0.2.2.2.2.1, x0.2.2.2.2.2.1, x0.2.2.2.2.2.2.1, x0.2.2.2.2.2.2.2.1, x0.2.2.2.2.2.2.2.2.1)).bind fun y1 =>
  bif !y1 then
    J3 (x0.2.2.2.2.2.2.2.2.2, true, x0.1, x0.2.1, x0.2.2.1, x0.2.2.2.1, x0.2.2.2.2.1, x0.2.2.2.2.2.1, x0.2.2.2.2.2.2.1, x0.2.2.2.2.2.2.2.1, x0.2.2.2.2.2.2.2.2.1)
  else
  J3 (x0.2.2.2.2.2.2.2.2.2, decide (100 < ((ByteArray.size x0.2.2.2.2.2.2.2.2.2 : Nat) : Int)), x0.1, x0.2.1, x0.2.2.1, x0.2.2.2.1, x0.2.2.2.2.1, x0.2.2.2.2.2.1, x0.2.2.2.2.2.2.1, x0.2.2.2.2.2.2.2.1, x0.2.2.2.2.2.2.2.2.1)
def p_law07_ValidFinds : Plan := .two (.leaf) (.two (.two (.join ⟨slotsOf 60 [(1, .c (.hole (.str))), (2, .c (.box 2 0)), (14, .c (.hole (.bool)))], [(2, 27, [.hole (.int .i64), .hole (.int .i64), .hole (.int .i64), .hole (.int .i64), .hole (.int .i64), .hole (.sl 39), .hole (.sl 53), .hole (.int .i64), .hole (.int .i64)])], []⟩ (.leaf)) (.leaf)) (.two (.leaf) (.two (.two (.leaf) (.one (.loop ⟨slotsOf 60 [(1, .c (.hole (.str))), (2, .c (.box 2 0)), (5, .c (.hole (.int .i64)))], [(2, 27, [.hole (.int .i64), .hole (.int .i64), .hole (.int .i64), .hole (.int .i64), .hole (.int .i64), .hole (.sl 39), .hole (.sl 53), .hole (.int .i64), .hole (.int .i64)])], []⟩ [(.ret, ⟨slotsOf 60 [(4, .c (.hole (.bool)))], [], []⟩), (.exit 0, ⟨slotsOf 60 [], [], []⟩)] (.two (.leaf) (.two (.one (.two (.leaf) (.two (.join ⟨slotsOf 60 [(1, .c (.hole (.str))), (2, .c (.box 2 0)), (5, .c (.hole (.int .i64))), (58, .c (.hole (.bool)))], [(2, 27, [.hole (.int .i64), .hole (.int .i64), .hole (.int .i64), .hole (.int .i64), .hole (.int .i64), .hole (.sl 39), .hole (.sl 53), .hole (.int .i64), .hole (.int .i64)])], []⟩ (.leaf)) (.leaf)))) (.leaf)))))) (.leaf))))
noncomputable def c_law07_ValidFinds (b n : Nat) : Cx := ⟨Go.Proofs.Try.prog, (Θ b), [23], [(10, ⟨h_law07_awake, o_law07_awake, law07_awake n⟩), (13, ⟨h_valid_Node, o_valid_Node, valid_Node n⟩), (15, ⟨h_valid_Head, o_valid_Head, valid_Head n⟩), (7, ⟨h_law06_Few, o_law06_Few, law06_Few n⟩), (14, ⟨h_ref07_Node, o_ref07_Node, ref07_Node n⟩), (16, ⟨h_ref07_Head, o_ref07_Head, ref07_Head n⟩), (18, ⟨h_ref07_Phase, o_ref07_Phase, ref07_Phase n⟩), (19, ⟨h_ref07_Home, o_ref07_Home, ref07_Home n⟩), (12, ⟨h_valid_Home, o_valid_Home, valid_Home n⟩), (17, ⟨h_valid_Phase, o_valid_Phase, valid_Phase n⟩)], [], [], []⟩
theorem d_law07_ValidFinds (b n : Nat) (x : h_law07_ValidFinds.X T) : denF (c_law07_ValidFinds b n) n Go.Proofs.Try.f6 p_law07_ValidFinds h_law07_ValidFinds o_law07_ValidFinds x = law07_ValidFinds n x := by kernel_rfl
theorem s_law07_ValidFinds (b n : Nat) : PCalls Go.Proofs.Try.prog (Θ b) 6 ⟨h_law07_ValidFinds, o_law07_ValidFinds, law07_ValidFinds n⟩ :=
  func_ok' (C := c_law07_ValidFinds b n) (n := n) (p := p_law07_ValidFinds) (ok_of mixed eqsOk ⟨s_law07_awake b n, s_valid_Node b n, s_valid_Head b n, s_law06_Few b n, s_ref07_Node b n, s_ref07_Head b n, s_ref07_Phase b n, s_ref07_Home b n, s_valid_Home b n, s_valid_Phase b n, trivial⟩ trivial trivial) Go.Proofs.Try.func6 (by kernel_rfl) (by kernel_rfl) (d_law07_ValidFinds b n) (by kernel_rfl)
end Go.Proofs.Ytbcejiobmeglgaa.Fn
