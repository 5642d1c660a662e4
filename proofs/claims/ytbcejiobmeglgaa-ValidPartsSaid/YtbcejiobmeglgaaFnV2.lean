/- Functions of the program, each as a plain function, and that the machine does what it says. -/
import Derived.Test.YtbcejiobmeglgaaFnV1
namespace Go.Proofs.Ytbcejiobmeglgaa.Fn
set_option linter.unusedVariables false
set_option maxRecDepth 100000
open Go Go.RowKit Go.Den
def h_slices_Index_string : Shape := ⟨slotsOf 2 [(0, .c (.hole (.sl 9))), (1, .c (.hole (.str)))], [], []⟩
def o_slices_Index_string : List (Ex × Shape) := [(.ret, ⟨slotsOf 1 [(0, .c (.hole (.int .i64)))], [], []⟩)]
def slices_Index_string (n : Nat) (x0 : (List ByteArray) × ByteArray) : Option (Int) :=
  (iterL (Y := (Int) ⊕ (Unit)) n (fun (x1 : (List ByteArray) × ByteArray × Int × Int) =>
    bif decide (x1.2.2.2 < x1.2.2.1) then
      bif inB x1.2.2.2 x1.1.length then
        bif strEq x1.2.1 (atI (ByteArray.mk #[]) x1.1 x1.2.2.2) then
          some (.inr (.inl x1.2.2.2))
        else
        some (.inl (x1.1, x1.2.1, x1.2.2.1, wrap64 (x1.2.2.2 + 1)))
      else
      none
    else
    some (.inr (.inr ()))) (x0.1, x0.2, ((x0.1.length : Nat) : Int), 0)).bind (Sum.elim (fun (z2 : Int) =>
    some z2) (fun (z3 : Unit) =>
    some (-1)))
def p_slices_Index_string : Plan := .two (.leaf) (.two (.two (.leaf) (.one (.loop ⟨slotsOf 19 [(0, .c (.hole (.sl 9))), (1, .c (.hole (.str))), (7, .c (.hole (.int .i64))), (8, .c (.hole (.int .i64)))], [], []⟩ [(.ret, ⟨slotsOf 19 [(4, .c (.hole (.int .i64)))], [], []⟩), (.exit 0, ⟨slotsOf 19 [], [], []⟩)] (.leaf)))) (.leaf))
noncomputable def c_slices_Index_string (b n : Nat) : Cx := ⟨Go.Proofs.Try.prog, (Θ b), [23], [], [], [], []⟩
theorem d_slices_Index_string (b n : Nat) (x : h_slices_Index_string.X T) : denF (c_slices_Index_string b n) n Go.Proofs.Try.f55 p_slices_Index_string h_slices_Index_string o_slices_Index_string x = slices_Index_string n x := by kernel_rfl
theorem s_slices_Index_string (b n : Nat) : PCalls Go.Proofs.Try.prog (Θ b) 55 ⟨h_slices_Index_string, o_slices_Index_string, slices_Index_string n⟩ :=
  func_ok' (C := c_slices_Index_string b n) (n := n) (p := p_slices_Index_string) (ok_of mixed eqsOk trivial trivial trivial) Go.Proofs.Try.func55 (by kernel_rfl) (by kernel_rfl) (d_slices_Index_string b n) (by kernel_rfl)
def h_slices_Contains_string : Shape := ⟨slotsOf 2 [(0, .c (.hole (.sl 9))), (1, .c (.hole (.str)))], [], []⟩
def o_slices_Contains_string : List (Ex × Shape) := [(.ret, ⟨slotsOf 1 [(0, .c (.hole (.bool)))], [], []⟩)]
def slices_Contains_string (n : Nat) (x0 : (List ByteArray) × ByteArray) : Option (Bool) :=
  (slices_Index_string n x0).bind fun y1 =>
  some (decide (0 ≤ y1))
def p_slices_Contains_string : Plan := .leaf
noncomputable def c_slices_Contains_string (b n : Nat) : Cx := ⟨Go.Proofs.Try.prog, (Θ b), [23], [(55, ⟨h_slices_Index_string, o_slices_Index_string, slices_Index_string n⟩)], [], [], []⟩
theorem d_slices_Contains_string (b n : Nat) (x : h_slices_Contains_string.X T) : denF (c_slices_Contains_string b n) n Go.Proofs.Try.f34 p_slices_Contains_string h_slices_Contains_string o_slices_Contains_string x = slices_Contains_string n x := by kernel_rfl
theorem s_slices_Contains_string (b n : Nat) : PCalls Go.Proofs.Try.prog (Θ b) 34 ⟨h_slices_Contains_string, o_slices_Contains_string, slices_Contains_string n⟩ :=
  func_ok' (C := c_slices_Contains_string b n) (n := n) (p := p_slices_Contains_string) (ok_of mixed eqsOk ⟨s_slices_Index_string b n, trivial⟩ trivial trivial) Go.Proofs.Try.func34 (by kernel_rfl) (by kernel_rfl) (d_slices_Contains_string b n) (by kernel_rfl)
def h_valid_Home_1 : Shape := ⟨slotsOf 2 [(0, .agg [.hole (.str), .hole (.sl 9), .hole (.int .i64)]), (1, .c (.box 1000000 0))], [(1000000, 9, [.hole (.str)])], []⟩
def o_valid_Home_1 : List (Ex × Shape) := [(.ret, ⟨slotsOf 1 [(0, .c (.hole (.bool)))], [(1000000, 9, [.hole (.str)])], []⟩)]
def valid_Home_1 (n : Nat) (x0 : ByteArray × (List ByteArray) × Int × ByteArray) : Option (Bool × ByteArray) :=
  (slices_Contains_string n (x0.2.1, x0.2.2.2)).bind fun y1 =>
  some (y1, x0.2.2.2)
def p_valid_Home_1 : Plan := .leaf
noncomputable def c_valid_Home_1 (b n : Nat) : Cx := ⟨Go.Proofs.Try.prog, (Θ b), [23], [(34, ⟨h_slices_Contains_string, o_slices_Contains_string, slices_Contains_string n⟩)], [], [], []⟩
theorem d_valid_Home_1 (b n : Nat) (x : h_valid_Home_1.X T) : denF (c_valid_Home_1 b n) n Go.Proofs.Try.f33 p_valid_Home_1 h_valid_Home_1 o_valid_Home_1 x = valid_Home_1 n x := by kernel_rfl
theorem s_valid_Home_1 (b n : Nat) : PCalls Go.Proofs.Try.prog (Θ b) 33 ⟨h_valid_Home_1, o_valid_Home_1, valid_Home_1 n⟩ :=
  func_ok' (C := c_valid_Home_1 b n) (n := n) (p := p_valid_Home_1) (ok_of mixed eqsOk ⟨s_slices_Contains_string b n, trivial⟩ trivial trivial) Go.Proofs.Try.func33 (by kernel_rfl) (by kernel_rfl) (d_valid_Home_1 b n) (by kernel_rfl)
def h_slices_IndexFunc_valid_Home_1 : Shape := ⟨slotsOf 2 [(0, .c (.hole (.sl 42))), (1, .c (.fn 33 [1000000]))], [(1000000, 9, [.hole (.str)])], []⟩
def o_slices_IndexFunc_valid_Home_1 : List (Ex × Shape) := [(.ret, ⟨slotsOf 1 [(0, .c (.hole (.int .i64)))], [(1000000, 9, [.hole (.str)])], []⟩)]
def slices_IndexFunc_valid_Home_1 (n : Nat) (x0 : (List (ByteArray × (List ByteArray) × Int)) × ByteArray) : Option (Int × ByteArray) :=
  (iterL (Y := (Int × ByteArray) ⊕ (ByteArray)) n (fun (x1 : (List (ByteArray × (List ByteArray) × Int)) × Int × Int × ByteArray) =>
    let e0 := atI (ByteArray.mk #[], [], 0) x1.1 x1.2.2.1
    let e1 := e0.2
    bif decide (x1.2.2.1 < x1.2.1) then
      bif inB x1.2.2.1 x1.1.length then
        (valid_Home_1 n (e0.1, e0.2.1, e0.2.2, x1.2.2.2)).bind fun y2 =>
        bif y2.1 then
          some (.inr (.inl (x1.2.2.1, y2.2)))
        else
        some (.inl (x1.1, x1.2.1, wrap64 (x1.2.2.1 + 1), y2.2))
      else
      none
    else
    some (.inr (.inr x1.2.2.2))) (x0.1, ((x0.1.length : Nat) : Int), 0, x0.2)).bind (Sum.elim (fun (z3 : Int × ByteArray) =>
    some z3) (fun (z4 : ByteArray) =>
    some ((-1), z4)))
def p_slices_IndexFunc_valid_Home_1 : Plan := .two (.leaf) (.two (.two (.leaf) (.one (.loop ⟨slotsOf 19 [(0, .c (.hole (.sl 42))), (1, .c (.fn 33 [1000000])), (7, .c (.hole (.int .i64))), (8, .c (.hole (.int .i64)))], [(1000000, 9, [.hole (.str)])], []⟩ [(.ret, ⟨slotsOf 19 [(4, .c (.hole (.int .i64)))], [(1000000, 9, [.hole (.str)])], []⟩), (.exit 0, ⟨slotsOf 19 [], [(1000000, 9, [.hole (.str)])], []⟩)] (.leaf)))) (.leaf))
noncomputable def c_slices_IndexFunc_valid_Home_1 (b n : Nat) : Cx := ⟨Go.Proofs.Try.prog, (Θ b), [23], [(33, ⟨h_valid_Home_1, o_valid_Home_1, valid_Home_1 n⟩)], [], [], []⟩
theorem d_slices_IndexFunc_valid_Home_1 (b n : Nat) (x : h_slices_IndexFunc_valid_Home_1.X T) : denF (c_slices_IndexFunc_valid_Home_1 b n) n Go.Proofs.Try.f32 p_slices_IndexFunc_valid_Home_1 h_slices_IndexFunc_valid_Home_1 o_slices_IndexFunc_valid_Home_1 x = slices_IndexFunc_valid_Home_1 n x := by kernel_rfl
theorem s_slices_IndexFunc_valid_Home_1 (b n : Nat) : PCalls Go.Proofs.Try.prog (Θ b) 32 ⟨h_slices_IndexFunc_valid_Home_1, o_slices_IndexFunc_valid_Home_1, slices_IndexFunc_valid_Home_1 n⟩ :=
  func_ok' (C := c_slices_IndexFunc_valid_Home_1 b n) (n := n) (p := p_slices_IndexFunc_valid_Home_1) (ok_of mixed eqsOk ⟨s_valid_Home_1 b n, trivial⟩ trivial trivial) Go.Proofs.Try.func32 (by kernel_rfl) (by kernel_rfl) (d_slices_IndexFunc_valid_Home_1 b n) (by kernel_rfl)
def h_valid_Home : Shape := ⟨slotsOf 2 [(0, .agg [.hole (.str), .hole (.sl 44), .hole (.sl 78), .hole (.sl 42), .hole (.sl 67), .hole (.sl 47), .hole (.int .i64)]), (1, .c (.hole (.str)))], [], []⟩
def o_valid_Home : List (Ex × Shape) := [(.ret, ⟨slotsOf 1 [(0, .c (.hole (.int .i64)))], [], []⟩)]
def valid_Home (n : Nat) (x0 : ByteArray × (List (ByteArray × Int × Int × Int × Int × Int × Int × Int × Int × Int × Int)) × (List (ByteArray × ByteArray × Int × Int × Int × Int)) × (List (ByteArray × (List ByteArray) × Int)) × (List (List (Bool × List ByteArray))) × (List (ByteArray × ByteArray × Int)) × Int × ByteArray) : Option (Int) :=
  (slices_IndexFunc_valid_Home_1 n (x0.2.2.2.1, x0.2.2.2.2.2.2.2)).bind fun y1 =>
  some y1.1
def p_valid_Home : Plan := .leaf
noncomputable def c_valid_Home (b n : Nat) : Cx := ⟨Go.Proofs.Try.prog, (Θ b), [23], [(32, ⟨h_slices_IndexFunc_valid_Home_1, o_slices_IndexFunc_valid_Home_1, slices_IndexFunc_valid_Home_1 n⟩)], [], [], []⟩
theorem d_valid_Home (b n : Nat) (x : h_valid_Home.X T) : denF (c_valid_Home b n) n Go.Proofs.Try.f12 p_valid_Home h_valid_Home o_valid_Home x = valid_Home n x := by kernel_rfl
theorem s_valid_Home (b n : Nat) : PCalls Go.Proofs.Try.prog (Θ b) 12 ⟨h_valid_Home, o_valid_Home, valid_Home n⟩ :=
  func_ok' (C := c_valid_Home b n) (n := n) (p := p_valid_Home) (ok_of mixed eqsOk ⟨s_slices_IndexFunc_valid_Home_1 b n, trivial⟩ trivial trivial) Go.Proofs.Try.func12 (by kernel_rfl) (by kernel_rfl) (d_valid_Home b n) (by kernel_rfl)
def h_law07_ValidOnce : Shape := ⟨slotsOf 1 [(0, .agg [.hole (.int .i64), .hole (.int .i64), .hole (.int .i64), .hole (.int .i64), .hole (.int .i64), .hole (.sl 39), .hole (.sl 53), .hole (.int .i64), .hole (.int .i64)])], [], []⟩
def o_law07_ValidOnce : List (Ex × Shape) := [(.ret, ⟨slotsOf 1 [(0, .c (.hole (.bool)))], [], []⟩)]
def law07_ValidOnce (n : Nat) (x0 : Int × Int × Int × Int × Int × (List (ByteArray × (List (ByteArray × Int × Int × Int × Int × Int × Int × Int × Int × Int × Int)) × (List (ByteArray × ByteArray × Int × Int × Int × Int)) × (List (ByteArray × (List ByteArray) × Int)) × (List (List (Bool × List ByteArray))) × (List (ByteArray × ByteArray × Int)) × Int)) × (List (ByteArray × ByteArray × ByteArray × Int × Int × Int)) × Int × Int) : Option (Bool) :=
  (law06_Few n x0).bind fun y1 =>
  bif !y1 then
    some true
  else
  (valid_Check n x0).bind fun y2 =>
  bif !(y2.1 == 0) then
    (law07_awake n ()).bind fun y3 =>
    some y3
  else
    (iterL (Y := (Bool) ⊕ (Unit)) n (fun (x4 : Int × Int × Int × Int × Int × Int × (List (ByteArray × (List (ByteArray × Int × Int × Int × Int × Int × Int × Int × Int × Int × Int)) × (List (ByteArray × ByteArray × Int × Int × Int × Int)) × (List (ByteArray × (List ByteArray) × Int)) × (List (List (Bool × List ByteArray))) × (List (ByteArray × ByteArray × Int)) × Int)) × (List (ByteArray × ByteArray × ByteArray × Int × Int × Int)) × Int × Int) =>
      let e0 := x4.2.2.2.2.2.2.1.length
      bif decide (x4.1 < ((e0 : Nat) : Int)) then
        bif inB x4.1 e0 then
          (iterL (Y := (Bool) ⊕ (Int × Int × Int × Int × Int × Int × (List (ByteArray × (List (ByteArray × Int × Int × Int × Int × Int × Int × Int × Int × Int × Int)) × (List (ByteArray × ByteArray × Int × Int × Int × Int)) × (List (ByteArray × (List ByteArray) × Int)) × (List (List (Bool × List ByteArray))) × (List (ByteArray × ByteArray × Int)) × Int)) × (List (ByteArray × ByteArray × ByteArray × Int × Int × Int)) × Int × Int × ByteArray × (List (ByteArray × Int × Int × Int × Int × Int × Int × Int × Int × Int × Int)) × (List (ByteArray × ByteArray × Int × Int × Int × Int)) × (List (ByteArray × (List ByteArray) × Int)) × (List (List (Bool × List ByteArray))) × (List (ByteArray × ByteArray × Int)) × Int)) n (fun (x5 : Int × Int × Int × Int × Int × Int × Int × (List (ByteArray × (List (ByteArray × Int × Int × Int × Int × Int × Int × Int × Int × Int × Int)) × (List (ByteArray × ByteArray × Int × Int × Int × Int)) × (List (ByteArray × (List ByteArray) × Int)) × (List (List (Bool × List ByteArray))) × (List (ByteArray × ByteArray × Int)) × Int)) × (List (ByteArray × ByteArray × ByteArray × Int × Int × Int)) × Int × Int × ByteArray × (List (ByteArray × Int × Int × Int × Int × Int × Int × Int × Int × Int × Int)) × (List (ByteArray × ByteArray × Int × Int × Int × Int)) × (List (ByteArray × (List ByteArray) × Int)) × (List (List (Bool × List ByteArray))) × (List (ByteArray × ByteArray × Int)) × Int) =>
            bif decide (x5.2.1 < ((x5.2.2.2.2.2.2.2.2.2.2.2.2.1.length : Nat) : Int)) then
              (iterL (Y := (Int × Int × Int × Int × Int × Int × Int × Int × (List (ByteArray × (List (ByteArray × Int × Int × Int × Int × Int × Int × Int × Int × Int × Int)) × (List (ByteArray × ByteArray × Int × Int × Int × Int)) × (List (ByteArray × (List ByteArray) × Int)) × (List (List (Bool × List ByteArray))) × (List (ByteArray × ByteArray × Int)) × Int)) × (List (ByteArray × ByteArray × ByteArray × Int × Int × Int)) × Int × Int × ByteArray × (List (ByteArray × Int × Int × Int × Int × Int × Int × Int × Int × Int × Int)) × (List (ByteArray × ByteArray × Int × Int × Int × Int)) × (List (ByteArray × (List ByteArray) × Int)) × (List (List (Bool × List ByteArray))) × (List (ByteArray × ByteArray × Int)) × Int)) n (fun (x6 : Int × Int × Int × Int × Int × Int × Int × Int × Int × (List (ByteArray × (List (ByteArray × Int × Int × Int × Int × Int × Int × Int × Int × Int × Int)) × (List (ByteArray × ByteArray × Int × Int × Int × Int)) × (List (ByteArray × (List ByteArray) × Int)) × (List (List (Bool × List ByteArray))) × (List (ByteArray × ByteArray × Int)) × Int)) × (List (ByteArray × ByteArray × ByteArray × Int × Int × Int)) × Int × Int × ByteArray × (List (ByteArray × Int × Int × Int × Int × Int × Int × Int × Int × Int × Int)) × (List (ByteArray × ByteArray × Int × Int × Int × Int)) × (List (ByteArray × (List ByteArray) × Int)) × (List (List (Bool × List ByteArray))) × (List (ByteArray × ByteArray × Int)) × Int) =>
                bif decide (x6.2.2.2.1 < ((x6.2.2.2.2.2.2.2.2.2.2.2.2.2.2.2.2.1.length : Nat) : Int)) then
                  (iterL (Y := (Int × Int × Int × Int × Int × Int × Int × Int × Int × (List (ByteArray × (List (ByteArray × Int × Int × Int × Int × Int × Int × Int × Int × Int × Int)) × (List (ByteArray × ByteArray × Int × Int × Int × Int)) × (List (ByteArray × (List ByteArray) × Int)) × (List (List (Bool × List ByteArray))) × (List (ByteArray × ByteArray × Int)) × Int)) × (List (ByteArray × ByteArray × ByteArray × Int × Int × Int)) × Int × Int × ByteArray × (List (ByteArray × Int × Int × Int × Int × Int × Int × Int × Int × Int × Int)) × (List (ByteArray × ByteArray × Int × Int × Int × Int)) × (List (ByteArray × (List ByteArray) × Int)) × (List (List (Bool × List ByteArray))) × (List (ByteArray × ByteArray × Int)) × Int)) n (fun (x7 : Int × Int × Int × Int × Int × Int × Int × Int × Int × Int × (List (ByteArray × (List (ByteArray × Int × Int × Int × Int × Int × Int × Int × Int × Int × Int)) × (List (ByteArray × ByteArray × Int × Int × Int × Int)) × (List (ByteArray × (List ByteArray) × Int)) × (List (List (Bool × List ByteArray))) × (List (ByteArray × ByteArray × Int)) × Int)) × (List (ByteArray × ByteArray × ByteArray × Int × Int × Int)) × Int × Int × ByteArray × (List (ByteArray × Int × Int × Int × Int × Int × Int × Int × Int × Int × Int)) × (List (ByteArray × ByteArray × Int × Int × Int × Int)) × (List (ByteArray × (List ByteArray) × Int)) × (List (List (Bool × List ByteArray))) × (List (ByteArray × ByteArray × Int)) × Int) =>
                    let e1 := inB x7.2.2.2.1 x7.2.2.2.2.2.2.2.2.2.2.2.2.2.2.2.2.2.1.length
                    let e2 := (atI (ByteArray.mk #[], [], 0) x7.2.2.2.2.2.2.2.2.2.2.2.2.2.2.2.2.2.1 x7.2.2.2.1).2.1
                    let e3 := e2.length
                    bif e1 then
                      bif decide (x7.2.2.2.2.1 < ((e3 : Nat) : Int)) then
                        bif e1 then
                          bif inB x7.2.2.2.2.1 e3 then
                            bif inB x7.2.1 x7.2.2.2.2.2.2.2.2.2.2.2.2.2.2.2.1.length then
                              bif strEq (atI (ByteArray.mk #[]) e2 x7.2.2.2.2.1) (atI (ByteArray.mk #[], 0, 0, 0, 0, 0, 0, 0, 0, 0, 0) x7.2.2.2.2.2.2.2.2.2.2.2.2.2.2.2.1 x7.2.1).1 then
                                some (.inl (x7.1, x7.2.1, wrap64 (x7.2.2.1 + 1), x7.2.2.2.1, wrap64 (x7.2.2.2.2.1 + 1), x7.2.2.2.2.2))
                              else
                              some (.inl (x7.1, x7.2.1, x7.2.2.1, x7.2.2.2.1, wrap64 (x7.2.2.2.2.1 + 1), x7.2.2.2.2.2))
                            else
                            none
                          else
                          none
                        else
                        none
                      else
                      some (.inr (x7.1, x7.2.1, x7.2.2.1, x7.2.2.2.1, x7.2.2.2.2.2))
                    else
                    none) (x6.1, x6.2.1, x6.2.2.1, x6.2.2.2.1, 0, x6.2.2.2.2)).bind fun (z8 : Int × Int × Int × Int × Int × Int × Int × Int × Int × (List (ByteArray × (List (ByteArray × Int × Int × Int × Int × Int × Int × Int × Int × Int × Int)) × (List (ByteArray × ByteArray × Int × Int × Int × Int)) × (List (ByteArray × (List ByteArray) × Int)) × (List (List (Bool × List ByteArray))) × (List (ByteArray × ByteArray × Int)) × Int)) × (List (ByteArray × ByteArray × ByteArray × Int × Int × Int)) × Int × Int × ByteArray × (List (ByteArray × Int × Int × Int × Int × Int × Int × Int × Int × Int × Int)) × (List (ByteArray × ByteArray × Int × Int × Int × Int)) × (List (ByteArray × (List ByteArray) × Int)) × (List (List (Bool × List ByteArray))) × (List (ByteArray × ByteArray × Int)) × Int) =>
                    some (.inl (z8.1, z8.2.1, z8.2.2.1, wrap64 (z8.2.2.2.1 + 1), z8.2.2.2.2))
                else
                some (.inr (x6.1, x6.2.1, x6.2.2.1, x6.2.2.2.2))) (x5.1, x5.2.1, 0, 0, x5.2.2)).bind fun (z9 : Int × Int × Int × Int × Int × Int × Int × Int × (List (ByteArray × (List (ByteArray × Int × Int × Int × Int × Int × Int × Int × Int × Int × Int)) × (List (ByteArray × ByteArray × Int × Int × Int × Int)) × (List (ByteArray × (List ByteArray) × Int)) × (List (List (Bool × List ByteArray))) × (List (ByteArray × ByteArray × Int)) × Int)) × (List (ByteArray × ByteArray × ByteArray × Int × Int × Int)) × Int × Int × ByteArray × (List (ByteArray × Int × Int × Int × Int × Int × Int × Int × Int × Int × Int)) × (List (ByteArray × ByteArray × Int × Int × Int × Int)) × (List (ByteArray × (List ByteArray) × Int)) × (List (List (Bool × List ByteArray))) × (List (ByteArray × ByteArray × Int)) × Int) =>
                bif !(z9.2.2.1 == 1) then
                  some (.inr (.inl false))
                else
                some (.inl (z9.1, wrap64 (z9.2.1 + 1), z9.2.2.2))
            else
            some (.inr (.inr (x5.1, x5.2.2)))) (x4.1, 0, x4.2.1, x4.2.2.1, x4.2.2.2.1, x4.2.2.2.2.1, x4.2.2.2.2.2.1, x4.2.2.2.2.2.2.1, x4.2.2.2.2.2.2.2.1, x4.2.2.2.2.2.2.2.2.1, x4.2.2.2.2.2.2.2.2.2, atI (ByteArray.mk #[], [], [], [], [], [], 0) x4.2.2.2.2.2.2.1 x4.1)).bind (Sum.elim (fun (z10 : Bool) =>
            some (.inr (.inl z10))) (fun (z11 : Int × Int × Int × Int × Int × Int × (List (ByteArray × (List (ByteArray × Int × Int × Int × Int × Int × Int × Int × Int × Int × Int)) × (List (ByteArray × ByteArray × Int × Int × Int × Int)) × (List (ByteArray × (List ByteArray) × Int)) × (List (List (Bool × List ByteArray))) × (List (ByteArray × ByteArray × Int)) × Int)) × (List (ByteArray × ByteArray × ByteArray × Int × Int × Int)) × Int × Int × ByteArray × (List (ByteArray × Int × Int × Int × Int × Int × Int × Int × Int × Int × Int)) × (List (ByteArray × ByteArray × Int × Int × Int × Int)) × (List (ByteArray × (List ByteArray) × Int)) × (List (List (Bool × List ByteArray))) × (List (ByteArray × ByteArray × Int)) × Int) =>
            (iterL (Y := (Bool) ⊕ (Int × Int × Int × Int × Int × Int × (List (ByteArray × (List (ByteArray × Int × Int × Int × Int × Int × Int × Int × Int × Int × Int)) × (List (ByteArray × ByteArray × Int × Int × Int × Int)) × (List (ByteArray × (List ByteArray) × Int)) × (List (List (Bool × List ByteArray))) × (List (ByteArray × ByteArray × Int)) × Int)) × (List (ByteArray × ByteArray × ByteArray × Int × Int × Int)) × Int × Int × ByteArray × (List (ByteArray × Int × Int × Int × Int × Int × Int × Int × Int × Int × Int)) × (List (ByteArray × ByteArray × Int × Int × Int × Int)) × (List (ByteArray × (List ByteArray) × Int)) × (List (List (Bool × List ByteArray))) × (List (ByteArray × ByteArray × Int)) × Int)) n (fun (x12 : Int × Int × Int × Int × Int × Int × Int × (List (ByteArray × (List (ByteArray × Int × Int × Int × Int × Int × Int × Int × Int × Int × Int)) × (List (ByteArray × ByteArray × Int × Int × Int × Int)) × (List (ByteArray × (List ByteArray) × Int)) × (List (List (Bool × List ByteArray))) × (List (ByteArray × ByteArray × Int)) × Int)) × (List (ByteArray × ByteArray × ByteArray × Int × Int × Int)) × Int × Int × ByteArray × (List (ByteArray × Int × Int × Int × Int × Int × Int × Int × Int × Int × Int)) × (List (ByteArray × ByteArray × Int × Int × Int × Int)) × (List (ByteArray × (List ByteArray) × Int)) × (List (List (Bool × List ByteArray))) × (List (ByteArray × ByteArray × Int)) × Int) =>
              let e4 := x12.2.2.2.2.2.2.2.2.2.2.2.2.2.2.1.length
              bif decide (x12.2.1 < ((e4 : Nat) : Int)) then
                bif inB x12.2.1 e4 then
                  (law07_count n (x12.2.2.2.2.2.2.2.2.2.2.2.1, x12.2.2.2.2.2.2.2.2.2.2.2.2.1, x12.2.2.2.2.2.2.2.2.2.2.2.2.2.1, x12.2.2.2.2.2.2.2.2.2.2.2.2.2.2.1, x12.2.2.2.2.2.2.2.2.2.2.2.2.2.2.2.1, x12.2.2.2.2.2.2.2.2.2.2.2.2.2.2.2.2.1, x12.2.2.2.2.2.2.2.2.2.2.2.2.2.2.2.2.2, (atI (ByteArray.mk #[], [], 0) x12.2.2.2.2.2.2.2.2.2.2.2.2.2.2.1 x12.2.1).1)).bind fun y13 =>
                  bif !(y13 == 1) then
                    some (.inr (.inl false))
                  else
                  some (.inl (x12.1, wrap64 (x12.2.1 + 1), x12.2.2))
                else
                none
              else
              some (.inr (.inr (x12.1, x12.2.2)))) (z11.1, 0, z11.2)).bind (Sum.elim (fun (z14 : Bool) =>
              some (.inr (.inl z14))) (fun (z15 : Int × Int × Int × Int × Int × Int × (List (ByteArray × (List (ByteArray × Int × Int × Int × Int × Int × Int × Int × Int × Int × Int)) × (List (ByteArray × ByteArray × Int × Int × Int × Int)) × (List (ByteArray × (List ByteArray) × Int)) × (List (List (Bool × List ByteArray))) × (List (ByteArray × ByteArray × Int)) × Int)) × (List (ByteArray × ByteArray × ByteArray × Int × Int × Int)) × Int × Int × ByteArray × (List (ByteArray × Int × Int × Int × Int × Int × Int × Int × Int × Int × Int)) × (List (ByteArray × ByteArray × Int × Int × Int × Int)) × (List (ByteArray × (List ByteArray) × Int)) × (List (List (Bool × List ByteArray))) × (List (ByteArray × ByteArray × Int)) × Int) =>
              (iterL (Y := (Bool) ⊕ (Int × Int × Int × Int × Int × Int × (List (ByteArray × (List (ByteArray × Int × Int × Int × Int × Int × Int × Int × Int × Int × Int)) × (List (ByteArray × ByteArray × Int × Int × Int × Int)) × (List (ByteArray × (List ByteArray) × Int)) × (List (List (Bool × List ByteArray))) × (List (ByteArray × ByteArray × Int)) × Int)) × (List (ByteArray × ByteArray × ByteArray × Int × Int × Int)) × Int × Int)) n (fun (x16 : Int × Int × Int × Int × Int × Int × Int × (List (ByteArray × (List (ByteArray × Int × Int × Int × Int × Int × Int × Int × Int × Int × Int)) × (List (ByteArray × ByteArray × Int × Int × Int × Int)) × (List (ByteArray × (List ByteArray) × Int)) × (List (List (Bool × List ByteArray))) × (List (ByteArray × ByteArray × Int)) × Int)) × (List (ByteArray × ByteArray × ByteArray × Int × Int × Int)) × Int × Int × ByteArray × (List (ByteArray × Int × Int × Int × Int × Int × Int × Int × Int × Int × Int)) × (List (ByteArray × ByteArray × Int × Int × Int × Int)) × (List (ByteArray × (List ByteArray) × Int)) × (List (List (Bool × List ByteArray))) × (List (ByteArray × ByteArray × Int)) × Int) =>
                let e5 := x16.2.2.2.2.2.2.2.2.2.2.2.2.2.2.2.2.1.length
                let e6 := inB x16.2.1 e5
                let e7 := atI (ByteArray.mk #[], ByteArray.mk #[], 0) x16.2.2.2.2.2.2.2.2.2.2.2.2.2.2.2.2.1 x16.2.1
                bif decide (x16.2.1 < ((e5 : Nat) : Int)) then
                  letJ (fun (x20 : Int × Int × Bool × Int × Int × Int × Int × Int × (List (ByteArray × (List (ByteArray × Int × Int × Int × Int × Int × Int × Int × Int × Int × Int)) × (List (ByteArray × ByteArray × Int × Int × Int × Int)) × (List (ByteArray × (List ByteArray) × Int)) × (List (List (Bool × List ByteArray))) × (List (ByteArray × ByteArray × Int)) × Int)) × (List (ByteArray × ByteArray × ByteArray × Int × Int × Int)) × Int × Int × ByteArray × (List (ByteArray × Int × Int × Int × Int × Int × Int × Int × Int × Int × Int)) × (List (ByteArray × ByteArray × Int × Int × Int × Int)) × (List (ByteArray × (List ByteArray) × Int)) × (List (List (Bool × List ByteArray))) × (List (ByteArray × ByteArray × Int)) × Int) =>
                    bif x20.2.2.1 then
                      some (.inr (.inl false))
                    else
                    some (.inl (x20.1, wrap64 (x20.2.1 + 1), x20.2.2.2))) fun J21 =>
                  bif e6 then
                    (valid_Home n (x16.2.2.2.2.2.2.2.2.2.2.2.1, x16.2.2.2.2.2.2.2.2.2.2.2.2.1, x16.2.2.2.2.2.2.2.2.2.2.2.2.2.1, x16.2.2.2.2.2.2.2.2.2.2.2.2.2.2.1, x16.2.2.2.2.2.2.2.2.2.2.2.2.2.2.2.1, x16.2.2.2.2.2.2.2.2.2.2.2.2.2.2.2.2.1, x16.2.2.2.2.2.2.2.2.2.2.2.2.2.2.2.2.2, e7.1)).bind fun y17 =>
                    bif e6 then
                      (valid_Home n (x16.2.2.2.2.2.2.2.2.2.2.2.1, x16.2.2.2.2.2.2.2.2.2.2.2.2.1, x16.2.2.2.2.2.2.2.2.2.2.2.2.2.1, x16.2.2.2.2.2.2.2.2.2.2.2.2.2.2.1, x16.2.2.2.2.2.2.2.2.2.2.2.2.2.2.2.1, x16.2.2.2.2.2.2.2.2.2.2.2.2.2.2.2.2.1, x16.2.2.2.2.2.2.2.2.2.2.2.2.2.2.2.2.2, e7.2.1)).bind fun y18 =>
                      bif y17 == y18 then
                        J21 (x16.1, x16.2.1, true, x16.2.2)
                      else
                      bif e6 then
                        (valid_Home n (x16.2.2.2.2.2.2.2.2.2.2.2.1, x16.2.2.2.2.2.2.2.2.2.2.2.2.1, x16.2.2.2.2.2.2.2.2.2.2.2.2.2.1, x16.2.2.2.2.2.2.2.2.2.2.2.2.2.2.1, x16.2.2.2.2.2.2.2.2.2.2.2.2.2.2.2.1, x16.2.2.2.2.2.2.2.2.2.2.2.2.2.2.2.2.1, x16.2.2.2.2.2.2.2.2.2.2.2.2.2.2.2.2.2, e7.1)).bind fun y19 =>
                        J21 (x16.1, x16.2.1, decide (y19 < 0), x16.2.2)
                      else
                      none
                    else
                    none
                  else
                  none
                else
                some (.inr (.inr (x16.1, x16.2.2.1, x16.2.2.2.1, x16.2.2.2.2.1, x16.2.2.2.2.2.1, x16.2.2.2.2.2.2.1, x16.2.2.2.2.2.2.2.1, x16.2.2.2.2.2.2.2.2.1, x16.2.2.2.2.2.2.2.2.2.1, x16.2.2.2.2.2.2.2.2.2.2.1)))) (z15.1, 0, z15.2)).bind (Sum.elim (fun (z22 : Bool) =>
                some (.inr (.inl z22))) (fun (z23 : Int × Int × Int × Int × Int × Int × (List (ByteArray × (List (ByteArray × Int × Int × Int × Int × Int × Int × Int × Int × Int × Int)) × (List (ByteArray × ByteArray × Int × Int × Int × Int)) × (List (ByteArray × (List ByteArray) × Int)) × (List (List (Bool × List ByteArray))) × (List (ByteArray × ByteArray × Int)) × Int)) × (List (ByteArray × ByteArray × ByteArray × Int × Int × Int)) × Int × Int) =>
                some (.inl (wrap64 (z23.1 + 1), z23.2))))))))
        else
        none
      else
      some (.inr (.inr ()))) (0, x0)).bind (Sum.elim (fun (z24 : Bool) =>
      some z24) (fun (z25 : Unit) =>
      (law07_awake n ()).bind fun y26 =>
      some y26))
def p_law07_ValidOnce : Plan := .two (.leaf) (.two (.leaf) (.two (.leaf) (.two (.leaf) (.two (.two (.leaf) (.one (.loop ⟨slotsOf 133 [(1, .c (.box 1 0)), (5, .c (.hole (.int .i64)))], [(1, 27, [.hole (.int .i64), .hole (.int .i64), .hole (.int .i64), .hole (.int .i64), .hole (.int .i64), .hole (.sl 39), .hole (.sl 53), .hole (.int .i64), .hole (.int .i64)])], []⟩ [(.ret, ⟨slotsOf 133 [(2, .c (.hole (.bool)))], [], []⟩), (.exit 0, ⟨slotsOf 133 [], [], []⟩)] (.two (.leaf) (.two (.one (.two (.leaf) (.two (.two (.leaf) (.one (.loop ⟨slotsOf 133 [(1, .c (.box 1 0)), (5, .c (.hole (.int .i64))), (6, .c (.box 6 0)), (7, .c (.hole (.int .i64)))], [(1, 27, [.hole (.int .i64), .hole (.int .i64), .hole (.int .i64), .hole (.int .i64), .hole (.int .i64), .hole (.sl 39), .hole (.sl 53), .hole (.int .i64), .hole (.int .i64)]), (6, 39, [.hole (.str), .hole (.sl 44), .hole (.sl 78), .hole (.sl 42), .hole (.sl 67), .hole (.sl 47), .hole (.int .i64)])], []⟩ [(.ret, ⟨slotsOf 133 [(2, .c (.hole (.bool)))], [], []⟩), (.exit 2, ⟨slotsOf 133 [(1, .c (.box 1 0)), (5, .c (.hole (.int .i64))), (6, .c (.box 6 0))], [(1, 27, [.hole (.int .i64), .hole (.int .i64), .hole (.int .i64), .hole (.int .i64), .hole (.int .i64), .hole (.sl 39), .hole (.sl 53), .hole (.int .i64), .hole (.int .i64)]), (6, 39, [.hole (.str), .hole (.sl 44), .hole (.sl 78), .hole (.sl 42), .hole (.sl 67), .hole (.sl 47), .hole (.int .i64)])], []⟩)] (.two (.leaf) (.two (.one (.two (.leaf) (.two (.two (.leaf) (.one (.loop ⟨slotsOf 133 [(1, .c (.box 1 0)), (5, .c (.hole (.int .i64))), (6, .c (.box 6 0)), (7, .c (.hole (.int .i64))), (8, .c (.hole (.int .i64))), (9, .c (.hole (.int .i64)))], [(1, 27, [.hole (.int .i64), .hole (.int .i64), .hole (.int .i64), .hole (.int .i64), .hole (.int .i64), .hole (.sl 39), .hole (.sl 53), .hole (.int .i64), .hole (.int .i64)]), (6, 39, [.hole (.str), .hole (.sl 44), .hole (.sl 78), .hole (.sl 42), .hole (.sl 67), .hole (.sl 47), .hole (.int .i64)])], []⟩ [(.exit 4, ⟨slotsOf 133 [(1, .c (.box 1 0)), (5, .c (.hole (.int .i64))), (6, .c (.box 6 0)), (7, .c (.hole (.int .i64))), (8, .c (.hole (.int .i64)))], [(1, 27, [.hole (.int .i64), .hole (.int .i64), .hole (.int .i64), .hole (.int .i64), .hole (.int .i64), .hole (.sl 39), .hole (.sl 53), .hole (.int .i64), .hole (.int .i64)]), (6, 39, [.hole (.str), .hole (.sl 44), .hole (.sl 78), .hole (.sl 42), .hole (.sl 67), .hole (.sl 47), .hole (.int .i64)])], []⟩)] (.two (.leaf) (.two (.one (.two (.leaf) (.one (.loop ⟨slotsOf 133 [(1, .c (.box 1 0)), (5, .c (.hole (.int .i64))), (6, .c (.box 6 0)), (7, .c (.hole (.int .i64))), (8, .c (.hole (.int .i64))), (9, .c (.hole (.int .i64))), (10, .c (.hole (.int .i64)))], [(1, 27, [.hole (.int .i64), .hole (.int .i64), .hole (.int .i64), .hole (.int .i64), .hole (.int .i64), .hole (.sl 39), .hole (.sl 53), .hole (.int .i64), .hole (.int .i64)]), (6, 39, [.hole (.str), .hole (.sl 44), .hole (.sl 78), .hole (.sl 42), .hole (.sl 67), .hole (.sl 47), .hole (.int .i64)])], []⟩ [(.exit 6, ⟨slotsOf 133 [(1, .c (.box 1 0)), (5, .c (.hole (.int .i64))), (6, .c (.box 6 0)), (7, .c (.hole (.int .i64))), (8, .c (.hole (.int .i64))), (9, .c (.hole (.int .i64)))], [(1, 27, [.hole (.int .i64), .hole (.int .i64), .hole (.int .i64), .hole (.int .i64), .hole (.int .i64), .hole (.sl 39), .hole (.sl 53), .hole (.int .i64), .hole (.int .i64)]), (6, 39, [.hole (.str), .hole (.sl 44), .hole (.sl 78), .hole (.sl 42), .hole (.sl 67), .hole (.sl 47), .hole (.int .i64)])], []⟩)] (.leaf))))) (.leaf)))))) (.leaf)))) (.leaf)))))) (.two (.two (.leaf) (.one (.loop ⟨slotsOf 133 [(1, .c (.box 1 0)), (5, .c (.hole (.int .i64))), (6, .c (.box 6 0)), (11, .c (.hole (.int .i64)))], [(1, 27, [.hole (.int .i64), .hole (.int .i64), .hole (.int .i64), .hole (.int .i64), .hole (.int .i64), .hole (.sl 39), .hole (.sl 53), .hole (.int .i64), .hole (.int .i64)]), (6, 39, [.hole (.str), .hole (.sl 44), .hole (.sl 78), .hole (.sl 42), .hole (.sl 67), .hole (.sl 47), .hole (.int .i64)])], []⟩ [(.ret, ⟨slotsOf 133 [(2, .c (.hole (.bool)))], [], []⟩), (.exit 8, ⟨slotsOf 133 [(1, .c (.box 1 0)), (5, .c (.hole (.int .i64))), (6, .c (.box 6 0))], [(1, 27, [.hole (.int .i64), .hole (.int .i64), .hole (.int .i64), .hole (.int .i64), .hole (.int .i64), .hole (.sl 39), .hole (.sl 53), .hole (.int .i64), .hole (.int .i64)]), (6, 39, [.hole (.str), .hole (.sl 44), .hole (.sl 78), .hole (.sl 42), .hole (.sl 67), .hole (.sl 47), .hole (.int .i64)])], []⟩)] (.leaf)))) (.two (.leaf) (.one (.loop ⟨slotsOf 133 [(1, .c (.box 1 0)), (5, .c (.hole (.int .i64))), (6, .c (.box 6 0)), (12, .c (.hole (.int .i64)))], [(1, 27, [.hole (.int .i64), .hole (.int .i64), .hole (.int .i64), .hole (.int .i64), .hole (.int .i64), .hole (.sl 39), .hole (.sl 53), .hole (.int .i64), .hole (.int .i64)]), (6, 39, [.hole (.str), .hole (.sl 44), .hole (.sl 78), .hole (.sl 42), .hole (.sl 67), .hole (.sl 47), .hole (.int .i64)])], []⟩ [(.ret, ⟨slotsOf 133 [(2, .c (.hole (.bool)))], [], []⟩), (.exit 10, ⟨slotsOf 133 [(1, .c (.box 1 0)), (5, .c (.hole (.int .i64)))], [(1, 27, [.hole (.int .i64), .hole (.int .i64), .hole (.int .i64), .hole (.int .i64), .hole (.int .i64), .hole (.sl 39), .hole (.sl 53), .hole (.int .i64), .hole (.int .i64)])], []⟩)] (.two (.leaf) (.two (.one (.two (.join ⟨slotsOf 133 [(1, .c (.box 1 0)), (5, .c (.hole (.int .i64))), (6, .c (.box 6 0)), (12, .c (.hole (.int .i64))), (131, .c (.hole (.bool)))], [(1, 27, [.hole (.int .i64), .hole (.int .i64), .hole (.int .i64), .hole (.int .i64), .hole (.int .i64), .hole (.sl 39), .hole (.sl 53), .hole (.int .i64), .hole (.int .i64)]), (6, 39, [.hole (.str), .hole (.sl 44), .hole (.sl 78), .hole (.sl 42), .hole (.sl 67), .hole (.sl 47), .hole (.int .i64)])], []⟩ (.leaf)) (.leaf))) (.leaf)))))))))) (.leaf)))))) (.leaf)))))
noncomputable def c_law07_ValidOnce (b n : Nat) : Cx := ⟨Go.Proofs.Try.prog, (Θ b), [23], [(8, ⟨h_valid_Check, o_valid_Check, valid_Check n⟩), (10, ⟨h_law07_awake, o_law07_awake, law07_awake n⟩), (7, ⟨h_law06_Few, o_law06_Few, law06_Few n⟩), (11, ⟨h_law07_count, o_law07_count, law07_count n⟩), (12, ⟨h_valid_Home, o_valid_Home, valid_Home n⟩)], [], [], []⟩
theorem d_law07_ValidOnce (b n : Nat) (x : h_law07_ValidOnce.X T) : denF (c_law07_ValidOnce b n) n Go.Proofs.Try.f5 p_law07_ValidOnce h_law07_ValidOnce o_law07_ValidOnce x = law07_ValidOnce n x := by kernel_rfl
theorem s_law07_ValidOnce (b n : Nat) : PCalls Go.Proofs.Try.prog (Θ b) 5 ⟨h_law07_ValidOnce, o_law07_ValidOnce, law07_ValidOnce n⟩ :=
  func_ok' (C := c_law07_ValidOnce b n) (n := n) (p := p_law07_ValidOnce) (ok_of mixed eqsOk ⟨s_valid_Check b n, s_law07_awake b n, s_law06_Few b n, s_law07_count b n, s_valid_Home b n, trivial⟩ trivial trivial) Go.Proofs.Try.func5 (by kernel_rfl) (by kernel_rfl) (d_law07_ValidOnce b n) (by kernel_rfl)
end Go.Proofs.Ytbcejiobmeglgaa.Fn
