/- Functions of the program, each as a plain function, and that the machine does what it says. -/
import Derived.Test.YtbcejiobmeglgaaFnS0
namespace Go.Proofs.Ytbcejiobmeglgaa.Fn
set_option linter.unusedVariables false
set_option maxRecDepth 100000
open Go Go.RowKit Go.Den
def h_valid_node : Shape := ⟨slotsOf 1 [(0, .agg [.hole (.str), .hole (.sl 44), .hole (.sl 78), .hole (.sl 42), .hole (.sl 67), .hole (.sl 47), .hole (.int .i64)])], [], []⟩
def o_valid_node : List (Ex × Shape) := [(.pan 55, ⟨slotsOf 1 [(0, .agg [.hole (.int .i64), .hole (.int .i64)])], [], []⟩), (.ret, ⟨slotsOf 0 [], [], []⟩)]
def valid_node (n : Nat) (x0 : ByteArray × (List (ByteArray × Int × Int × Int × Int × Int × Int × Int × Int × Int × Int)) × (List (ByteArray × ByteArray × Int × Int × Int × Int)) × (List (ByteArray × (List ByteArray) × Int)) × (List (List (Bool × List ByteArray))) × (List (ByteArray × ByteArray × Int)) × Int) : Option ((Int × Int) ⊕ (Unit)) :=
  (valid_checker_sizes n (x0.1, x0.2.1, x0.2.2.1, x0.2.2.2.1, x0.2.2.2.2.1, x0.2.2.2.2.2.1, x0.2.2.2.2.2.2, [], [], [])).bind (Sum.elim (fun (y2 : Int × Int) =>
    some (.inl y2)) (fun (y3 : ByteArray × (List (ByteArray × Int × Int × Int × Int × Int × Int × Int × Int × Int × Int)) × (List (ByteArray × ByteArray × Int × Int × Int × Int)) × (List (ByteArray × (List ByteArray) × Int)) × (List (List (Bool × List ByteArray))) × (List (ByteArray × ByteArray × Int)) × Int × (List (ByteArray × Bool)) × (List (ByteArray × Bool)) × List (ByteArray × Int)) =>
    (iterL (Y := (Int × Int) ⊕ (ByteArray × (List (ByteArray × Int × Int × Int × Int × Int × Int × Int × Int × Int × Int)) × (List (ByteArray × ByteArray × Int × Int × Int × Int)) × (List (ByteArray × (List ByteArray) × Int)) × (List (List (Bool × List ByteArray))) × (List (ByteArray × ByteArray × Int)) × Int × ByteArray × (List (ByteArray × Int × Int × Int × Int × Int × Int × Int × Int × Int × Int)) × (List (ByteArray × ByteArray × Int × Int × Int × Int)) × (List (ByteArray × (List ByteArray) × Int)) × (List (List (Bool × List ByteArray))) × (List (ByteArray × ByteArray × Int)) × Int × (List (ByteArray × Bool)) × (List (ByteArray × Bool)) × List (ByteArray × Int))) n (fun (x4 : (List (ByteArray × Int × Int × Int × Int × Int × Int × Int × Int × Int × Int)) × Int × Int × ByteArray × (List (ByteArray × Int × Int × Int × Int × Int × Int × Int × Int × Int × Int)) × (List (ByteArray × ByteArray × Int × Int × Int × Int)) × (List (ByteArray × (List ByteArray) × Int)) × (List (List (Bool × List ByteArray))) × (List (ByteArray × ByteArray × Int)) × Int × ByteArray × (List (ByteArray × Int × Int × Int × Int × Int × Int × Int × Int × Int × Int)) × (List (ByteArray × ByteArray × Int × Int × Int × Int)) × (List (ByteArray × (List ByteArray) × Int)) × (List (List (Bool × List ByteArray))) × (List (ByteArray × ByteArray × Int)) × Int × (List (ByteArray × Bool)) × (List (ByteArray × Bool)) × List (ByteArray × Int)) =>
      let e0 := atI (ByteArray.mk #[], 0, 0, 0, 0, 0, 0, 0, 0, 0, 0) x4.1 x4.2.2.1
      let e1 := e0.2
      let e2 := e0.2.2
      let e3 := e0.2.2.2
      let e4 := e0.2.2.2.2
      let e5 := e0.2.2.2.2.2
      let e6 := e0.2.2.2.2.2.2
      let e7 := e0.2.2.2.2.2.2.2
      let e8 := e0.2.2.2.2.2.2.2.2
      let e9 := e0.2.2.2.2.2.2.2.2.2
      bif decide (x4.2.2.1 < x4.2.1) then
        bif inB x4.2.2.1 x4.1.length then
          (valid_checker_head n (e0.1, e0.2.1, e0.2.2.1, e0.2.2.2.1, e0.2.2.2.2.1, e0.2.2.2.2.2.1, e0.2.2.2.2.2.2.1, e0.2.2.2.2.2.2.2.1, e0.2.2.2.2.2.2.2.2.1, e0.2.2.2.2.2.2.2.2.2.1, e0.2.2.2.2.2.2.2.2.2.2, x4.2.2.2.2.2.2.2.2.2.2)).bind (Sum.elim (fun (y6 : Int × Int) =>
            some (.inr (.inl y6))) (fun (y7 : ByteArray × (List (ByteArray × Int × Int × Int × Int × Int × Int × Int × Int × Int × Int)) × (List (ByteArray × ByteArray × Int × Int × Int × Int)) × (List (ByteArray × (List ByteArray) × Int)) × (List (List (Bool × List ByteArray))) × (List (ByteArray × ByteArray × Int)) × Int × (List (ByteArray × Bool)) × (List (ByteArray × Bool)) × List (ByteArray × Int)) =>
            some (.inl (x4.1, x4.2.1, wrap64 (x4.2.2.1 + 1), x4.2.2.2.1, x4.2.2.2.2.1, x4.2.2.2.2.2.1, x4.2.2.2.2.2.2.1, x4.2.2.2.2.2.2.2.1, x4.2.2.2.2.2.2.2.2.1, x4.2.2.2.2.2.2.2.2.2.1, y7))))
        else
        none
      else
      some (.inr (.inr x4.2.2.2))) (x0.2.1, ((x0.2.1.length : Nat) : Int), 0, x0.1, x0.2.1, x0.2.2.1, x0.2.2.2.1, x0.2.2.2.2.1, x0.2.2.2.2.2.1, x0.2.2.2.2.2.2, y3)).bind (Sum.elim (fun (z8 : Int × Int) =>
      some (.inl z8)) (fun (z9 : ByteArray × (List (ByteArray × Int × Int × Int × Int × Int × Int × Int × Int × Int × Int)) × (List (ByteArray × ByteArray × Int × Int × Int × Int)) × (List (ByteArray × (List ByteArray) × Int)) × (List (List (Bool × List ByteArray))) × (List (ByteArray × ByteArray × Int)) × Int × ByteArray × (List (ByteArray × Int × Int × Int × Int × Int × Int × Int × Int × Int × Int)) × (List (ByteArray × ByteArray × Int × Int × Int × Int)) × (List (ByteArray × (List ByteArray) × Int)) × (List (List (Bool × List ByteArray))) × (List (ByteArray × ByteArray × Int)) × Int × (List (ByteArray × Bool)) × (List (ByteArray × Bool)) × List (ByteArray × Int)) =>
      (iterL (Y := (Int × Int) ⊕ (ByteArray × (List (ByteArray × Int × Int × Int × Int × Int × Int × Int × Int × Int × Int)) × (List (ByteArray × ByteArray × Int × Int × Int × Int)) × (List (ByteArray × (List ByteArray) × Int)) × (List (List (Bool × List ByteArray))) × (List (ByteArray × ByteArray × Int)) × Int × ByteArray × (List (ByteArray × Int × Int × Int × Int × Int × Int × Int × Int × Int × Int)) × (List (ByteArray × ByteArray × Int × Int × Int × Int)) × (List (ByteArray × (List ByteArray) × Int)) × (List (List (Bool × List ByteArray))) × (List (ByteArray × ByteArray × Int)) × Int × (List (ByteArray × Bool)) × (List (ByteArray × Bool)) × List (ByteArray × Int))) n (fun (x10 : (List (ByteArray × (List ByteArray) × Int)) × Int × Int × ByteArray × (List (ByteArray × Int × Int × Int × Int × Int × Int × Int × Int × Int × Int)) × (List (ByteArray × ByteArray × Int × Int × Int × Int)) × (List (ByteArray × (List ByteArray) × Int)) × (List (List (Bool × List ByteArray))) × (List (ByteArray × ByteArray × Int)) × Int × ByteArray × (List (ByteArray × Int × Int × Int × Int × Int × Int × Int × Int × Int × Int)) × (List (ByteArray × ByteArray × Int × Int × Int × Int)) × (List (ByteArray × (List ByteArray) × Int)) × (List (List (Bool × List ByteArray))) × (List (ByteArray × ByteArray × Int)) × Int × (List (ByteArray × Bool)) × (List (ByteArray × Bool)) × List (ByteArray × Int)) =>
        let e10 := atI (ByteArray.mk #[], [], 0) x10.1 x10.2.2.1
        let e11 := e10.2
        bif decide (x10.2.2.1 < x10.2.1) then
          bif inB x10.2.2.1 x10.1.length then
            (valid_checker_phase n (x10.2.2.1, e10.1, e10.2.1, e10.2.2, x10.2.2.2.2.2.2.2.2.2.2)).bind (Sum.elim (fun (y12 : Int × Int) =>
              some (.inr (.inl y12))) (fun (y13 : ByteArray × (List (ByteArray × Int × Int × Int × Int × Int × Int × Int × Int × Int × Int)) × (List (ByteArray × ByteArray × Int × Int × Int × Int)) × (List (ByteArray × (List ByteArray) × Int)) × (List (List (Bool × List ByteArray))) × (List (ByteArray × ByteArray × Int)) × Int × (List (ByteArray × Bool)) × (List (ByteArray × Bool)) × List (ByteArray × Int)) =>
              some (.inl (x10.1, x10.2.1, wrap64 (x10.2.2.1 + 1), x10.2.2.2.1, x10.2.2.2.2.1, x10.2.2.2.2.2.1, x10.2.2.2.2.2.2.1, x10.2.2.2.2.2.2.2.1, x10.2.2.2.2.2.2.2.2.1, x10.2.2.2.2.2.2.2.2.2.1, y13.1, y13.2.1, y13.2.2.1, y13.2.2.2.1, y13.2.2.2.2.1, y13.2.2.2.2.2.1, y13.2.2.2.2.2.2.1, y13.2.2.2.2.2.2.2.2.1, y13.2.2.2.2.2.2.2.1, y13.2.2.2.2.2.2.2.2.2))))
          else
          none
        else
        some (.inr (.inr x10.2.2.2))) (z9.2.2.2.1, ((z9.2.2.2.1.length : Nat) : Int), 0, z9)).bind (Sum.elim (fun (z14 : Int × Int) =>
        some (.inl z14)) (fun (z15 : ByteArray × (List (ByteArray × Int × Int × Int × Int × Int × Int × Int × Int × Int × Int)) × (List (ByteArray × ByteArray × Int × Int × Int × Int)) × (List (ByteArray × (List ByteArray) × Int)) × (List (List (Bool × List ByteArray))) × (List (ByteArray × ByteArray × Int)) × Int × ByteArray × (List (ByteArray × Int × Int × Int × Int × Int × Int × Int × Int × Int × Int)) × (List (ByteArray × ByteArray × Int × Int × Int × Int)) × (List (ByteArray × (List ByteArray) × Int)) × (List (List (Bool × List ByteArray))) × (List (ByteArray × ByteArray × Int)) × Int × (List (ByteArray × Bool)) × (List (ByteArray × Bool)) × List (ByteArray × Int)) =>
        (iterL (Y := (Int × Int) ⊕ (ByteArray × (List (ByteArray × Int × Int × Int × Int × Int × Int × Int × Int × Int × Int)) × (List (ByteArray × ByteArray × Int × Int × Int × Int)) × (List (ByteArray × (List ByteArray) × Int)) × (List (List (Bool × List ByteArray))) × (List (ByteArray × ByteArray × Int)) × Int × (List (ByteArray × Bool)) × (List (ByteArray × Bool)) × List (ByteArray × Int))) n (fun (x16 : (List (ByteArray × Int × Int × Int × Int × Int × Int × Int × Int × Int × Int)) × Int × Int × ByteArray × (List (ByteArray × Int × Int × Int × Int × Int × Int × Int × Int × Int × Int)) × (List (ByteArray × ByteArray × Int × Int × Int × Int)) × (List (ByteArray × (List ByteArray) × Int)) × (List (List (Bool × List ByteArray))) × (List (ByteArray × ByteArray × Int)) × Int × (List (ByteArray × Bool)) × (List (ByteArray × Bool)) × List (ByteArray × Int)) =>
          let e12 := atI (ByteArray.mk #[], 0, 0, 0, 0, 0, 0, 0, 0, 0, 0) x16.1 x16.2.2.1
          bif decide (x16.2.2.1 < x16.2.1) then
            bif inB x16.2.2.1 x16.1.length then
              (valid_must n (mhas e12.1 x16.2.2.2.2.2.2.2.2.2.2.2.2, 73, e12.2.2.2.2.2.2.2.2.2.2)).bind (Sum.elim (fun (y18 : Int × Int) =>
                some (.inr (.inl y18))) (fun (y19 : Unit) =>
                some (.inl (x16.1, x16.2.1, wrap64 (x16.2.2.1 + 1), x16.2.2.2))))
            else
            none
          else
          some (.inr (.inr x16.2.2.2))) (z15.2.1, ((z15.2.1.length : Nat) : Int), 0, z15.2.2.2.2.2.2.2)).bind (Sum.elim (fun (z20 : Int × Int) =>
          some (.inl z20)) (fun (z21 : ByteArray × (List (ByteArray × Int × Int × Int × Int × Int × Int × Int × Int × Int × Int)) × (List (ByteArray × ByteArray × Int × Int × Int × Int)) × (List (ByteArray × (List ByteArray) × Int)) × (List (List (Bool × List ByteArray))) × (List (ByteArray × ByteArray × Int)) × Int × (List (ByteArray × Bool)) × (List (ByteArray × Bool)) × List (ByteArray × Int)) =>
          (valid_checker_walks n z21).bind (Sum.elim (fun (y23 : Int × Int) =>
            some (.inl y23)) (fun (y24 : ByteArray × (List (ByteArray × Int × Int × Int × Int × Int × Int × Int × Int × Int × Int)) × (List (ByteArray × ByteArray × Int × Int × Int × Int)) × (List (ByteArray × (List ByteArray) × Int)) × (List (List (Bool × List ByteArray))) × (List (ByteArray × ByteArray × Int)) × Int × (List (ByteArray × Bool)) × (List (ByteArray × Bool)) × List (ByteArray × Int)) =>
            (valid_checker_rings n y24).bind (Sum.elim (fun (y26 : Int × Int) =>
              some (.inl y26)) (fun (y27 : ByteArray × (List (ByteArray × Int × Int × Int × Int × Int × Int × Int × Int × Int × Int)) × (List (ByteArray × ByteArray × Int × Int × Int × Int)) × (List (ByteArray × (List ByteArray) × Int)) × (List (List (Bool × List ByteArray))) × (List (ByteArray × ByteArray × Int)) × Int × (List (ByteArray × Bool)) × (List (ByteArray × Bool)) × List (ByteArray × Int)) =>
              (valid_checker_foes n y27).bind (Sum.elim (fun (y29 : Int × Int) =>
                some (.inl y29)) (fun (y30 : ByteArray × (List (ByteArray × Int × Int × Int × Int × Int × Int × Int × Int × Int × Int)) × (List (ByteArray × ByteArray × Int × Int × Int × Int)) × (List (ByteArray × (List ByteArray) × Int)) × (List (List (Bool × List ByteArray))) × (List (ByteArray × ByteArray × Int)) × Int × (List (ByteArray × Bool)) × (List (ByteArray × Bool)) × List (ByteArray × Int)) =>
                some (.inr ())))))))))))))))
def p_valid_node : Plan := .two (.leaf) (.two (.leaf) (.two (.leaf) (.two (.two (.leaf) (.one (.loop ⟨slotsOf 71 [(1, .c (.box 1 0)), (2, .c (.box 16 0)), (20, .c (.hole (.sl 44))), (21, .c (.hole (.int .i64))), (22, .c (.hole (.int .i64)))], [(1, 39, [.hole (.str), .hole (.sl 44), .hole (.sl 78), .hole (.sl 42), .hole (.sl 67), .hole (.sl 47), .hole (.int .i64)]), (16, 85, [.hole (.str), .hole (.sl 44), .hole (.sl 78), .hole (.sl 42), .hole (.sl 67), .hole (.sl 47), .hole (.int .i64), .row 12, .row 13, .row 14])], [(12, 1000116), (13, 1000116), (14, 1000166)]⟩ [(.pan 55, ⟨slotsOf 1 [(0, .agg [.hole (.int .i64), .hole (.int .i64)])], [], []⟩), (.exit 0, ⟨slotsOf 71 [(1, .c (.box 1 0)), (2, .c (.box 16 0))], [(1, 39, [.hole (.str), .hole (.sl 44), .hole (.sl 78), .hole (.sl 42), .hole (.sl 67), .hole (.sl 47), .hole (.int .i64)]), (16, 85, [.hole (.str), .hole (.sl 44), .hole (.sl 78), .hole (.sl 42), .hole (.sl 67), .hole (.sl 47), .hole (.int .i64), .row 12, .row 13, .row 14])], [(12, 1000116), (13, 1000116), (14, 1000166)]⟩)] (.leaf)))) (.two (.two (.leaf) (.one (.loop ⟨slotsOf 71 [(1, .c (.box 1 0)), (2, .c (.box 16 0)), (31, .c (.hole (.sl 42))), (32, .c (.hole (.int .i64))), (33, .c (.hole (.int .i64)))], [(1, 39, [.hole (.str), .hole (.sl 44), .hole (.sl 78), .hole (.sl 42), .hole (.sl 67), .hole (.sl 47), .hole (.int .i64)]), (16, 85, [.hole (.str), .hole (.sl 44), .hole (.sl 78), .hole (.sl 42), .hole (.sl 67), .hole (.sl 47), .hole (.int .i64), .row 12, .row 13, .row 14])], [(12, 1000116), (13, 1000116), (14, 1000166)]⟩ [(.pan 55, ⟨slotsOf 1 [(0, .agg [.hole (.int .i64), .hole (.int .i64)])], [], []⟩), (.exit 2, ⟨slotsOf 71 [(1, .c (.box 1 0)), (2, .c (.box 16 0))], [(1, 39, [.hole (.str), .hole (.sl 44), .hole (.sl 78), .hole (.sl 42), .hole (.sl 67), .hole (.sl 47), .hole (.int .i64)]), (16, 85, [.hole (.str), .hole (.sl 44), .hole (.sl 78), .hole (.sl 42), .hole (.sl 67), .hole (.sl 47), .hole (.int .i64), .row 12, .row 13, .row 14])], [(12, 1000116), (13, 1000116), (14, 1000166)]⟩)] (.leaf)))) (.two (.two (.leaf) (.one (.loop ⟨slotsOf 71 [(2, .c (.box 16 0)), (44, .c (.hole (.sl 44))), (45, .c (.hole (.int .i64))), (46, .c (.hole (.int .i64)))], [(16, 85, [.hole (.str), .hole (.sl 44), .hole (.sl 78), .hole (.sl 42), .hole (.sl 67), .hole (.sl 47), .hole (.int .i64), .row 12, .row 13, .row 14])], [(12, 1000116), (13, 1000116), (14, 1000166)]⟩ [(.pan 55, ⟨slotsOf 1 [(0, .agg [.hole (.int .i64), .hole (.int .i64)])], [], []⟩), (.exit 4, ⟨slotsOf 71 [(2, .c (.box 16 0))], [(16, 85, [.hole (.str), .hole (.sl 44), .hole (.sl 78), .hole (.sl 42), .hole (.sl 67), .hole (.sl 47), .hole (.int .i64), .row 12, .row 13, .row 14])], [(12, 1000116), (13, 1000116), (14, 1000166)]⟩)] (.leaf)))) (.leaf))))))
noncomputable def c_valid_node (b n : Nat) : Cx := ⟨Go.Proofs.Try.prog, (Θ b), [23], [(23, ⟨h_valid_must, o_valid_must, valid_must n⟩), (43, ⟨h_valid_checker_sizes, o_valid_checker_sizes, valid_checker_sizes n⟩), (44, ⟨h_valid_checker_head, o_valid_checker_head, valid_checker_head n⟩), (45, ⟨h_valid_checker_phase, o_valid_checker_phase, valid_checker_phase n⟩), (46, ⟨h_valid_checker_walks, o_valid_checker_walks, valid_checker_walks n⟩), (47, ⟨h_valid_checker_rings, o_valid_checker_rings, valid_checker_rings n⟩), (48, ⟨h_valid_checker_foes, o_valid_checker_foes, valid_checker_foes n⟩)], [], [], []⟩
theorem d_valid_node (b n : Nat) (x : h_valid_node.X T) : denF (c_valid_node b n) n Go.Proofs.Try.f26 p_valid_node h_valid_node o_valid_node x = valid_node n x := by kernel_rfl
theorem s_valid_node (b n : Nat) : PCalls Go.Proofs.Try.prog (Θ b) 26 ⟨h_valid_node, o_valid_node, valid_node n⟩ :=
  func_ok' (C := c_valid_node b n) (n := n) (p := p_valid_node) (ok_of mixed eqsOk ⟨s_valid_must b n, s_valid_checker_sizes b n, s_valid_checker_head b n, s_valid_checker_phase b n, s_valid_checker_walks b n, s_valid_checker_rings b n, s_valid_checker_foes b n, trivial⟩ trivial trivial) Go.Proofs.Try.func26 (by kernel_rfl) (by kernel_rfl) (d_valid_node b n) (by kernel_rfl)
def h_valid_Node_1 : Shape := ⟨slotsOf 2 [(0, .agg [.hole (.str), .hole (.sl 44), .hole (.sl 78), .hole (.sl 42), .hole (.sl 67), .hole (.sl 47), .hole (.int .i64)]), (1, .c (.box 1000000 0))], [(1000000, 9, [.hole (.str)])], []⟩
def o_valid_Node_1 : List (Ex × Shape) := [(.ret, ⟨slotsOf 1 [(0, .c (.hole (.bool)))], [(1000000, 9, [.hole (.str)])], []⟩)]
def valid_Node_1 (n : Nat) (x0 : ByteArray × (List (ByteArray × Int × Int × Int × Int × Int × Int × Int × Int × Int × Int)) × (List (ByteArray × ByteArray × Int × Int × Int × Int)) × (List (ByteArray × (List ByteArray) × Int)) × (List (List (Bool × List ByteArray))) × (List (ByteArray × ByteArray × Int)) × Int × ByteArray) : Option (Bool × ByteArray) :=
  some (strEq x0.1 x0.2.2.2.2.2.2.2, x0.2.2.2.2.2.2.2)
def p_valid_Node_1 : Plan := .leaf
noncomputable def c_valid_Node_1 (b n : Nat) : Cx := ⟨Go.Proofs.Try.prog, (Θ b), [23], [], [], [], []⟩
theorem d_valid_Node_1 (b n : Nat) (x : h_valid_Node_1.X T) : denF (c_valid_Node_1 b n) n Go.Proofs.Try.f36 p_valid_Node_1 h_valid_Node_1 o_valid_Node_1 x = valid_Node_1 n x := by kernel_rfl
theorem s_valid_Node_1 (b n : Nat) : PCalls Go.Proofs.Try.prog (Θ b) 36 ⟨h_valid_Node_1, o_valid_Node_1, valid_Node_1 n⟩ :=
  func_ok' (C := c_valid_Node_1 b n) (n := n) (p := p_valid_Node_1) (ok_of mixed eqsOk trivial trivial trivial) Go.Proofs.Try.func36 (by kernel_rfl) (by kernel_rfl) (d_valid_Node_1 b n) (by kernel_rfl)
def h_slices_IndexFunc_valid_Node_1 : Shape := ⟨slotsOf 2 [(0, .c (.hole (.sl 39))), (1, .c (.fn 36 [1000000]))], [(1000000, 9, [.hole (.str)])], []⟩
def o_slices_IndexFunc_valid_Node_1 : List (Ex × Shape) := [(.ret, ⟨slotsOf 1 [(0, .c (.hole (.int .i64)))], [(1000000, 9, [.hole (.str)])], []⟩)]
def slices_IndexFunc_valid_Node_1 (n : Nat) (x0 : (List (ByteArray × (List (ByteArray × Int × Int × Int × Int × Int × Int × Int × Int × Int × Int)) × (List (ByteArray × ByteArray × Int × Int × Int × Int)) × (List (ByteArray × (List ByteArray) × Int)) × (List (List (Bool × List ByteArray))) × (List (ByteArray × ByteArray × Int)) × Int)) × ByteArray) : Option (Int × ByteArray) :=
  (iterL (Y := (Int × ByteArray) ⊕ (ByteArray)) n (fun (x1 : (List (ByteArray × (List (ByteArray × Int × Int × Int × Int × Int × Int × Int × Int × Int × Int)) × (List (ByteArray × ByteArray × Int × Int × Int × Int)) × (List (ByteArray × (List ByteArray) × Int)) × (List (List (Bool × List ByteArray))) × (List (ByteArray × ByteArray × Int)) × Int)) × Int × Int × ByteArray) =>
    let e0 := atI (ByteArray.mk #[], [], [], [], [], [], 0) x1.1 x1.2.2.1
    let e1 := e0.2
    let e2 := e0.2.2
    let e3 := e0.2.2.2
    let e4 := e0.2.2.2.2
    let e5 := e0.2.2.2.2.2
    bif decide (x1.2.2.1 < x1.2.1) then
      bif inB x1.2.2.1 x1.1.length then
        (valid_Node_1 n (e0.1, e0.2.1, e0.2.2.1, e0.2.2.2.1, e0.2.2.2.2.1, e0.2.2.2.2.2.1, e0.2.2.2.2.2.2, x1.2.2.2)).bind fun y2 =>
        bif y2.1 then
          some (.inr (.inl (x1.2.2.1, y2.2)))
        else
        some (.inl (x1.1, x1.2.1, wrap64 (x1.2.2.1 + 1), y2.2))
      else
      none
    else
    some (.inr (.inr x1.2.2.2))) (x0.1, ((x0.1.length : Nat) : Int), 0, x0.2)).bind (Sum.elim (fun (z3 : Int × ByteArray) =>
    some z3) (fun (z4 : ByteArray) =>
    some ((-1), z4)))
def p_slices_IndexFunc_valid_Node_1 : Plan := .two (.leaf) (.two (.two (.leaf) (.one (.loop ⟨slotsOf 19 [(0, .c (.hole (.sl 39))), (1, .c (.fn 36 [1000000])), (7, .c (.hole (.int .i64))), (8, .c (.hole (.int .i64)))], [(1000000, 9, [.hole (.str)])], []⟩ [(.ret, ⟨slotsOf 19 [(4, .c (.hole (.int .i64)))], [(1000000, 9, [.hole (.str)])], []⟩), (.exit 0, ⟨slotsOf 19 [], [(1000000, 9, [.hole (.str)])], []⟩)] (.leaf)))) (.leaf))
noncomputable def c_slices_IndexFunc_valid_Node_1 (b n : Nat) : Cx := ⟨Go.Proofs.Try.prog, (Θ b), [23], [(36, ⟨h_valid_Node_1, o_valid_Node_1, valid_Node_1 n⟩)], [], [], []⟩
theorem d_slices_IndexFunc_valid_Node_1 (b n : Nat) (x : h_slices_IndexFunc_valid_Node_1.X T) : denF (c_slices_IndexFunc_valid_Node_1 b n) n Go.Proofs.Try.f35 p_slices_IndexFunc_valid_Node_1 h_slices_IndexFunc_valid_Node_1 o_slices_IndexFunc_valid_Node_1 x = slices_IndexFunc_valid_Node_1 n x := by kernel_rfl
theorem s_slices_IndexFunc_valid_Node_1 (b n : Nat) : PCalls Go.Proofs.Try.prog (Θ b) 35 ⟨h_slices_IndexFunc_valid_Node_1, o_slices_IndexFunc_valid_Node_1, slices_IndexFunc_valid_Node_1 n⟩ :=
  func_ok' (C := c_slices_IndexFunc_valid_Node_1 b n) (n := n) (p := p_slices_IndexFunc_valid_Node_1) (ok_of mixed eqsOk ⟨s_valid_Node_1 b n, trivial⟩ trivial trivial) Go.Proofs.Try.func35 (by kernel_rfl) (by kernel_rfl) (d_slices_IndexFunc_valid_Node_1 b n) (by kernel_rfl)
def h_valid_Node : Shape := ⟨slotsOf 2 [(0, .agg [.hole (.int .i64), .hole (.int .i64), .hole (.int .i64), .hole (.int .i64), .hole (.int .i64), .hole (.sl 39), .hole (.sl 53), .hole (.int .i64), .hole (.int .i64)]), (1, .c (.hole (.str)))], [], []⟩
def o_valid_Node : List (Ex × Shape) := [(.ret, ⟨slotsOf 1 [(0, .c (.hole (.int .i64)))], [], []⟩)]
def valid_Node (n : Nat) (x0 : Int × Int × Int × Int × Int × (List (ByteArray × (List (ByteArray × Int × Int × Int × Int × Int × Int × Int × Int × Int × Int)) × (List (ByteArray × ByteArray × Int × Int × Int × Int)) × (List (ByteArray × (List ByteArray) × Int)) × (List (List (Bool × List ByteArray))) × (List (ByteArray × ByteArray × Int)) × Int)) × (List (ByteArray × ByteArray × ByteArray × Int × Int × Int)) × Int × Int × ByteArray) : Option (Int) :=
  (slices_IndexFunc_valid_Node_1 n (x0.2.2.2.2.2.1, x0.2.2.2.2.2.2.2.2.2)).bind fun y1 =>
  some y1.1
def p_valid_Node : Plan := .leaf
noncomputable def c_valid_Node (b n : Nat) : Cx := ⟨Go.Proofs.Try.prog, (Θ b), [23], [(35, ⟨h_slices_IndexFunc_valid_Node_1, o_slices_IndexFunc_valid_Node_1, slices_IndexFunc_valid_Node_1 n⟩)], [], [], []⟩
theorem d_valid_Node (b n : Nat) (x : h_valid_Node.X T) : denF (c_valid_Node b n) n Go.Proofs.Try.f13 p_valid_Node h_valid_Node o_valid_Node x = valid_Node n x := by kernel_rfl
theorem s_valid_Node (b n : Nat) : PCalls Go.Proofs.Try.prog (Θ b) 13 ⟨h_valid_Node, o_valid_Node, valid_Node n⟩ :=
  func_ok' (C := c_valid_Node b n) (n := n) (p := p_valid_Node) (ok_of mixed eqsOk ⟨s_slices_IndexFunc_valid_Node_1 b n, trivial⟩ trivial trivial) Go.Proofs.Try.func13 (by kernel_rfl) (by kernel_rfl) (d_valid_Node b n) (by kernel_rfl)
def h_valid_Head_1 : Shape := ⟨slotsOf 2 [(0, .agg [.hole (.str), .hole (.int .i64), .hole (.int .i64), .hole (.int .i64), .hole (.int .i64), .hole (.int .i64), .hole (.int .i64), .hole (.int .i64), .hole (.int .i64), .hole (.int .i64), .hole (.int .i64)]), (1, .c (.box 1000000 0))], [(1000000, 9, [.hole (.str)])], []⟩
def o_valid_Head_1 : List (Ex × Shape) := [(.ret, ⟨slotsOf 1 [(0, .c (.hole (.bool)))], [(1000000, 9, [.hole (.str)])], []⟩)]
def valid_Head_1 (n : Nat) (x0 : ByteArray × Int × Int × Int × Int × Int × Int × Int × Int × Int × Int × ByteArray) : Option (Bool × ByteArray) :=
  some (strEq x0.1 x0.2.2.2.2.2.2.2.2.2.2.2, x0.2.2.2.2.2.2.2.2.2.2.2)
def p_valid_Head_1 : Plan := .leaf
noncomputable def c_valid_Head_1 (b n : Nat) : Cx := ⟨Go.Proofs.Try.prog, (Θ b), [23], [], [], [], []⟩
theorem d_valid_Head_1 (b n : Nat) (x : h_valid_Head_1.X T) : denF (c_valid_Head_1 b n) n Go.Proofs.Try.f38 p_valid_Head_1 h_valid_Head_1 o_valid_Head_1 x = valid_Head_1 n x := by kernel_rfl
theorem s_valid_Head_1 (b n : Nat) : PCalls Go.Proofs.Try.prog (Θ b) 38 ⟨h_valid_Head_1, o_valid_Head_1, valid_Head_1 n⟩ :=
  func_ok' (C := c_valid_Head_1 b n) (n := n) (p := p_valid_Head_1) (ok_of mixed eqsOk trivial trivial trivial) Go.Proofs.Try.func38 (by kernel_rfl) (by kernel_rfl) (d_valid_Head_1 b n) (by kernel_rfl)
def h_slices_IndexFunc_valid_Head_1 : Shape := ⟨slotsOf 2 [(0, .c (.hole (.sl 44))), (1, .c (.fn 38 [1000000]))], [(1000000, 9, [.hole (.str)])], []⟩
def o_slices_IndexFunc_valid_Head_1 : List (Ex × Shape) := [(.ret, ⟨slotsOf 1 [(0, .c (.hole (.int .i64)))], [(1000000, 9, [.hole (.str)])], []⟩)]
def slices_IndexFunc_valid_Head_1 (n : Nat) (x0 : (List (ByteArray × Int × Int × Int × Int × Int × Int × Int × Int × Int × Int)) × ByteArray) : Option (Int × ByteArray) :=
  (iterL (Y := (Int × ByteArray) ⊕ (ByteArray)) n (fun (x1 : (List (ByteArray × Int × Int × Int × Int × Int × Int × Int × Int × Int × Int)) × Int × Int × ByteArray) =>
    let e0 := atI (ByteArray.mk #[], 0, 0, 0, 0, 0, 0, 0, 0, 0, 0) x1.1 x1.2.2.1
    let e1 := e0.2
    let e2 := e0.2.2
    let e3 := e0.2.2.2
    let e4 := e0.2.2.2.2
    let e5 := e0.2.2.2.2.2
    let e6 := e0.2.2.2.2.2.2
    let e7 := e0.2.2.2.2.2.2.2
    let e8 := e0.2.2.2.2.2.2.2.2
    let e9 := e0.2.2.2.2.2.2.2.2.2
    bif decide (x1.2.2.1 < x1.2.1) then
      bif inB x1.2.2.1 x1.1.length then
        (valid_Head_1 n (e0.1, e0.2.1, e0.2.2.1, e0.2.2.2.1, e0.2.2.2.2.1, e0.2.2.2.2.2.1, e0.2.2.2.2.2.2.1, e0.2.2.2.2.2.2.2.1, e0.2.2.2.2.2.2.2.2.1, e0.2.2.2.2.2.2.2.2.2.1, e0.2.2.2.2.2.2.2.2.2.2, x1.2.2.2)).bind fun y2 =>
        bif y2.1 then
          some (.inr (.inl (x1.2.2.1, y2.2)))
        else
        some (.inl (x1.1, x1.2.1, wrap64 (x1.2.2.1 + 1), y2.2))
      else
      none
    else
    some (.inr (.inr x1.2.2.2))) (x0.1, ((x0.1.length : Nat) : Int), 0, x0.2)).bind (Sum.elim (fun (z3 : Int × ByteArray) =>
    some z3) (fun (z4 : ByteArray) =>
    some ((-1), z4)))
def p_slices_IndexFunc_valid_Head_1 : Plan := .two (.leaf) (.two (.two (.leaf) (.one (.loop ⟨slotsOf 19 [(0, .c (.hole (.sl 44))), (1, .c (.fn 38 [1000000])), (7, .c (.hole (.int .i64))), (8, .c (.hole (.int .i64)))], [(1000000, 9, [.hole (.str)])], []⟩ [(.ret, ⟨slotsOf 19 [(4, .c (.hole (.int .i64)))], [(1000000, 9, [.hole (.str)])], []⟩), (.exit 0, ⟨slotsOf 19 [], [(1000000, 9, [.hole (.str)])], []⟩)] (.leaf)))) (.leaf))
noncomputable def c_slices_IndexFunc_valid_Head_1 (b n : Nat) : Cx := ⟨Go.Proofs.Try.prog, (Θ b), [23], [(38, ⟨h_valid_Head_1, o_valid_Head_1, valid_Head_1 n⟩)], [], [], []⟩
theorem d_slices_IndexFunc_valid_Head_1 (b n : Nat) (x : h_slices_IndexFunc_valid_Head_1.X T) : denF (c_slices_IndexFunc_valid_Head_1 b n) n Go.Proofs.Try.f37 p_slices_IndexFunc_valid_Head_1 h_slices_IndexFunc_valid_Head_1 o_slices_IndexFunc_valid_Head_1 x = slices_IndexFunc_valid_Head_1 n x := by kernel_rfl
theorem s_slices_IndexFunc_valid_Head_1 (b n : Nat) : PCalls Go.Proofs.Try.prog (Θ b) 37 ⟨h_slices_IndexFunc_valid_Head_1, o_slices_IndexFunc_valid_Head_1, slices_IndexFunc_valid_Head_1 n⟩ :=
  func_ok' (C := c_slices_IndexFunc_valid_Head_1 b n) (n := n) (p := p_slices_IndexFunc_valid_Head_1) (ok_of mixed eqsOk ⟨s_valid_Head_1 b n, trivial⟩ trivial trivial) Go.Proofs.Try.func37 (by kernel_rfl) (by kernel_rfl) (d_slices_IndexFunc_valid_Head_1 b n) (by kernel_rfl)
def h_valid_Head : Shape := ⟨slotsOf 2 [(0, .agg [.hole (.str), .hole (.sl 44), .hole (.sl 78), .hole (.sl 42), .hole (.sl 67), .hole (.sl 47), .hole (.int .i64)]), (1, .c (.hole (.str)))], [], []⟩
def o_valid_Head : List (Ex × Shape) := [(.ret, ⟨slotsOf 1 [(0, .c (.hole (.int .i64)))], [], []⟩)]
def valid_Head (n : Nat) (x0 : ByteArray × (List (ByteArray × Int × Int × Int × Int × Int × Int × Int × Int × Int × Int)) × (List (ByteArray × ByteArray × Int × Int × Int × Int)) × (List (ByteArray × (List ByteArray) × Int)) × (List (List (Bool × List ByteArray))) × (List (ByteArray × ByteArray × Int)) × Int × ByteArray) : Option (Int) :=
  (slices_IndexFunc_valid_Head_1 n (x0.2.1, x0.2.2.2.2.2.2.2)).bind fun y1 =>
  some y1.1
def p_valid_Head : Plan := .leaf
noncomputable def c_valid_Head (b n : Nat) : Cx := ⟨Go.Proofs.Try.prog, (Θ b), [23], [(37, ⟨h_slices_IndexFunc_valid_Head_1, o_slices_IndexFunc_valid_Head_1, slices_IndexFunc_valid_Head_1 n⟩)], [], [], []⟩
theorem d_valid_Head (b n : Nat) (x : h_valid_Head.X T) : denF (c_valid_Head b n) n Go.Proofs.Try.f15 p_valid_Head h_valid_Head o_valid_Head x = valid_Head n x := by kernel_rfl
theorem s_valid_Head (b n : Nat) : PCalls Go.Proofs.Try.prog (Θ b) 15 ⟨h_valid_Head, o_valid_Head, valid_Head n⟩ :=
  func_ok' (C := c_valid_Head b n) (n := n) (p := p_valid_Head) (ok_of mixed eqsOk ⟨s_slices_IndexFunc_valid_Head_1 b n, trivial⟩ trivial trivial) Go.Proofs.Try.func15 (by kernel_rfl) (by kernel_rfl) (d_valid_Head b n) (by kernel_rfl)
def h_valid_stops : Shape := ⟨slotsOf 1 [(0, .agg [.hole (.int .i64), .hole (.int .i64), .hole (.int .i64), .hole (.int .i64), .hole (.int .i64), .hole (.sl 39), .hole (.sl 53), .hole (.int .i64), .hole (.int .i64)])], [], []⟩
def o_valid_stops : List (Ex × Shape) := [(.pan 55, ⟨slotsOf 1 [(0, .agg [.hole (.int .i64), .hole (.int .i64)])], [], []⟩), (.ret, ⟨slotsOf 0 [], [], []⟩)]
def valid_stops (n : Nat) (x0 : Int × Int × Int × Int × Int × (List (ByteArray × (List (ByteArray × Int × Int × Int × Int × Int × Int × Int × Int × Int × Int)) × (List (ByteArray × ByteArray × Int × Int × Int × Int)) × (List (ByteArray × (List ByteArray) × Int)) × (List (List (Bool × List ByteArray))) × (List (ByteArray × ByteArray × Int)) × Int)) × (List (ByteArray × ByteArray × ByteArray × Int × Int × Int)) × Int × Int) : Option ((Int × Int) ⊕ (Unit)) :=
  (iterL (Y := (Int × Int) ⊕ (Unit)) n (fun (x1 : (List (ByteArray × ByteArray × ByteArray × Int × Int × Int)) × Int × Int × Int × Int × Int × Int × Int × (List (ByteArray × (List (ByteArray × Int × Int × Int × Int × Int × Int × Int × Int × Int × Int)) × (List (ByteArray × ByteArray × Int × Int × Int × Int)) × (List (ByteArray × (List ByteArray) × Int)) × (List (List (Bool × List ByteArray))) × (List (ByteArray × ByteArray × Int)) × Int)) × (List (ByteArray × ByteArray × ByteArray × Int × Int × Int)) × Int × Int × List (ByteArray × Bool)) =>
    let e0 := atI (ByteArray.mk #[], ByteArray.mk #[], ByteArray.mk #[], 0, 0, 0) x1.1 x1.2.2.1
    let e1 := e0.1
    let e2 := e0.2
    let e3 := e0.2.2
    let e4 := e0.2.2.2
    let e5 := e0.2.2.2.2
    let e6 := e0.2.2.2.2.2
    let e7 := e0.2.1
    let e8 := e0.2.2.1
    bif decide (x1.2.2.1 < x1.2.1) then
      bif inB x1.2.2.1 x1.1.length then
        (valid_Node n (x1.2.2.2.1, x1.2.2.2.2.1, x1.2.2.2.2.2.1, x1.2.2.2.2.2.2.1, x1.2.2.2.2.2.2.2.1, x1.2.2.2.2.2.2.2.2.1, x1.2.2.2.2.2.2.2.2.2.1, x1.2.2.2.2.2.2.2.2.2.2.1, x1.2.2.2.2.2.2.2.2.2.2.2.1, e1)).bind fun y2 =>
        let e9 := atI (ByteArray.mk #[], [], [], [], [], [], 0) x1.2.2.2.2.2.2.2.2.1 y2
        let e10 := e9.1
        let e11 := e9.2
        let e12 := e9.2.1
        let e13 := e9.2.2
        let e14 := e9.2.2.1
        let e15 := e9.2.2.2
        let e16 := e9.2.2.2.1
        let e17 := e9.2.2.2.2
        let e18 := e9.2.2.2.2.1
        let e19 := e9.2.2.2.2.2
        let e20 := e9.2.2.2.2.2.1
        let e21 := e9.2.2.2.2.2.2
        (valid_must n (decide (0 ≤ y2), 72, e6)).bind (Sum.elim (fun (y4 : Int × Int) =>
          some (.inr (.inl y4))) (fun (y5 : Unit) =>
          (valid_once n (e1, x1.2.2.2.2.2.2.2.2.2.2.2.2)).bind fun y6 =>
          (valid_must n (y6.1, 71, e6)).bind (Sum.elim (fun (y8 : Int × Int) =>
            some (.inr (.inl y8))) (fun (y9 : Unit) =>
            bif inB y2 x1.2.2.2.2.2.2.2.2.1.length then
              letJ (fun (x18 : Int × (List (ByteArray × ByteArray × ByteArray × Int × Int × Int)) × Int × Int × Int × Int × Int × Int × Int × (List (ByteArray × (List (ByteArray × Int × Int × Int × Int × Int × Int × Int × Int × Int × Int)) × (List (ByteArray × ByteArray × Int × Int × Int × Int)) × (List (ByteArray × (List ByteArray) × Int)) × (List (List (Bool × List ByteArray))) × (List (ByteArray × ByteArray × Int)) × Int)) × (List (ByteArray × ByteArray × ByteArray × Int × Int × Int)) × Int × Int × ByteArray × ByteArray × ByteArray × Int × Int × Int × List (ByteArray × Bool)) =>
                (valid_within n (0, 6000, x18.2.2.2.2.2.2.2.2.2.2.2.2.2.2.2.2.1 :: (x18.2.2.2.2.2.2.2.2.2.2.2.2.2.2.2.2.2.1 :: []))).bind fun y20 =>
                (valid_must n (y20, 70, x18.2.2.2.2.2.2.2.2.2.2.2.2.2.2.2.2.2.2.1)).bind (Sum.elim (fun (y22 : Int × Int) =>
                  some (.inr (.inl y22))) (fun (y23 : Unit) =>
                  bif decide (0 < x18.1) then
                    (valid_must n (true, 76, x18.2.2.2.2.2.2.2.2.2.2.2.2.2.2.2.2.2.2.1)).bind (Sum.elim (fun (y25 : Int × Int) =>
                      some (.inr (.inl y25))) (fun (y26 : Unit) =>
                      some (.inl (x18.2.1, x18.2.2.1, wrap64 (x18.2.2.2.1 + 1), x18.2.2.2.2.1, x18.2.2.2.2.2.1, x18.2.2.2.2.2.2.1, x18.2.2.2.2.2.2.2.1, x18.2.2.2.2.2.2.2.2.1, x18.2.2.2.2.2.2.2.2.2.1, x18.2.2.2.2.2.2.2.2.2.2.1, x18.2.2.2.2.2.2.2.2.2.2.2.1, x18.2.2.2.2.2.2.2.2.2.2.2.2.1, x18.2.2.2.2.2.2.2.2.2.2.2.2.2.2.2.2.2.2.2))))
                  else
                    bif x18.2.2.2.2.2.2.2.2.2.2.2.2.2.2.2.2.1 == 0 then
                      (valid_must n (x18.2.2.2.2.2.2.2.2.2.2.2.2.2.2.2.2.2.1 == 0, 76, x18.2.2.2.2.2.2.2.2.2.2.2.2.2.2.2.2.2.2.1)).bind (Sum.elim (fun (y28 : Int × Int) =>
                        some (.inr (.inl y28))) (fun (y29 : Unit) =>
                        some (.inl (x18.2.1, x18.2.2.1, wrap64 (x18.2.2.2.1 + 1), x18.2.2.2.2.1, x18.2.2.2.2.2.1, x18.2.2.2.2.2.2.1, x18.2.2.2.2.2.2.2.1, x18.2.2.2.2.2.2.2.2.1, x18.2.2.2.2.2.2.2.2.2.1, x18.2.2.2.2.2.2.2.2.2.2.1, x18.2.2.2.2.2.2.2.2.2.2.2.1, x18.2.2.2.2.2.2.2.2.2.2.2.2.1, x18.2.2.2.2.2.2.2.2.2.2.2.2.2.2.2.2.2.2.2))))
                    else
                      (valid_must n (false, 76, x18.2.2.2.2.2.2.2.2.2.2.2.2.2.2.2.2.2.2.1)).bind (Sum.elim (fun (y31 : Int × Int) =>
                        some (.inr (.inl y31))) (fun (y32 : Unit) =>
                        some (.inl (x18.2.1, x18.2.2.1, wrap64 (x18.2.2.2.1 + 1), x18.2.2.2.2.1, x18.2.2.2.2.2.1, x18.2.2.2.2.2.2.1, x18.2.2.2.2.2.2.2.1, x18.2.2.2.2.2.2.2.2.1, x18.2.2.2.2.2.2.2.2.2.1, x18.2.2.2.2.2.2.2.2.2.2.1, x18.2.2.2.2.2.2.2.2.2.2.2.1, x18.2.2.2.2.2.2.2.2.2.2.2.2.1, x18.2.2.2.2.2.2.2.2.2.2.2.2.2.2.2.2.2.2.2))))))) fun J19 =>
              (valid_Head n (e10, e12, e14, e16, e18, e20, e21, e7)).bind fun y10 =>
              bif decide (0 ≤ y10) then
                (valid_Head n (e10, e12, e14, e16, e18, e20, e21, e8)).bind fun y11 =>
                (valid_must n (decide (0 ≤ y11), 72, e6)).bind (Sum.elim (fun (y13 : Int × Int) =>
                  some (.inr (.inl y13))) (fun (y14 : Unit) =>
                  J19 (x1.2.2.1, x1.1, x1.2.1, x1.2.2.1, x1.2.2.2.1, x1.2.2.2.2.1, x1.2.2.2.2.2.1, x1.2.2.2.2.2.2.1, x1.2.2.2.2.2.2.2.1, x1.2.2.2.2.2.2.2.2.1, x1.2.2.2.2.2.2.2.2.2.1, x1.2.2.2.2.2.2.2.2.2.2.1, x1.2.2.2.2.2.2.2.2.2.2.2.1, e1, e7, e8, e0.2.2.2.1, e0.2.2.2.2.1, e6, y6.2)))
              else
                (valid_must n (false, 72, e6)).bind (Sum.elim (fun (y16 : Int × Int) =>
                  some (.inr (.inl y16))) (fun (y17 : Unit) =>
                  J19 (x1.2.2.1, x1.1, x1.2.1, x1.2.2.1, x1.2.2.2.1, x1.2.2.2.2.1, x1.2.2.2.2.2.1, x1.2.2.2.2.2.2.1, x1.2.2.2.2.2.2.2.1, x1.2.2.2.2.2.2.2.2.1, x1.2.2.2.2.2.2.2.2.2.1, x1.2.2.2.2.2.2.2.2.2.2.1, x1.2.2.2.2.2.2.2.2.2.2.2.1, e1, e7, e8, e0.2.2.2.1, e0.2.2.2.2.1, e6, y6.2)))
            else
            none))))
      else
      none
    else
    some (.inr (.inr ()))) (x0.2.2.2.2.2.2.1, ((x0.2.2.2.2.2.2.1.length : Nat) : Int), 0, x0.1, x0.2.1, x0.2.2.1, x0.2.2.2.1, x0.2.2.2.2.1, x0.2.2.2.2.2.1, x0.2.2.2.2.2.2.1, x0.2.2.2.2.2.2.2.1, x0.2.2.2.2.2.2.2.2, [])).bind (Sum.elim (fun (z33 : Int × Int) =>
    some (.inl z33)) (fun (z34 : Unit) =>
    some (.inr ())))
def p_valid_stops : Plan := .two (.leaf) (.two (.leaf) (.two (.leaf) (.one (.loop ⟨slotsOf 77 [(1, .c (.box 1 0)), (2, .c (.row 7)), (9, .c (.hole (.sl 53))), (10, .c (.hole (.int .i64))), (11, .c (.hole (.int .i64)))], [(1, 27, [.hole (.int .i64), .hole (.int .i64), .hole (.int .i64), .hole (.int .i64), .hole (.int .i64), .hole (.sl 39), .hole (.sl 53), .hole (.int .i64), .hole (.int .i64)])], [(7, 1000116)]⟩ [(.pan 55, ⟨slotsOf 1 [(0, .agg [.hole (.int .i64), .hole (.int .i64)])], [], []⟩), (.exit 0, ⟨slotsOf 77 [], [], []⟩)] (.two (.leaf) (.two (.leaf) (.two (.one (.two (.leaf) (.two (.leaf) (.two (.leaf) (.two (.leaf) (.two (.leaf) (.two (.join ⟨slotsOf 77 [(1, .c (.box 1 0)), (2, .c (.row 7)), (3, .c (.hole (.int .i64))), (4, .c (.box 4 0)), (9, .c (.hole (.sl 53))), (10, .c (.hole (.int .i64))), (11, .c (.hole (.int .i64)))], [(1, 27, [.hole (.int .i64), .hole (.int .i64), .hole (.int .i64), .hole (.int .i64), .hole (.int .i64), .hole (.sl 39), .hole (.sl 53), .hole (.int .i64), .hole (.int .i64)]), (4, 53, [.hole (.str), .hole (.str), .hole (.str), .hole (.int .i64), .hole (.int .i64), .hole (.int .i64)])], [(7, 1000116)]⟩ (.leaf)) (.leaf)))))))) (.leaf))))))))
noncomputable def c_valid_stops (b n : Nat) : Cx := ⟨Go.Proofs.Try.prog, (Θ b), [23], [(23, ⟨h_valid_must, o_valid_must, valid_must n⟩), (24, ⟨h_valid_within, o_valid_within, valid_within n⟩), (25, ⟨h_valid_once, o_valid_once, valid_once n⟩), (13, ⟨h_valid_Node, o_valid_Node, valid_Node n⟩), (15, ⟨h_valid_Head, o_valid_Head, valid_Head n⟩)], [], [], []⟩
theorem d_valid_stops (b n : Nat) (x : h_valid_stops.X T) : denF (c_valid_stops b n) n Go.Proofs.Try.f27 p_valid_stops h_valid_stops o_valid_stops x = valid_stops n x := by kernel_rfl
theorem s_valid_stops (b n : Nat) : PCalls Go.Proofs.Try.prog (Θ b) 27 ⟨h_valid_stops, o_valid_stops, valid_stops n⟩ :=
  func_ok' (C := c_valid_stops b n) (n := n) (p := p_valid_stops) (ok_of mixed eqsOk ⟨s_valid_must b n, s_valid_within b n, s_valid_once b n, s_valid_Node b n, s_valid_Head b n, trivial⟩ trivial trivial) Go.Proofs.Try.func27 (by kernel_rfl) (by kernel_rfl) (d_valid_stops b n) (by kernel_rfl)
def o_valid_Check_1 : List (Ex × Shape) := [(.pan 55, ⟨slotsOf 1 [(0, .agg [.hole (.int .i64), .hole (.int .i64)])], [], []⟩), (.ret, ⟨slotsOf 2 [(0, .c (.hole (.int .i64))), (1, .c (.hole (.int .i64)))], [(1000000, 27, [.hole (.int .i64), .hole (.int .i64), .hole (.int .i64), .hole (.int .i64), .hole (.int .i64), .hole (.sl 39), .hole (.sl 53), .hole (.int .i64), .hole (.int .i64)]), (1000001, 29, [.hole (.int .i64)]), (1000002, 3, [.hole (.int .i64)])], []⟩)]
def valid_Check_1 (n : Nat) (x0 : Int × Int × Int × Int × Int × (List (ByteArray × (List (ByteArray × Int × Int × Int × Int × Int × Int × Int × Int × Int × Int)) × (List (ByteArray × ByteArray × Int × Int × Int × Int)) × (List (ByteArray × (List ByteArray) × Int)) × (List (List (Bool × List ByteArray))) × (List (ByteArray × ByteArray × Int)) × Int)) × (List (ByteArray × ByteArray × ByteArray × Int × Int × Int)) × Int × Int × Int × Int) : Option ((Int × Int) ⊕ (Int × Int × Int × Int × Int × Int × Int × (List (ByteArray × (List (ByteArray × Int × Int × Int × Int × Int × Int × Int × Int × Int × Int)) × (List (ByteArray × ByteArray × Int × Int × Int × Int)) × (List (ByteArray × (List ByteArray) × Int)) × (List (List (Bool × List ByteArray))) × (List (ByteArray × ByteArray × Int)) × Int)) × (List (ByteArray × ByteArray × ByteArray × Int × Int × Int)) × Int × Int × Int × Int)) :=
  letJ (fun (x7 : Int × Int × Int × Int × Int × (List (ByteArray × (List (ByteArray × Int × Int × Int × Int × Int × Int × Int × Int × Int × Int)) × (List (ByteArray × ByteArray × Int × Int × Int × Int)) × (List (ByteArray × (List ByteArray) × Int)) × (List (List (Bool × List ByteArray))) × (List (ByteArray × ByteArray × Int)) × Int)) × (List (ByteArray × ByteArray × ByteArray × Int × Int × Int)) × Int × Int × Int × Int) =>
    letJ (fun (x21 : Int × Int × Int × Int × Int × (List (ByteArray × (List (ByteArray × Int × Int × Int × Int × Int × Int × Int × Int × Int × Int)) × (List (ByteArray × ByteArray × Int × Int × Int × Int)) × (List (ByteArray × (List ByteArray) × Int)) × (List (List (Bool × List ByteArray))) × (List (ByteArray × ByteArray × Int)) × Int)) × (List (ByteArray × ByteArray × ByteArray × Int × Int × Int)) × Int × Int × Int × Int) =>
      letJ (fun (x31 : Int × Int × Int × Int × Int × (List (ByteArray × (List (ByteArray × Int × Int × Int × Int × Int × Int × Int × Int × Int × Int)) × (List (ByteArray × ByteArray × Int × Int × Int × Int)) × (List (ByteArray × (List ByteArray) × Int)) × (List (List (Bool × List ByteArray))) × (List (ByteArray × ByteArray × Int)) × Int)) × (List (ByteArray × ByteArray × ByteArray × Int × Int × Int)) × Int × Int × Int × Int) =>
        let e0 := ((x31.2.2.2.2.2.1.length : Nat) : Int)
        (valid_must n (decide (0 < e0), 73, 0)).bind (Sum.elim (fun (y34 : Int × Int) =>
          some (.inl y34)) (fun (y35 : Unit) =>
          (iterL (Y := (Int × Int) ⊕ (Int × Int × Int × Int × Int × (List (ByteArray × (List (ByteArray × Int × Int × Int × Int × Int × Int × Int × Int × Int × Int)) × (List (ByteArray × ByteArray × Int × Int × Int × Int)) × (List (ByteArray × (List ByteArray) × Int)) × (List (List (Bool × List ByteArray))) × (List (ByteArray × ByteArray × Int)) × Int)) × (List (ByteArray × ByteArray × ByteArray × Int × Int × Int)) × Int × Int × Int × Int)) n (fun (x36 : (List (ByteArray × (List (ByteArray × Int × Int × Int × Int × Int × Int × Int × Int × Int × Int)) × (List (ByteArray × ByteArray × Int × Int × Int × Int)) × (List (ByteArray × (List ByteArray) × Int)) × (List (List (Bool × List ByteArray))) × (List (ByteArray × ByteArray × Int)) × Int)) × Int × Int × Int × Int × Int × Int × Int × (List (ByteArray × (List (ByteArray × Int × Int × Int × Int × Int × Int × Int × Int × Int × Int)) × (List (ByteArray × ByteArray × Int × Int × Int × Int)) × (List (ByteArray × (List ByteArray) × Int)) × (List (List (Bool × List ByteArray))) × (List (ByteArray × ByteArray × Int)) × Int)) × (List (ByteArray × ByteArray × ByteArray × Int × Int × Int)) × Int × Int × Int × Int × List (ByteArray × Bool)) =>
            let e1 := atI (ByteArray.mk #[], [], [], [], [], [], 0) x36.1 x36.2.2.1
            bif decide (x36.2.2.1 < x36.2.1) then
              bif inB x36.2.2.1 x36.1.length then
                (valid_once n (e1.1, x36.2.2.2.2.2.2.2.2.2.2.2.2.2.2)).bind fun y37 =>
                (valid_must n (y37.1, 71, e1.2.2.2.2.2.2)).bind (Sum.elim (fun (y39 : Int × Int) =>
                  some (.inr (.inl y39))) (fun (y40 : Unit) =>
                  (valid_node n e1).bind (Sum.elim (fun (y42 : Int × Int) =>
                    some (.inr (.inl y42))) (fun (y43 : Unit) =>
                    some (.inl (x36.1, x36.2.1, wrap64 (x36.2.2.1 + 1), x36.2.2.2.1, x36.2.2.2.2.1, x36.2.2.2.2.2.1, x36.2.2.2.2.2.2.1, x36.2.2.2.2.2.2.2.1, x36.2.2.2.2.2.2.2.2.1, x36.2.2.2.2.2.2.2.2.2.1, x36.2.2.2.2.2.2.2.2.2.2.1, x36.2.2.2.2.2.2.2.2.2.2.2.1, x36.2.2.2.2.2.2.2.2.2.2.2.2.1, x36.2.2.2.2.2.2.2.2.2.2.2.2.2.1, y37.2))))))
              else
              none
            else
            some (.inr (.inr (x36.2.2.2.1, x36.2.2.2.2.1, x36.2.2.2.2.2.1, x36.2.2.2.2.2.2.1, x36.2.2.2.2.2.2.2.1, x36.2.2.2.2.2.2.2.2.1, x36.2.2.2.2.2.2.2.2.2.1, x36.2.2.2.2.2.2.2.2.2.2.1, x36.2.2.2.2.2.2.2.2.2.2.2.1, x36.2.2.2.2.2.2.2.2.2.2.2.2.1, x36.2.2.2.2.2.2.2.2.2.2.2.2.2.1)))) (x31.2.2.2.2.2.1, e0, 0, x31.1, x31.2.1, x31.2.2.1, x31.2.2.2.1, x31.2.2.2.2.1, x31.2.2.2.2.2.1, x31.2.2.2.2.2.2.1, x31.2.2.2.2.2.2.2.1, x31.2.2.2.2.2.2.2.2.1, x31.2.2.2.2.2.2.2.2.2.1, x31.2.2.2.2.2.2.2.2.2.2, [])).bind (Sum.elim (fun (z44 : Int × Int) =>
            some (.inl z44)) (fun (z45 : Int × Int × Int × Int × Int × (List (ByteArray × (List (ByteArray × Int × Int × Int × Int × Int × Int × Int × Int × Int × Int)) × (List (ByteArray × ByteArray × Int × Int × Int × Int)) × (List (ByteArray × (List ByteArray) × Int)) × (List (List (Bool × List ByteArray))) × (List (ByteArray × ByteArray × Int)) × Int)) × (List (ByteArray × ByteArray × ByteArray × Int × Int × Int)) × Int × Int × Int × Int) =>
            (valid_stops n (z45.1, z45.2.1, z45.2.2.1, z45.2.2.2.1, z45.2.2.2.2.1, z45.2.2.2.2.2.1, z45.2.2.2.2.2.2.1, z45.2.2.2.2.2.2.2.1, z45.2.2.2.2.2.2.2.2.1)).bind (Sum.elim (fun (y47 : Int × Int) =>
              some (.inl y47)) (fun (y48 : Unit) =>
              some (.inr (0, 0, z45.1, z45.2.1, z45.2.2.1, z45.2.2.2.1, z45.2.2.2.2.1, z45.2.2.2.2.2.1, z45.2.2.2.2.2.2.1, z45.2.2.2.2.2.2.2.1, z45.2.2.2.2.2.2.2.2.1, 0, 0))))))))) fun J32 =>
      (valid_within n (1, 1000000000, x21.2.2.2.1 :: (x21.2.2.2.2.1 :: []))).bind fun y23 =>
      bif y23 then
        (valid_within n (0, 1000000000, x21.2.2.2.2.2.2.2.1 :: (x21.2.2.2.2.2.2.2.2.1 :: []))).bind fun y24 =>
        (valid_must n (y24, 70, 0)).bind (Sum.elim (fun (y26 : Int × Int) =>
          some (.inl y26)) (fun (y27 : Unit) =>
          J32 x21))
      else
        (valid_must n (false, 70, 0)).bind (Sum.elim (fun (y29 : Int × Int) =>
          some (.inl y29)) (fun (y30 : Unit) =>
          J32 x21))) fun J22 =>
    bif decide (1 ≤ x7.1) then
      bif decide (x7.1 ≤ x7.2.1) then
        bif decide (x7.2.1 ≤ 6000) then
          (valid_must n (decide (1 ≤ x7.2.2.1), 70, 0)).bind (Sum.elim (fun (y10 : Int × Int) =>
            some (.inl y10)) (fun (y11 : Unit) =>
            J22 x7))
        else
          (valid_must n (false, 70, 0)).bind (Sum.elim (fun (y13 : Int × Int) =>
            some (.inl y13)) (fun (y14 : Unit) =>
            J22 x7))
      else
        (valid_must n (false, 70, 0)).bind (Sum.elim (fun (y16 : Int × Int) =>
          some (.inl y16)) (fun (y17 : Unit) =>
          J22 x7))
    else
      (valid_must n (false, 70, 0)).bind (Sum.elim (fun (y19 : Int × Int) =>
        some (.inl y19)) (fun (y20 : Unit) =>
        J22 x7))) fun J8 =>
  bif decide (((x0.2.2.2.2.2.1.length : Nat) : Int) ≤ 12) then
    (valid_must n (decide (((x0.2.2.2.2.2.2.1.length : Nat) : Int) ≤ 12), 4, 0)).bind (Sum.elim (fun (y2 : Int × Int) =>
      some (.inl y2)) (fun (y3 : Unit) =>
      J8 x0))
  else
    (valid_must n (false, 4, 0)).bind (Sum.elim (fun (y5 : Int × Int) =>
      some (.inl y5)) (fun (y6 : Unit) =>
      J8 x0))
def p_valid_Check_1 : Plan := .two (.join ⟨slotsOf 82 [(1, .c (.box 1000000 0)), (2, .c (.box 1000001 0)), (3, .c (.box 1000002 0))], [(1000000, 27, [.hole (.int .i64), .hole (.int .i64), .hole (.int .i64), .hole (.int .i64), .hole (.int .i64), .hole (.sl 39), .hole (.sl 53), .hole (.int .i64), .hole (.int .i64)]), (1000001, 29, [.hole (.int .i64)]), (1000002, 3, [.hole (.int .i64)])], []⟩ (.leaf)) (.two (.join ⟨slotsOf 82 [(1, .c (.box 1000000 0)), (2, .c (.box 1000001 0)), (3, .c (.box 1000002 0))], [(1000000, 27, [.hole (.int .i64), .hole (.int .i64), .hole (.int .i64), .hole (.int .i64), .hole (.int .i64), .hole (.sl 39), .hole (.sl 53), .hole (.int .i64), .hole (.int .i64)]), (1000001, 29, [.hole (.int .i64)]), (1000002, 3, [.hole (.int .i64)])], []⟩ (.leaf)) (.two (.join ⟨slotsOf 82 [(1, .c (.box 1000000 0)), (2, .c (.box 1000001 0)), (3, .c (.box 1000002 0))], [(1000000, 27, [.hole (.int .i64), .hole (.int .i64), .hole (.int .i64), .hole (.int .i64), .hole (.int .i64), .hole (.sl 39), .hole (.sl 53), .hole (.int .i64), .hole (.int .i64)]), (1000001, 29, [.hole (.int .i64)]), (1000002, 3, [.hole (.int .i64)])], []⟩ (.leaf)) (.two (.leaf) (.two (.leaf) (.two (.two (.leaf) (.one (.loop ⟨slotsOf 82 [(1, .c (.box 1000000 0)), (2, .c (.box 1000001 0)), (3, .c (.box 1000002 0)), (4, .c (.row 62)), (64, .c (.hole (.sl 39))), (65, .c (.hole (.int .i64))), (66, .c (.hole (.int .i64)))], [(1000000, 27, [.hole (.int .i64), .hole (.int .i64), .hole (.int .i64), .hole (.int .i64), .hole (.int .i64), .hole (.sl 39), .hole (.sl 53), .hole (.int .i64), .hole (.int .i64)]), (1000001, 29, [.hole (.int .i64)]), (1000002, 3, [.hole (.int .i64)])], [(62, 1000116)]⟩ [(.pan 55, ⟨slotsOf 1 [(0, .agg [.hole (.int .i64), .hole (.int .i64)])], [], []⟩), (.exit 0, ⟨slotsOf 82 [(1, .c (.box 1000000 0)), (2, .c (.box 1000001 0)), (3, .c (.box 1000002 0))], [(1000000, 27, [.hole (.int .i64), .hole (.int .i64), .hole (.int .i64), .hole (.int .i64), .hole (.int .i64), .hole (.sl 39), .hole (.sl 53), .hole (.int .i64), .hole (.int .i64)]), (1000001, 29, [.hole (.int .i64)]), (1000002, 3, [.hole (.int .i64)])], []⟩)] (.leaf)))) (.leaf))))))
noncomputable def c_valid_Check_1 (b n : Nat) : Cx := ⟨Go.Proofs.Try.prog, (Θ b), [23], [(23, ⟨h_valid_must, o_valid_must, valid_must n⟩), (24, ⟨h_valid_within, o_valid_within, valid_within n⟩), (25, ⟨h_valid_once, o_valid_once, valid_once n⟩), (26, ⟨h_valid_node, o_valid_node, valid_node n⟩), (27, ⟨h_valid_stops, o_valid_stops, valid_stops n⟩)], [], [], [(2, 1000001, 29), (3, 1000002, 3)]⟩
def h_valid_Check : Shape := ⟨slotsOf 1 [(0, .agg [.hole (.int .i64), .hole (.int .i64), .hole (.int .i64), .hole (.int .i64), .hole (.int .i64), .hole (.sl 39), .hole (.sl 53), .hole (.int .i64), .hole (.int .i64)])], [], []⟩
def o_valid_Check : List (Ex × Shape) := [(.ret, ⟨slotsOf 2 [(0, .c (.hole (.int .i64))), (1, .c (.hole (.int .i64)))], [], []⟩)]
def valid_Check (n : Nat) (x : Int × Int × Int × Int × Int × List (ByteArray × List (ByteArray × Int × Int × Int × Int × Int × Int × Int × Int × Int × Int) × List (ByteArray × ByteArray × Int × Int × Int × Int) × List (ByteArray × List (ByteArray) × Int) × List (List (Bool × List (ByteArray))) × List (ByteArray × ByteArray × Int) × Int) × List (ByteArray × ByteArray × ByteArray × Int × Int × Int) × Int × Int) : Option (Int × Int) := (valid_Check_1 n (x.1, x.2.1, x.2.2.1, x.2.2.2.1, x.2.2.2.2.1, x.2.2.2.2.2.1, x.2.2.2.2.2.2.1, x.2.2.2.2.2.2.2.1, x.2.2.2.2.2.2.2.2, 0, 0)).map (Sum.elim (fun y => y) (fun y => (y.1, y.2.1)))
theorem s_valid_Check (b n : Nat) : PCalls Go.Proofs.Try.prog (Θ b) 8 ⟨h_valid_Check, o_valid_Check, valid_Check n⟩ := by
  refine ⟨enters_of Go.Proofs.Try.func8 (by kernel_rfl) rfl, rfl, ?_⟩
  intro (x : Int × Int × Int × Int × Int × List (ByteArray × List (ByteArray × Int × Int × Int × Int × Int × Int × Int × Int × Int × Int) × List (ByteArray × ByteArray × Int × Int × Int × Int) × List (ByteArray × List (ByteArray) × Int) × List (List (Bool × List (ByteArray))) × List (ByteArray × ByteArray × Int) × Int) × List (ByteArray × ByteArray × ByteArray × Int × Int × Int) × Int × Int) (z : Int × Int) hz E vs bx rw_ hED hS
  have hS0 : Sim (Θ b) E ⟨[.agg [.v (.int .i64 x.1), .v (.int .i64 x.2.1), .v (.int .i64 x.2.2.1), .v (.int .i64 x.2.2.2.1), .v (.int .i64 x.2.2.2.2.1), .v (.sl 39 x.2.2.2.2.2.1), .v (.sl 53 x.2.2.2.2.2.2.1), .v (.int .i64 x.2.2.2.2.2.2.2.1), .v (.int .i64 x.2.2.2.2.2.2.2.2)]], [], []⟩ vs.toArray E.w0 bx rw_ := hS
  have hlen : vs.length = 1 := by have := hS0.len; simpa using this.symm
  obtain ⟨v0, rfl⟩ := List.length_eq_one_iff.1 hlen
  have hz' : valid_Check n x = some z := hz
  obtain ⟨y, hy, hyz⟩ := Option.map_eq_some_iff.1 hz'
  have hS' : Sim (Θ b) E ⟨[.agg [.v (.int .i64 x.1), .v (.int .i64 x.2.1), .v (.int .i64 x.2.2.1), .v (.int .i64 x.2.2.2.1), .v (.int .i64 x.2.2.2.2.1), .v (.sl 39 x.2.2.2.2.2.1), .v (.sl 53 x.2.2.2.2.2.2.1), .v (.int .i64 x.2.2.2.2.2.2.2.1), .v (.int .i64 x.2.2.2.2.2.2.2.2)]], [], []⟩ #[v0] E.w0 bx rw_ := hS
  have hcode : codeC (c_valid_Check_1 b n) n (codeRest Go.Proofs.Try.f8) p_valid_Check_1 (recSt 82 27 29 3 [.v (.int .i64 x.1), .v (.int .i64 x.2.1), .v (.int .i64 x.2.2.1), .v (.int .i64 x.2.2.2.1), .v (.int .i64 x.2.2.2.2.1), .v (.sl 39 x.2.2.2.2.2.1), .v (.sl 53 x.2.2.2.2.2.2.1), .v (.int .i64 x.2.2.2.2.2.2.2.1), .v (.int .i64 x.2.2.2.2.2.2.2.2)]) (recK (c_valid_Check_1 b n) Go.Proofs.Try.f8 o_valid_Check_1) = valid_Check_1 n (x.1, x.2.1, x.2.2.1, x.2.2.2.1, x.2.2.2.2.1, x.2.2.2.2.2.1, x.2.2.2.2.2.2.1, x.2.2.2.2.2.2.2.1, x.2.2.2.2.2.2.2.2, 0, 0) := by kernel_rfl
  have hout : outTo o_valid_Check_1 (fun ex _ t => (∀ ty, ex = .pan ty → ty = 55 ∧ t.slots = [.agg [.v (.int .i64 z.1), .v (.int .i64 z.2)]]) ∧ (ex = .ret → t.slots = [.c (.v (.int .i64 z.1)), .c (.v (.int .i64 z.2))])) (show Outs (Θ b).T o_valid_Check_1 from y) := by
    subst hyz
    cases y with
    | inl p => exact ⟨fun ty h => by cases h; exact ⟨rfl, rfl⟩, fun h => by cases h⟩
    | inr q => exact ⟨fun ty h => (by cases h), fun _ => rfl⟩
  refine Calls.mono (rec_run (C := c_valid_Check_1 b n) (ok_of mixed eqsOk ⟨s_valid_must b n, s_valid_within b n, s_valid_once b n, s_valid_node b n, s_valid_stops b n, trivial⟩ trivial trivial) Go.Proofs.Try.func8 chk_body rfl (by decide) (fun us W Q hu h => chk_pre _ us W Q hu h) (enters_of Go.Proofs.Try.func22 (by kernel_rfl) rfl) clo_idle clo_panic chk_load rfl (by rfl) rfl hS' (hcode.trans hy) hout) ?_
  rintro e w' ⟨bx', rw', rfl, hS2⟩
  exact ⟨rfl, [.int .i64 z.1, .int .i64 z.2], bx', rw', rfl, hS2⟩
def h_ref04_skip : Shape := ⟨slotsOf 2 [(0, .c (.hole (.sl 5))), (1, .c (.hole (.int .i64)))], [], []⟩
def o_ref04_skip : List (Ex × Shape) := [(.ret, ⟨slotsOf 1 [(0, .c (.hole (.int .i64)))], [], []⟩)]
def ref04_skip (n : Nat) (x0 : (List Int) × Int) : Option (Int) :=
  (iterL (Y := (Int) ⊕ (Int)) n (fun (x1 : (List Int) × Int) =>
    let e0 := x1.1.length
    let e1 := inB x1.2 e0
    let e2 := atI 0 x1.1 x1.2
    bif decide (x1.2 < ((e0 : Nat) : Int)) then
      bif e1 then
        bif e2 == 35 then
          (iterL (Y := ((List Int) × Int)) n (fun (x2 : (List Int) × Int) =>
            let e3 := x2.1.length
            letJ (fun (x3 : (List Int) × Int × Bool) =>
              bif x3.2.2 then
                some (.inl (x3.1, wrap64 (x3.2.1 + 1)))
              else
              some (.inr (x3.1, x3.2.1))) fun J4 =>
            bif decide (x2.2 < ((e3 : Nat) : Int)) then
              bif inB x2.2 e3 then
                J4 (x2.1, x2.2, !((atI 0 x2.1 x2.2) == 10))
              else
              none
            else
            J4 (x2.1, x2.2, false)) x1).bind fun (z5 : (List Int) × Int) =>
            some (.inl z5)
        else
          letJ (fun (x6 : (List Int) × Int × Bool) =>
            bif x6.2.2 then
              some (.inl (x6.1, wrap64 (x6.2.1 + 1)))
            else
            some (.inr (.inl x6.2.1))) fun J7 =>
          bif e1 then
            bif e2 == 32 then
              J7 (x1.1, x1.2, true)
            else
            bif e1 then
              bif e2 == 9 then
                J7 (x1.1, x1.2, true)
              else
              bif e1 then
                bif e2 == 10 then
                  J7 (x1.1, x1.2, true)
                else
                bif e1 then
                  J7 (x1.1, x1.2, e2 == 13)
                else
                none
              else
              none
            else
            none
          else
          none
      else
      none
    else
    some (.inr (.inr x1.2))) x0).bind (Sum.elim (fun (z8 : Int) =>
    some z8) (fun (z9 : Int) =>
    some z9))
def p_ref04_skip : Plan := .two (.leaf) (.two (.one (.loop ⟨slotsOf 57 [(0, .c (.hole (.sl 5))), (1, .c (.hole (.int .i64)))], [], []⟩ [(.ret, ⟨slotsOf 57 [(4, .c (.hole (.int .i64)))], [], []⟩), (.exit 0, ⟨slotsOf 57 [(1, .c (.hole (.int .i64)))], [], []⟩)] (.two (.leaf) (.one (.two (.leaf) (.two (.one (.loop ⟨slotsOf 57 [(0, .c (.hole (.sl 5))), (1, .c (.hole (.int .i64)))], [], []⟩ [(.exit 2, ⟨slotsOf 57 [(0, .c (.hole (.sl 5))), (1, .c (.hole (.int .i64)))], [], []⟩)] (.two (.two (.join ⟨slotsOf 57 [(0, .c (.hole (.sl 5))), (1, .c (.hole (.int .i64))), (24, .c (.hole (.bool)))], [], []⟩ (.leaf)) (.leaf)) (.leaf)))) (.two (.join ⟨slotsOf 57 [(0, .c (.hole (.sl 5))), (1, .c (.hole (.int .i64))), (52, .c (.hole (.bool)))], [], []⟩ (.leaf)) (.leaf)))))))) (.leaf))
noncomputable def c_ref04_skip (b n : Nat) : Cx := ⟨Go.Proofs.Try.prog, (Θ b), [23], [], [], [], []⟩
theorem d_ref04_skip (b n : Nat) (x : h_ref04_skip.X T) : denF (c_ref04_skip b n) n Go.Proofs.Try.f67 p_ref04_skip h_ref04_skip o_ref04_skip x = ref04_skip n x := by kernel_rfl
theorem s_ref04_skip (b n : Nat) : PCalls Go.Proofs.Try.prog (Θ b) 67 ⟨h_ref04_skip, o_ref04_skip, ref04_skip n⟩ :=
  func_ok' (C := c_ref04_skip b n) (n := n) (p := p_ref04_skip) (ok_of mixed eqsOk trivial trivial trivial) Go.Proofs.Try.func67 (by kernel_rfl) (by kernel_rfl) (d_ref04_skip b n) (by kernel_rfl)
def h_ref04_small : Shape := ⟨slotsOf 1 [(0, .c (.hole (.int .u8)))], [], []⟩
def o_ref04_small : List (Ex × Shape) := [(.ret, ⟨slotsOf 1 [(0, .c (.hole (.bool)))], [], []⟩)]
def ref04_small (n : Nat) (x0 : Int) : Option (Bool) :=
  bif decide (97 ≤ x0) then
    some (decide (x0 ≤ 122))
  else
  some false
def p_ref04_small : Plan := .leaf
noncomputable def c_ref04_small (b n : Nat) : Cx := ⟨Go.Proofs.Try.prog, (Θ b), [23], [], [], [], []⟩
theorem d_ref04_small (b n : Nat) (x : h_ref04_small.X T) : denF (c_ref04_small b n) n Go.Proofs.Try.f74 p_ref04_small h_ref04_small o_ref04_small x = ref04_small n x := by kernel_rfl
theorem s_ref04_small (b n : Nat) : PCalls Go.Proofs.Try.prog (Θ b) 74 ⟨h_ref04_small, o_ref04_small, ref04_small n⟩ :=
  func_ok' (C := c_ref04_small b n) (n := n) (p := p_ref04_small) (ok_of mixed eqsOk trivial trivial trivial) Go.Proofs.Try.func74 (by kernel_rfl) (by kernel_rfl) (d_ref04_small b n) (by kernel_rfl)
def h_ref04_digit : Shape := ⟨slotsOf 1 [(0, .c (.hole (.int .u8)))], [], []⟩
def o_ref04_digit : List (Ex × Shape) := [(.ret, ⟨slotsOf 1 [(0, .c (.hole (.bool)))], [], []⟩)]
def ref04_digit (n : Nat) (x0 : Int) : Option (Bool) :=
  bif decide (48 ≤ x0) then
    some (decide (x0 ≤ 57))
  else
  some false
def p_ref04_digit : Plan := .leaf
noncomputable def c_ref04_digit (b n : Nat) : Cx := ⟨Go.Proofs.Try.prog, (Θ b), [23], [], [], [], []⟩
theorem d_ref04_digit (b n : Nat) (x : h_ref04_digit.X T) : denF (c_ref04_digit b n) n Go.Proofs.Try.f75 p_ref04_digit h_ref04_digit o_ref04_digit x = ref04_digit n x := by kernel_rfl
theorem s_ref04_digit (b n : Nat) : PCalls Go.Proofs.Try.prog (Θ b) 75 ⟨h_ref04_digit, o_ref04_digit, ref04_digit n⟩ :=
  func_ok' (C := c_ref04_digit b n) (n := n) (p := p_ref04_digit) (ok_of mixed eqsOk trivial trivial trivial) Go.Proofs.Try.func75 (by kernel_rfl) (by kernel_rfl) (d_ref04_digit b n) (by kernel_rfl)
def h_ref04_sign : Shape := ⟨slotsOf 1 [(0, .c (.hole (.int .u8)))], [], []⟩
def o_ref04_sign : List (Ex × Shape) := [(.ret, ⟨slotsOf 1 [(0, .c (.hole (.bool)))], [], []⟩)]
def ref04_sign (n : Nat) (x0 : Int) : Option (Bool) :=
  letJ (fun (x1 : Bool) =>
    some x1) fun J2 =>
  bif x0 == 123 then
    J2 true
  else
  bif x0 == 125 then
    J2 true
  else
  bif x0 == 44 then
    J2 true
  else
  bif x0 == 59 then
    J2 true
  else
  bif x0 == 58 then
    J2 true
  else
  bif x0 == 47 then
    J2 true
  else
  J2 (x0 == 45)
def p_ref04_sign : Plan := .two (.leaf) (.two (.join ⟨slotsOf 29 [(2, .c (.hole (.bool)))], [], []⟩ (.leaf)) (.leaf))
noncomputable def c_ref04_sign (b n : Nat) : Cx := ⟨Go.Proofs.Try.prog, (Θ b), [23], [], [], [], []⟩
theorem d_ref04_sign (b n : Nat) (x : h_ref04_sign.X T) : denF (c_ref04_sign b n) n Go.Proofs.Try.f76 p_ref04_sign h_ref04_sign o_ref04_sign x = ref04_sign n x := by kernel_rfl
theorem s_ref04_sign (b n : Nat) : PCalls Go.Proofs.Try.prog (Θ b) 76 ⟨h_ref04_sign, o_ref04_sign, ref04_sign n⟩ :=
  func_ok' (C := c_ref04_sign b n) (n := n) (p := p_ref04_sign) (ok_of mixed eqsOk trivial trivial trivial) Go.Proofs.Try.func76 (by kernel_rfl) (by kernel_rfl) (d_ref04_sign b n) (by kernel_rfl)
end Go.Proofs.Ytbcejiobmeglgaa.Fn
