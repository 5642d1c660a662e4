/- Functions of the program, each as a plain function, and that the machine does what it says. -/
import Derived.Test.YtbcejiobmeglgaaFnV0
namespace Go.Proofs.Ytbcejiobmeglgaa.Fn
set_option linter.unusedVariables false
set_option maxRecDepth 100000
open Go Go.RowKit Go.Den
def h_ref07_walks : Shape := ⟨slotsOf 1 [(0, .agg [.hole (.str), .hole (.sl 44), .hole (.sl 78), .hole (.sl 42), .hole (.sl 67), .hole (.sl 47), .hole (.int .i64)])], [], []⟩
def o_ref07_walks : List (Ex × Shape) := [(.ret, ⟨slotsOf 2 [(0, .c (.hole (.int .i64))), (1, .c (.hole (.int .i64)))], [], []⟩)]
def ref07_walks (n : Nat) (x0 : ByteArray × (List (ByteArray × Int × Int × Int × Int × Int × Int × Int × Int × Int × Int)) × (List (ByteArray × ByteArray × Int × Int × Int × Int)) × (List (ByteArray × (List ByteArray) × Int)) × (List (List (Bool × List ByteArray))) × (List (ByteArray × ByteArray × Int)) × Int) : Option (Int × Int) :=
  (iterL (Y := (Int × Int) ⊕ (Unit)) n (fun (x1 : Int × ByteArray × (List (ByteArray × Int × Int × Int × Int × Int × Int × Int × Int × Int × Int)) × (List (ByteArray × ByteArray × Int × Int × Int × Int)) × (List (ByteArray × (List ByteArray) × Int)) × (List (List (Bool × List ByteArray))) × (List (ByteArray × ByteArray × Int)) × Int) =>
    let e0 := x1.2.2.2.1.length
    bif decide (x1.1 < ((e0 : Nat) : Int)) then
      bif inB x1.1 e0 then
        (iterL (Y := (Int × Int) ⊕ (Int × ByteArray × (List (ByteArray × Int × Int × Int × Int × Int × Int × Int × Int × Int × Int)) × (List (ByteArray × ByteArray × Int × Int × Int × Int)) × (List (ByteArray × (List ByteArray) × Int)) × (List (List (Bool × List ByteArray))) × (List (ByteArray × ByteArray × Int)) × Int × ByteArray × ByteArray × Int × Int × Int × Int)) n (fun (x2 : Int × Int × ByteArray × (List (ByteArray × Int × Int × Int × Int × Int × Int × Int × Int × Int × Int)) × (List (ByteArray × ByteArray × Int × Int × Int × Int)) × (List (ByteArray × (List ByteArray) × Int)) × (List (List (Bool × List ByteArray))) × (List (ByteArray × ByteArray × Int)) × Int × ByteArray × ByteArray × Int × Int × Int × Int) =>
          bif decide (x2.2.1 < x2.1) then
            bif inB x2.2.1 x2.2.2.2.2.1.length then
              bif strEq (atI (ByteArray.mk #[], ByteArray.mk #[], 0, 0, 0, 0) x2.2.2.2.2.1 x2.2.1).1 x2.2.2.2.2.2.2.2.2.2.1 then
                some (.inr (.inl (71, x2.2.2.2.2.2.2.2.2.2.2.2.2.2.2)))
              else
              some (.inl (x2.1, wrap64 (x2.2.1 + 1), x2.2.2))
            else
            none
          else
          some (.inr (.inr (x2.1, x2.2.2)))) (x1.1, 0, x1.2.1, x1.2.2.1, x1.2.2.2.1, x1.2.2.2.2.1, x1.2.2.2.2.2.1, x1.2.2.2.2.2.2.1, x1.2.2.2.2.2.2.2, atI (ByteArray.mk #[], ByteArray.mk #[], 0, 0, 0, 0) x1.2.2.2.1 x1.1)).bind (Sum.elim (fun (z3 : Int × Int) =>
          some (.inr (.inl z3))) (fun (z4 : Int × ByteArray × (List (ByteArray × Int × Int × Int × Int × Int × Int × Int × Int × Int × Int)) × (List (ByteArray × ByteArray × Int × Int × Int × Int)) × (List (ByteArray × (List ByteArray) × Int)) × (List (List (Bool × List ByteArray))) × (List (ByteArray × ByteArray × Int)) × Int × ByteArray × ByteArray × Int × Int × Int × Int) =>
          (ref07_Phase n (z4.2.1, z4.2.2.1, z4.2.2.2.1, z4.2.2.2.2.1, z4.2.2.2.2.2.1, z4.2.2.2.2.2.2.1, z4.2.2.2.2.2.2.2.1, z4.2.2.2.2.2.2.2.2.2.1)).bind fun y5 =>
          bif decide (y5 < 0) then
            some (.inr (.inl (72, z4.2.2.2.2.2.2.2.2.2.2.2.2.2)))
          else
          letJ (fun (x9 : Int × Bool × ByteArray × (List (ByteArray × Int × Int × Int × Int × Int × Int × Int × Int × Int × Int)) × (List (ByteArray × ByteArray × Int × Int × Int × Int)) × (List (ByteArray × (List ByteArray) × Int)) × (List (List (Bool × List ByteArray))) × (List (ByteArray × ByteArray × Int)) × Int × ByteArray × ByteArray × Int × Int × Int × Int) =>
            bif x9.2.1 then
              some (.inr (.inl (70, x9.2.2.2.2.2.2.2.2.2.2.2.2.2.2)))
            else
            some (.inl (wrap64 (x9.1 + 1), x9.2.2.1, x9.2.2.2.1, x9.2.2.2.2.1, x9.2.2.2.2.2.1, x9.2.2.2.2.2.2.1, x9.2.2.2.2.2.2.2.1, x9.2.2.2.2.2.2.2.2.1))) fun J10 =>
          (ref07_in n (z4.2.2.2.2.2.2.2.2.2.2.1, 1, 100000)).bind fun y6 =>
          bif !y6 then
            J10 (z4.1, true, z4.2)
          else
          (ref07_in n (z4.2.2.2.2.2.2.2.2.2.2.2.1, 1, 10000)).bind fun y7 =>
          bif !y7 then
            J10 (z4.1, true, z4.2)
          else
          (ref07_in n (z4.2.2.2.2.2.2.2.2.2.2.2.2.1, 1, 6000)).bind fun y8 =>
          J10 (z4.1, !y8, z4.2)))
      else
      none
    else
    some (.inr (.inr ()))) (0, x0)).bind (Sum.elim (fun (z11 : Int × Int) =>
    some z11) (fun (z12 : Unit) =>
    some (0, 0)))
def p_ref07_walks : Plan := .two (.leaf) (.two (.two (.leaf) (.one (.loop ⟨slotsOf 60 [(1, .c (.box 1 0)), (4, .c (.hole (.int .i64)))], [(1, 39, [.hole (.str), .hole (.sl 44), .hole (.sl 78), .hole (.sl 42), .hole (.sl 67), .hole (.sl 47), .hole (.int .i64)])], []⟩ [(.ret, ⟨slotsOf 60 [(2, .c (.hole (.int .i64))), (3, .c (.hole (.int .i64)))], [], []⟩), (.exit 0, ⟨slotsOf 60 [], [], []⟩)] (.two (.leaf) (.two (.one (.two (.leaf) (.two (.two (.leaf) (.one (.loop ⟨slotsOf 60 [(1, .c (.box 1 0)), (4, .c (.hole (.int .i64))), (5, .c (.box 5 0)), (6, .c (.hole (.int .i64)))], [(1, 39, [.hole (.str), .hole (.sl 44), .hole (.sl 78), .hole (.sl 42), .hole (.sl 67), .hole (.sl 47), .hole (.int .i64)]), (5, 78, [.hole (.str), .hole (.str), .hole (.int .i64), .hole (.int .i64), .hole (.int .i64), .hole (.int .i64)])], []⟩ [(.ret, ⟨slotsOf 60 [(2, .c (.hole (.int .i64))), (3, .c (.hole (.int .i64)))], [], []⟩), (.exit 2, ⟨slotsOf 60 [(1, .c (.box 1 0)), (4, .c (.hole (.int .i64))), (5, .c (.box 5 0))], [(1, 39, [.hole (.str), .hole (.sl 44), .hole (.sl 78), .hole (.sl 42), .hole (.sl 67), .hole (.sl 47), .hole (.int .i64)]), (5, 78, [.hole (.str), .hole (.str), .hole (.int .i64), .hole (.int .i64), .hole (.int .i64), .hole (.int .i64)])], []⟩)] (.leaf)))) (.two (.leaf) (.two (.join ⟨slotsOf 60 [(1, .c (.box 1 0)), (4, .c (.hole (.int .i64))), (5, .c (.box 5 0)), (57, .c (.hole (.bool)))], [(1, 39, [.hole (.str), .hole (.sl 44), .hole (.sl 78), .hole (.sl 42), .hole (.sl 67), .hole (.sl 47), .hole (.int .i64)]), (5, 78, [.hole (.str), .hole (.str), .hole (.int .i64), .hole (.int .i64), .hole (.int .i64), .hole (.int .i64)])], []⟩ (.leaf)) (.leaf)))))) (.leaf)))))) (.leaf))
noncomputable def c_ref07_walks (b n : Nat) : Cx := ⟨Go.Proofs.Try.prog, (Θ b), [23], [(28, ⟨h_ref07_in, o_ref07_in, ref07_in n⟩), (18, ⟨h_ref07_Phase, o_ref07_Phase, ref07_Phase n⟩)], [], [], []⟩
theorem d_ref07_walks (b n : Nat) (x : h_ref07_walks.X T) : denF (c_ref07_walks b n) n Go.Proofs.Try.f51 p_ref07_walks h_ref07_walks o_ref07_walks x = ref07_walks n x := by kernel_rfl
theorem s_ref07_walks (b n : Nat) : PCalls Go.Proofs.Try.prog (Θ b) 51 ⟨h_ref07_walks, o_ref07_walks, ref07_walks n⟩ :=
  func_ok' (C := c_ref07_walks b n) (n := n) (p := p_ref07_walks) (ok_of mixed eqsOk ⟨s_ref07_in b n, s_ref07_Phase b n, trivial⟩ trivial trivial) Go.Proofs.Try.func51 (by kernel_rfl) (by kernel_rfl) (d_ref07_walks b n) (by kernel_rfl)
def h_ref07_phases : Shape := ⟨slotsOf 1 [(0, .agg [.hole (.str), .hole (.sl 44), .hole (.sl 78), .hole (.sl 42), .hole (.sl 67), .hole (.sl 47), .hole (.int .i64)])], [], []⟩
def o_ref07_phases : List (Ex × Shape) := [(.ret, ⟨slotsOf 2 [(0, .c (.hole (.int .i64))), (1, .c (.hole (.int .i64)))], [], []⟩)]
def ref07_phases (n : Nat) (x0 : ByteArray × (List (ByteArray × Int × Int × Int × Int × Int × Int × Int × Int × Int × Int)) × (List (ByteArray × ByteArray × Int × Int × Int × Int)) × (List (ByteArray × (List ByteArray) × Int)) × (List (List (Bool × List ByteArray))) × (List (ByteArray × ByteArray × Int)) × Int) : Option (Int × Int) :=
  (iterL (Y := (Int × Int) ⊕ (ByteArray × (List (ByteArray × Int × Int × Int × Int × Int × Int × Int × Int × Int × Int)) × (List (ByteArray × ByteArray × Int × Int × Int × Int)) × (List (ByteArray × (List ByteArray) × Int)) × (List (List (Bool × List ByteArray))) × (List (ByteArray × ByteArray × Int)) × Int)) n (fun (x1 : Int × ByteArray × (List (ByteArray × Int × Int × Int × Int × Int × Int × Int × Int × Int × Int)) × (List (ByteArray × ByteArray × Int × Int × Int × Int)) × (List (ByteArray × (List ByteArray) × Int)) × (List (List (Bool × List ByteArray))) × (List (ByteArray × ByteArray × Int)) × Int) =>
    let e0 := x1.2.2.2.2.1.length
    let e1 := atI (ByteArray.mk #[], [], 0) x1.2.2.2.2.1 x1.1
    bif decide (x1.1 < ((e0 : Nat) : Int)) then
      bif inB x1.1 e0 then
        (ref07_Phase n (x1.2.1, x1.2.2.1, x1.2.2.2.1, x1.2.2.2.2.1, x1.2.2.2.2.2.1, x1.2.2.2.2.2.2.1, x1.2.2.2.2.2.2.2, e1.1)).bind fun y2 =>
        bif decide (y2 < x1.1) then
          some (.inr (.inl (71, e1.2.2)))
        else
        (iterL (Y := (Int × Int) ⊕ (Int × ByteArray × (List (ByteArray × Int × Int × Int × Int × Int × Int × Int × Int × Int × Int)) × (List (ByteArray × ByteArray × Int × Int × Int × Int)) × (List (ByteArray × (List ByteArray) × Int)) × (List (List (Bool × List ByteArray))) × (List (ByteArray × ByteArray × Int)) × Int × ByteArray × (List ByteArray) × Int)) n (fun (x3 : Int × Int × ByteArray × (List (ByteArray × Int × Int × Int × Int × Int × Int × Int × Int × Int × Int)) × (List (ByteArray × ByteArray × Int × Int × Int × Int)) × (List (ByteArray × (List ByteArray) × Int)) × (List (List (Bool × List ByteArray))) × (List (ByteArray × ByteArray × Int)) × Int × ByteArray × (List ByteArray) × Int) =>
          let e2 := x3.2.2.2.2.2.2.2.2.2.2.1.length
          let e3 := inB x3.2.1 e2
          let e4 := atI (ByteArray.mk #[]) x3.2.2.2.2.2.2.2.2.2.2.1 x3.2.1
          bif decide (x3.2.1 < ((e2 : Nat) : Int)) then
            bif e3 then
              (ref07_Head n (x3.2.2.1, x3.2.2.2.1, x3.2.2.2.2.1, x3.2.2.2.2.2.1, x3.2.2.2.2.2.2.1, x3.2.2.2.2.2.2.2.1, x3.2.2.2.2.2.2.2.2.1, e4)).bind fun y4 =>
              bif decide (y4 < 0) then
                some (.inr (.inl (72, x3.2.2.2.2.2.2.2.2.2.2.2)))
              else
              letJ (fun (x7 : Int × Int × Bool × ByteArray × (List (ByteArray × Int × Int × Int × Int × Int × Int × Int × Int × Int × Int)) × (List (ByteArray × ByteArray × Int × Int × Int × Int)) × (List (ByteArray × (List ByteArray) × Int)) × (List (List (Bool × List ByteArray))) × (List (ByteArray × ByteArray × Int)) × Int × ByteArray × (List ByteArray) × Int) =>
                bif x7.2.2.1 then
                  some (.inr (.inl (71, x7.2.2.2.2.2.2.2.2.2.2.2.2)))
                else
                some (.inl (x7.1, wrap64 (x7.2.1 + 1), x7.2.2.2))) fun J8 =>
              bif e3 then
                (ref07_Home n (x3.2.2.1, x3.2.2.2.1, x3.2.2.2.2.1, x3.2.2.2.2.2.1, x3.2.2.2.2.2.2.1, x3.2.2.2.2.2.2.2.1, x3.2.2.2.2.2.2.2.2.1, e4)).bind fun y5 =>
                bif decide (y5 < x3.1) then
                  J8 (x3.1, x3.2.1, true, x3.2.2)
                else
                bif e3 then
                  bif cutOk none (some x3.2.1) e2 then
                    (ref04_In n (e4, cutList none (some x3.2.1) x3.2.2.2.2.2.2.2.2.2.2.1)).bind fun y6 =>
                    J8 (x3.1, x3.2.1, y6, x3.2.2)
                  else
                  none
                else
                none
              else
              none
            else
            none
          else
          some (.inr (.inr (x3.1, x3.2.2)))) (x1.1, 0, x1.2.1, x1.2.2.1, x1.2.2.2.1, x1.2.2.2.2.1, x1.2.2.2.2.2.1, x1.2.2.2.2.2.2.1, x1.2.2.2.2.2.2.2, e1)).bind (Sum.elim (fun (z9 : Int × Int) =>
          some (.inr (.inl z9))) (fun (z10 : Int × ByteArray × (List (ByteArray × Int × Int × Int × Int × Int × Int × Int × Int × Int × Int)) × (List (ByteArray × ByteArray × Int × Int × Int × Int)) × (List (ByteArray × (List ByteArray) × Int)) × (List (List (Bool × List ByteArray))) × (List (ByteArray × ByteArray × Int)) × Int × ByteArray × (List ByteArray) × Int) =>
          bif ((z10.2.2.2.2.2.2.2.2.2.1.length : Nat) : Int) == 0 then
            some (.inr (.inl (73, z10.2.2.2.2.2.2.2.2.2.2)))
          else
          some (.inl (wrap64 (z10.1 + 1), z10.2.1, z10.2.2.1, z10.2.2.2.1, z10.2.2.2.2.1, z10.2.2.2.2.2.1, z10.2.2.2.2.2.2.1, z10.2.2.2.2.2.2.2.1))))
      else
      none
    else
    some (.inr (.inr x1.2))) (0, x0)).bind (Sum.elim (fun (z11 : Int × Int) =>
    some z11) (fun (z12 : ByteArray × (List (ByteArray × Int × Int × Int × Int × Int × Int × Int × Int × Int × Int)) × (List (ByteArray × ByteArray × Int × Int × Int × Int)) × (List (ByteArray × (List ByteArray) × Int)) × (List (List (Bool × List ByteArray))) × (List (ByteArray × ByteArray × Int)) × Int) =>
    (iterL (Y := (Int × Int) ⊕ (Unit)) n (fun (x13 : Int × ByteArray × (List (ByteArray × Int × Int × Int × Int × Int × Int × Int × Int × Int × Int)) × (List (ByteArray × ByteArray × Int × Int × Int × Int)) × (List (ByteArray × (List ByteArray) × Int)) × (List (List (Bool × List ByteArray))) × (List (ByteArray × ByteArray × Int)) × Int) =>
      let e5 := x13.2.2.1.length
      let e6 := inB x13.1 e5
      let e7 := atI (ByteArray.mk #[], 0, 0, 0, 0, 0, 0, 0, 0, 0, 0) x13.2.2.1 x13.1
      bif decide (x13.1 < ((e5 : Nat) : Int)) then
        bif e6 then
          (ref07_Home n (x13.2.1, x13.2.2.1, x13.2.2.2.1, x13.2.2.2.2.1, x13.2.2.2.2.2.1, x13.2.2.2.2.2.2.1, x13.2.2.2.2.2.2.2, e7.1)).bind fun y14 =>
          bif decide (y14 < 0) then
            bif e6 then
              some (.inr (.inl (73, e7.2.2.2.2.2.2.2.2.2.2)))
            else
            none
          else
          some (.inl (wrap64 (x13.1 + 1), x13.2))
        else
        none
      else
      some (.inr (.inr ()))) (0, z12)).bind (Sum.elim (fun (z15 : Int × Int) =>
      some z15) (fun (z16 : Unit) =>
      some (0, 0)))))
def p_ref07_phases : Plan := .two (.leaf) (.two (.two (.leaf) (.one (.loop ⟨slotsOf 96 [(1, .c (.box 1 0)), (4, .c (.hole (.int .i64)))], [(1, 39, [.hole (.str), .hole (.sl 44), .hole (.sl 78), .hole (.sl 42), .hole (.sl 67), .hole (.sl 47), .hole (.int .i64)])], []⟩ [(.ret, ⟨slotsOf 96 [(2, .c (.hole (.int .i64))), (3, .c (.hole (.int .i64)))], [], []⟩), (.exit 0, ⟨slotsOf 96 [(1, .c (.box 1 0))], [(1, 39, [.hole (.str), .hole (.sl 44), .hole (.sl 78), .hole (.sl 42), .hole (.sl 67), .hole (.sl 47), .hole (.int .i64)])], []⟩)] (.two (.leaf) (.two (.one (.two (.leaf) (.two (.leaf) (.two (.two (.leaf) (.one (.loop ⟨slotsOf 96 [(1, .c (.box 1 0)), (4, .c (.hole (.int .i64))), (5, .c (.box 5 0)), (6, .c (.hole (.int .i64)))], [(1, 39, [.hole (.str), .hole (.sl 44), .hole (.sl 78), .hole (.sl 42), .hole (.sl 67), .hole (.sl 47), .hole (.int .i64)]), (5, 42, [.hole (.str), .hole (.sl 9), .hole (.int .i64)])], []⟩ [(.ret, ⟨slotsOf 96 [(2, .c (.hole (.int .i64))), (3, .c (.hole (.int .i64)))], [], []⟩), (.exit 2, ⟨slotsOf 96 [(1, .c (.box 1 0)), (4, .c (.hole (.int .i64))), (5, .c (.box 5 0))], [(1, 39, [.hole (.str), .hole (.sl 44), .hole (.sl 78), .hole (.sl 42), .hole (.sl 67), .hole (.sl 47), .hole (.int .i64)]), (5, 42, [.hole (.str), .hole (.sl 9), .hole (.int .i64)])], []⟩)] (.two (.leaf) (.two (.one (.two (.leaf) (.two (.join ⟨slotsOf 96 [(1, .c (.box 1 0)), (4, .c (.hole (.int .i64))), (5, .c (.box 5 0)), (6, .c (.hole (.int .i64))), (65, .c (.hole (.bool)))], [(1, 39, [.hole (.str), .hole (.sl 44), .hole (.sl 78), .hole (.sl 42), .hole (.sl 67), .hole (.sl 47), .hole (.int .i64)]), (5, 42, [.hole (.str), .hole (.sl 9), .hole (.int .i64)])], []⟩ (.leaf)) (.leaf)))) (.leaf)))))) (.leaf))))) (.leaf)))))) (.two (.two (.leaf) (.one (.loop ⟨slotsOf 96 [(1, .c (.box 1 0)), (7, .c (.hole (.int .i64)))], [(1, 39, [.hole (.str), .hole (.sl 44), .hole (.sl 78), .hole (.sl 42), .hole (.sl 67), .hole (.sl 47), .hole (.int .i64)])], []⟩ [(.ret, ⟨slotsOf 96 [(2, .c (.hole (.int .i64))), (3, .c (.hole (.int .i64)))], [], []⟩), (.exit 4, ⟨slotsOf 96 [], [], []⟩)] (.leaf)))) (.leaf)))
noncomputable def c_ref07_phases (b n : Nat) : Cx := ⟨Go.Proofs.Try.prog, (Θ b), [23], [(40, ⟨h_ref04_In, o_ref04_In, ref04_In n⟩), (16, ⟨h_ref07_Head, o_ref07_Head, ref07_Head n⟩), (18, ⟨h_ref07_Phase, o_ref07_Phase, ref07_Phase n⟩), (19, ⟨h_ref07_Home, o_ref07_Home, ref07_Home n⟩)], [], [], []⟩
theorem d_ref07_phases (b n : Nat) (x : h_ref07_phases.X T) : denF (c_ref07_phases b n) n Go.Proofs.Try.f50 p_ref07_phases h_ref07_phases o_ref07_phases x = ref07_phases n x := by kernel_rfl
theorem s_ref07_phases (b n : Nat) : PCalls Go.Proofs.Try.prog (Θ b) 50 ⟨h_ref07_phases, o_ref07_phases, ref07_phases n⟩ :=
  func_ok' (C := c_ref07_phases b n) (n := n) (p := p_ref07_phases) (ok_of mixed eqsOk ⟨s_ref04_In b n, s_ref07_Head b n, s_ref07_Phase b n, s_ref07_Home b n, trivial⟩ trivial trivial) Go.Proofs.Try.func50 (by kernel_rfl) (by kernel_rfl) (d_ref07_phases b n) (by kernel_rfl)
def h_ref07_node : Shape := ⟨slotsOf 1 [(0, .agg [.hole (.str), .hole (.sl 44), .hole (.sl 78), .hole (.sl 42), .hole (.sl 67), .hole (.sl 47), .hole (.int .i64)])], [], []⟩
def o_ref07_node : List (Ex × Shape) := [(.ret, ⟨slotsOf 2 [(0, .c (.hole (.int .i64))), (1, .c (.hole (.int .i64)))], [], []⟩)]
def ref07_node (n : Nat) (x0 : ByteArray × (List (ByteArray × Int × Int × Int × Int × Int × Int × Int × Int × Int × Int)) × (List (ByteArray × ByteArray × Int × Int × Int × Int)) × (List (ByteArray × (List ByteArray) × Int)) × (List (List (Bool × List ByteArray))) × (List (ByteArray × ByteArray × Int)) × Int) : Option (Int × Int) :=
  letJ (fun (x1 : Bool × ByteArray × (List (ByteArray × Int × Int × Int × Int × Int × Int × Int × Int × Int × Int)) × (List (ByteArray × ByteArray × Int × Int × Int × Int)) × (List (ByteArray × (List ByteArray) × Int)) × (List (List (Bool × List ByteArray))) × (List (ByteArray × ByteArray × Int)) × Int) =>
    bif x1.1 then
      some (4, x1.2.2.2.2.2.2.2)
    else
    letJ (fun (x3 : Bool × ByteArray × (List (ByteArray × Int × Int × Int × Int × Int × Int × Int × Int × Int × Int)) × (List (ByteArray × ByteArray × Int × Int × Int × Int)) × (List (ByteArray × (List ByteArray) × Int)) × (List (List (Bool × List ByteArray))) × (List (ByteArray × ByteArray × Int)) × Int) =>
      bif x3.1 then
        some (73, x3.2.2.2.2.2.2.2)
      else
      (ref07_heads n x3.2).bind fun y5 =>
      letJ (fun (x7 : Int × Int × ByteArray × (List (ByteArray × Int × Int × Int × Int × Int × Int × Int × Int × Int × Int)) × (List (ByteArray × ByteArray × Int × Int × Int × Int)) × (List (ByteArray × (List ByteArray) × Int)) × (List (List (Bool × List ByteArray))) × (List (ByteArray × ByteArray × Int)) × Int) =>
        letJ (fun (x10 : Int × Int × ByteArray × (List (ByteArray × Int × Int × Int × Int × Int × Int × Int × Int × Int × Int)) × (List (ByteArray × ByteArray × Int × Int × Int × Int)) × (List (ByteArray × (List ByteArray) × Int)) × (List (List (Bool × List ByteArray))) × (List (ByteArray × ByteArray × Int)) × Int) =>
          letJ (fun (x13 : Int × Int × ByteArray × (List (ByteArray × Int × Int × Int × Int × Int × Int × Int × Int × Int × Int)) × (List (ByteArray × ByteArray × Int × Int × Int × Int)) × (List (ByteArray × (List ByteArray) × Int)) × (List (List (Bool × List ByteArray))) × (List (ByteArray × ByteArray × Int)) × Int) =>
            bif x13.1 == 0 then
              (ref07_foes n x13.2.2).bind fun y15 =>
              some y15
            else
            some (x13.1, x13.2.1)) fun J14 =>
          bif x10.1 == 0 then
            (ref07_rings n x10.2.2).bind fun y12 =>
            J14 (y12.1, y12.2, x10.2.2)
          else
          J14 x10) fun J11 =>
        bif x7.1 == 0 then
          (ref07_walks n x7.2.2).bind fun y9 =>
          J11 (y9.1, y9.2, x7.2.2)
        else
        J11 x7) fun J8 =>
      bif y5.1 == 0 then
        (ref07_phases n x3.2).bind fun y6 =>
        J8 (y6.1, y6.2, x3.2)
      else
      J8 (y5.1, y5.2, x3.2)) fun J4 =>
    bif ((x1.2.2.1.length : Nat) : Int) == 0 then
      J4 (true, x1.2)
    else
    bif ((x1.2.2.2.2.1.length : Nat) : Int) == 0 then
      J4 (true, x1.2)
    else
    J4 (((x1.2.2.2.2.2.1.length : Nat) : Int) == 0, x1.2)) fun J2 =>
  bif decide (16 < ((x0.2.1.length : Nat) : Int)) then
    J2 (true, x0)
  else
  bif decide (16 < ((x0.2.2.2.1.length : Nat) : Int)) then
    J2 (true, x0)
  else
  bif decide (8 < ((x0.2.2.1.length : Nat) : Int)) then
    J2 (true, x0)
  else
  bif decide (4 < ((x0.2.2.2.2.1.length : Nat) : Int)) then
    J2 (true, x0)
  else
  J2 (decide (64 < ((x0.2.2.2.2.2.1.length : Nat) : Int)), x0)
def p_ref07_node : Plan := .two (.leaf) (.two (.two (.join ⟨slotsOf 89 [(1, .c (.box 1 0)), (33, .c (.hole (.bool)))], [(1, 39, [.hole (.str), .hole (.sl 44), .hole (.sl 78), .hole (.sl 42), .hole (.sl 67), .hole (.sl 47), .hole (.int .i64)])], []⟩ (.leaf)) (.leaf)) (.two (.two (.join ⟨slotsOf 89 [(1, .c (.box 1 0)), (51, .c (.hole (.bool)))], [(1, 39, [.hole (.str), .hole (.sl 44), .hole (.sl 78), .hole (.sl 42), .hole (.sl 67), .hole (.sl 47), .hole (.int .i64)])], []⟩ (.leaf)) (.leaf)) (.two (.leaf) (.two (.join ⟨slotsOf 89 [(1, .c (.box 1 0)), (4, .c (.hole (.int .i64))), (5, .c (.hole (.int .i64)))], [(1, 39, [.hole (.str), .hole (.sl 44), .hole (.sl 78), .hole (.sl 42), .hole (.sl 67), .hole (.sl 47), .hole (.int .i64)])], []⟩ (.leaf)) (.two (.join ⟨slotsOf 89 [(1, .c (.box 1 0)), (4, .c (.hole (.int .i64))), (5, .c (.hole (.int .i64)))], [(1, 39, [.hole (.str), .hole (.sl 44), .hole (.sl 78), .hole (.sl 42), .hole (.sl 67), .hole (.sl 47), .hole (.int .i64)])], []⟩ (.leaf)) (.two (.join ⟨slotsOf 89 [(1, .c (.box 1 0)), (4, .c (.hole (.int .i64))), (5, .c (.hole (.int .i64)))], [(1, 39, [.hole (.str), .hole (.sl 44), .hole (.sl 78), .hole (.sl 42), .hole (.sl 67), .hole (.sl 47), .hole (.int .i64)])], []⟩ (.leaf)) (.leaf)))))))
noncomputable def c_ref07_node (b n : Nat) : Cx := ⟨Go.Proofs.Try.prog, (Θ b), [23], [(49, ⟨h_ref07_heads, o_ref07_heads, ref07_heads n⟩), (50, ⟨h_ref07_phases, o_ref07_phases, ref07_phases n⟩), (51, ⟨h_ref07_walks, o_ref07_walks, ref07_walks n⟩), (52, ⟨h_ref07_rings, o_ref07_rings, ref07_rings n⟩), (53, ⟨h_ref07_foes, o_ref07_foes, ref07_foes n⟩)], [], [], []⟩
theorem d_ref07_node (b n : Nat) (x : h_ref07_node.X T) : denF (c_ref07_node b n) n Go.Proofs.Try.f29 p_ref07_node h_ref07_node o_ref07_node x = ref07_node n x := by kernel_rfl
theorem s_ref07_node (b n : Nat) : PCalls Go.Proofs.Try.prog (Θ b) 29 ⟨h_ref07_node, o_ref07_node, ref07_node n⟩ :=
  func_ok' (C := c_ref07_node b n) (n := n) (p := p_ref07_node) (ok_of mixed eqsOk ⟨s_ref07_heads b n, s_ref07_phases b n, s_ref07_walks b n, s_ref07_rings b n, s_ref07_foes b n, trivial⟩ trivial trivial) Go.Proofs.Try.func29 (by kernel_rfl) (by kernel_rfl) (d_ref07_node b n) (by kernel_rfl)
def h_ref07_stops : Shape := ⟨slotsOf 1 [(0, .agg [.hole (.int .i64), .hole (.int .i64), .hole (.int .i64), .hole (.int .i64), .hole (.int .i64), .hole (.sl 39), .hole (.sl 53), .hole (.int .i64), .hole (.int .i64)])], [], []⟩
def o_ref07_stops : List (Ex × Shape) := [(.ret, ⟨slotsOf 2 [(0, .c (.hole (.int .i64))), (1, .c (.hole (.int .i64)))], [], []⟩)]
def ref07_stops (n : Nat) (x0 : Int × Int × Int × Int × Int × (List (ByteArray × (List (ByteArray × Int × Int × Int × Int × Int × Int × Int × Int × Int × Int)) × (List (ByteArray × ByteArray × Int × Int × Int × Int)) × (List (ByteArray × (List ByteArray) × Int)) × (List (List (Bool × List ByteArray))) × (List (ByteArray × ByteArray × Int)) × Int)) × (List (ByteArray × ByteArray × ByteArray × Int × Int × Int)) × Int × Int) : Option (Int × Int) :=
  (iterL (Y := (Int × Int) ⊕ (Unit)) n (fun (x1 : Int × Int × Int × Int × Int × Int × (List (ByteArray × (List (ByteArray × Int × Int × Int × Int × Int × Int × Int × Int × Int × Int)) × (List (ByteArray × ByteArray × Int × Int × Int × Int)) × (List (ByteArray × (List ByteArray) × Int)) × (List (List (Bool × List ByteArray))) × (List (ByteArray × ByteArray × Int)) × Int)) × (List (ByteArray × ByteArray × ByteArray × Int × Int × Int)) × Int × Int) =>
    let e0 := x1.2.2.2.2.2.2.2.1.length
    let e1 := atI (ByteArray.mk #[], ByteArray.mk #[], ByteArray.mk #[], 0, 0, 0) x1.2.2.2.2.2.2.2.1 x1.1
    bif decide (x1.1 < ((e0 : Nat) : Int)) then
      bif inB x1.1 e0 then
        (ref07_Node n (x1.2.1, x1.2.2.1, x1.2.2.2.1, x1.2.2.2.2.1, x1.2.2.2.2.2.1, x1.2.2.2.2.2.2.1, x1.2.2.2.2.2.2.2.1, x1.2.2.2.2.2.2.2.2.1, x1.2.2.2.2.2.2.2.2.2, e1.1)).bind fun y2 =>
        bif decide (y2 < 0) then
          some (.inr (.inl (72, e1.2.2.2.2.2)))
        else
        (iterL (Y := (Int × Int) ⊕ (Int × Int × Int × Int × Int × Int × Int × (List (ByteArray × (List (ByteArray × Int × Int × Int × Int × Int × Int × Int × Int × Int × Int)) × (List (ByteArray × ByteArray × Int × Int × Int × Int)) × (List (ByteArray × (List ByteArray) × Int)) × (List (List (Bool × List ByteArray))) × (List (ByteArray × ByteArray × Int)) × Int)) × (List (ByteArray × ByteArray × ByteArray × Int × Int × Int)) × Int × Int × ByteArray × ByteArray × ByteArray × Int × Int × Int)) n (fun (x3 : Int × Int × Int × Int × Int × Int × Int × Int × (List (ByteArray × (List (ByteArray × Int × Int × Int × Int × Int × Int × Int × Int × Int × Int)) × (List (ByteArray × ByteArray × Int × Int × Int × Int)) × (List (ByteArray × (List ByteArray) × Int)) × (List (List (Bool × List ByteArray))) × (List (ByteArray × ByteArray × Int)) × Int)) × (List (ByteArray × ByteArray × ByteArray × Int × Int × Int)) × Int × Int × ByteArray × ByteArray × ByteArray × Int × Int × Int) =>
          bif decide (x3.2.2.1 < x3.1) then
            bif inB x3.2.2.1 x3.2.2.2.2.2.2.2.2.2.1.length then
              bif strEq (atI (ByteArray.mk #[], ByteArray.mk #[], ByteArray.mk #[], 0, 0, 0) x3.2.2.2.2.2.2.2.2.2.1 x3.2.2.1).1 x3.2.2.2.2.2.2.2.2.2.2.2.2.1 then
                some (.inr (.inl (71, x3.2.2.2.2.2.2.2.2.2.2.2.2.2.2.2.2.2)))
              else
              some (.inl (x3.1, x3.2.1, wrap64 (x3.2.2.1 + 1), x3.2.2.2))
            else
            none
          else
          some (.inr (.inr (x3.1, x3.2.1, x3.2.2.2)))) (x1.1, y2, 0, x1.2.1, x1.2.2.1, x1.2.2.2.1, x1.2.2.2.2.1, x1.2.2.2.2.2.1, x1.2.2.2.2.2.2.1, x1.2.2.2.2.2.2.2.1, x1.2.2.2.2.2.2.2.2.1, x1.2.2.2.2.2.2.2.2.2, e1)).bind (Sum.elim (fun (z4 : Int × Int) =>
          some (.inr (.inl z4))) (fun (z5 : Int × Int × Int × Int × Int × Int × Int × (List (ByteArray × (List (ByteArray × Int × Int × Int × Int × Int × Int × Int × Int × Int × Int)) × (List (ByteArray × ByteArray × Int × Int × Int × Int)) × (List (ByteArray × (List ByteArray) × Int)) × (List (List (Bool × List ByteArray))) × (List (ByteArray × ByteArray × Int)) × Int)) × (List (ByteArray × ByteArray × ByteArray × Int × Int × Int)) × Int × Int × ByteArray × ByteArray × ByteArray × Int × Int × Int) =>
          let e2 := inB z5.2.1 z5.2.2.2.2.2.2.2.1.length
          let e3 := atI (ByteArray.mk #[], [], [], [], [], [], 0) z5.2.2.2.2.2.2.2.1 z5.2.1
          let e4 := e3.1
          let e5 := e3.2
          let e6 := e3.2.1
          let e7 := e3.2.2
          let e8 := e3.2.2.1
          let e9 := e3.2.2.2
          let e10 := e3.2.2.2.1
          let e11 := e3.2.2.2.2
          let e12 := e3.2.2.2.2.1
          let e13 := e3.2.2.2.2.2
          let e14 := e3.2.2.2.2.2.1
          let e15 := e3.2.2.2.2.2.2
          letJ (fun (x8 : Int × Bool × Int × Int × Int × Int × Int × (List (ByteArray × (List (ByteArray × Int × Int × Int × Int × Int × Int × Int × Int × Int × Int)) × (List (ByteArray × ByteArray × Int × Int × Int × Int)) × (List (ByteArray × (List ByteArray) × Int)) × (List (List (Bool × List ByteArray))) × (List (ByteArray × ByteArray × Int)) × Int)) × (List (ByteArray × ByteArray × ByteArray × Int × Int × Int)) × Int × Int × ByteArray × ByteArray × ByteArray × Int × Int × Int) =>
            bif x8.2.1 then
              some (.inr (.inl (72, x8.2.2.2.2.2.2.2.2.2.2.2.2.2.2.2.2)))
            else
            letJ (fun (x12 : Int × Bool × Int × Int × Int × Int × Int × (List (ByteArray × (List (ByteArray × Int × Int × Int × Int × Int × Int × Int × Int × Int × Int)) × (List (ByteArray × ByteArray × Int × Int × Int × Int)) × (List (ByteArray × (List ByteArray) × Int)) × (List (List (Bool × List ByteArray))) × (List (ByteArray × ByteArray × Int)) × Int)) × (List (ByteArray × ByteArray × ByteArray × Int × Int × Int)) × Int × Int × ByteArray × ByteArray × ByteArray × Int × Int × Int) =>
              bif x12.2.1 then
                some (.inr (.inl (70, x12.2.2.2.2.2.2.2.2.2.2.2.2.2.2.2.2)))
              else
              letJ (fun (x14 : Int × Bool × Int × Int × Int × Int × Int × (List (ByteArray × (List (ByteArray × Int × Int × Int × Int × Int × Int × Int × Int × Int × Int)) × (List (ByteArray × ByteArray × Int × Int × Int × Int)) × (List (ByteArray × (List ByteArray) × Int)) × (List (List (Bool × List ByteArray))) × (List (ByteArray × ByteArray × Int)) × Int)) × (List (ByteArray × ByteArray × ByteArray × Int × Int × Int)) × Int × Int × ByteArray × ByteArray × ByteArray × Int × Int × Int) =>
                bif x14.2.1 then
                  some (.inr (.inl (76, x14.2.2.2.2.2.2.2.2.2.2.2.2.2.2.2.2)))
                else
                some (.inl (wrap64 (x14.1 + 1), x14.2.2.1, x14.2.2.2.1, x14.2.2.2.2.1, x14.2.2.2.2.2.1, x14.2.2.2.2.2.2.1, x14.2.2.2.2.2.2.2.1, x14.2.2.2.2.2.2.2.2.1, x14.2.2.2.2.2.2.2.2.2.1, x14.2.2.2.2.2.2.2.2.2.2.1))) fun J15 =>
              bif x12.1 == 0 then
                bif !(x12.2.2.2.2.2.2.2.2.2.2.2.2.2.2.1 == 0) then
                  J15 (x12.1, true, x12.2.2)
                else
                J15 (x12.1, !(x12.2.2.2.2.2.2.2.2.2.2.2.2.2.2.2.1 == 0), x12.2.2)
              else
              J15 (x12.1, false, x12.2.2)) fun J13 =>
            (ref07_in n (x8.2.2.2.2.2.2.2.2.2.2.2.2.2.2.1, 0, 6000)).bind fun y10 =>
            bif !y10 then
              J13 (x8.1, true, x8.2.2)
            else
            (ref07_in n (x8.2.2.2.2.2.2.2.2.2.2.2.2.2.2.2.1, 0, 6000)).bind fun y11 =>
            J13 (x8.1, !y11, x8.2.2)) fun J9 =>
          bif e2 then
            (ref07_Head n (e4, e6, e8, e10, e12, e14, e15, z5.2.2.2.2.2.2.2.2.2.2.2.2.1)).bind fun y6 =>
            bif decide (y6 < 0) then
              J9 (z5.1, true, z5.2.2)
            else
            bif e2 then
              (ref07_Head n (e4, e6, e8, e10, e12, e14, e15, z5.2.2.2.2.2.2.2.2.2.2.2.2.2.1)).bind fun y7 =>
              J9 (z5.1, decide (y7 < 0), z5.2.2)
            else
            none
          else
          none))
      else
      none
    else
    some (.inr (.inr ()))) (0, x0)).bind (Sum.elim (fun (z16 : Int × Int) =>
    some z16) (fun (z17 : Unit) =>
    some (0, 0)))
def p_ref07_stops : Plan := .two (.leaf) (.two (.two (.leaf) (.one (.loop ⟨slotsOf 92 [(1, .c (.box 1 0)), (4, .c (.hole (.int .i64)))], [(1, 27, [.hole (.int .i64), .hole (.int .i64), .hole (.int .i64), .hole (.int .i64), .hole (.int .i64), .hole (.sl 39), .hole (.sl 53), .hole (.int .i64), .hole (.int .i64)])], []⟩ [(.ret, ⟨slotsOf 92 [(2, .c (.hole (.int .i64))), (3, .c (.hole (.int .i64)))], [], []⟩), (.exit 0, ⟨slotsOf 92 [], [], []⟩)] (.two (.leaf) (.two (.one (.two (.leaf) (.two (.leaf) (.two (.leaf) (.two (.two (.leaf) (.one (.loop ⟨slotsOf 92 [(1, .c (.box 1 0)), (4, .c (.hole (.int .i64))), (5, .c (.box 5 0)), (6, .c (.hole (.int .i64))), (7, .c (.hole (.int .i64)))], [(1, 27, [.hole (.int .i64), .hole (.int .i64), .hole (.int .i64), .hole (.int .i64), .hole (.int .i64), .hole (.sl 39), .hole (.sl 53), .hole (.int .i64), .hole (.int .i64)]), (5, 53, [.hole (.str), .hole (.str), .hole (.str), .hole (.int .i64), .hole (.int .i64), .hole (.int .i64)])], []⟩ [(.ret, ⟨slotsOf 92 [(2, .c (.hole (.int .i64))), (3, .c (.hole (.int .i64)))], [], []⟩), (.exit 2, ⟨slotsOf 92 [(1, .c (.box 1 0)), (4, .c (.hole (.int .i64))), (5, .c (.box 5 0)), (6, .c (.hole (.int .i64)))], [(1, 27, [.hole (.int .i64), .hole (.int .i64), .hole (.int .i64), .hole (.int .i64), .hole (.int .i64), .hole (.sl 39), .hole (.sl 53), .hole (.int .i64), .hole (.int .i64)]), (5, 53, [.hole (.str), .hole (.str), .hole (.str), .hole (.int .i64), .hole (.int .i64), .hole (.int .i64)])], []⟩)] (.leaf)))) (.two (.two (.join ⟨slotsOf 92 [(1, .c (.box 1 0)), (4, .c (.hole (.int .i64))), (5, .c (.box 5 0)), (63, .c (.hole (.bool)))], [(1, 27, [.hole (.int .i64), .hole (.int .i64), .hole (.int .i64), .hole (.int .i64), .hole (.int .i64), .hole (.sl 39), .hole (.sl 53), .hole (.int .i64), .hole (.int .i64)]), (5, 53, [.hole (.str), .hole (.str), .hole (.str), .hole (.int .i64), .hole (.int .i64), .hole (.int .i64)])], []⟩ (.leaf)) (.leaf)) (.two (.two (.join ⟨slotsOf 92 [(1, .c (.box 1 0)), (4, .c (.hole (.int .i64))), (5, .c (.box 5 0)), (75, .c (.hole (.bool)))], [(1, 27, [.hole (.int .i64), .hole (.int .i64), .hole (.int .i64), .hole (.int .i64), .hole (.int .i64), .hole (.sl 39), .hole (.sl 53), .hole (.int .i64), .hole (.int .i64)]), (5, 53, [.hole (.str), .hole (.str), .hole (.str), .hole (.int .i64), .hole (.int .i64), .hole (.int .i64)])], []⟩ (.leaf)) (.leaf)) (.two (.join ⟨slotsOf 92 [(1, .c (.box 1 0)), (4, .c (.hole (.int .i64))), (5, .c (.box 5 0)), (89, .c (.hole (.bool)))], [(1, 27, [.hole (.int .i64), .hole (.int .i64), .hole (.int .i64), .hole (.int .i64), .hole (.int .i64), .hole (.sl 39), .hole (.sl 53), .hole (.int .i64), .hole (.int .i64)]), (5, 53, [.hole (.str), .hole (.str), .hole (.str), .hole (.int .i64), .hole (.int .i64), .hole (.int .i64)])], []⟩ (.leaf)) (.leaf))))))))) (.leaf)))))) (.leaf))
noncomputable def c_ref07_stops (b n : Nat) : Cx := ⟨Go.Proofs.Try.prog, (Θ b), [23], [(28, ⟨h_ref07_in, o_ref07_in, ref07_in n⟩), (14, ⟨h_ref07_Node, o_ref07_Node, ref07_Node n⟩), (16, ⟨h_ref07_Head, o_ref07_Head, ref07_Head n⟩)], [], [], []⟩
theorem d_ref07_stops (b n : Nat) (x : h_ref07_stops.X T) : denF (c_ref07_stops b n) n Go.Proofs.Try.f30 p_ref07_stops h_ref07_stops o_ref07_stops x = ref07_stops n x := by kernel_rfl
theorem s_ref07_stops (b n : Nat) : PCalls Go.Proofs.Try.prog (Θ b) 30 ⟨h_ref07_stops, o_ref07_stops, ref07_stops n⟩ :=
  func_ok' (C := c_ref07_stops b n) (n := n) (p := p_ref07_stops) (ok_of mixed eqsOk ⟨s_ref07_in b n, s_ref07_Node b n, s_ref07_Head b n, trivial⟩ trivial trivial) Go.Proofs.Try.func30 (by kernel_rfl) (by kernel_rfl) (d_ref07_stops b n) (by kernel_rfl)
def h_ref07_Check : Shape := ⟨slotsOf 1 [(0, .agg [.hole (.int .i64), .hole (.int .i64), .hole (.int .i64), .hole (.int .i64), .hole (.int .i64), .hole (.sl 39), .hole (.sl 53), .hole (.int .i64), .hole (.int .i64)])], [], []⟩
def o_ref07_Check : List (Ex × Shape) := [(.ret, ⟨slotsOf 2 [(0, .c (.hole (.int .i64))), (1, .c (.hole (.int .i64)))], [], []⟩)]
def ref07_Check (n : Nat) (x0 : Int × Int × Int × Int × Int × (List (ByteArray × (List (ByteArray × Int × Int × Int × Int × Int × Int × Int × Int × Int × Int)) × (List (ByteArray × ByteArray × Int × Int × Int × Int)) × (List (ByteArray × (List ByteArray) × Int)) × (List (List (Bool × List ByteArray))) × (List (ByteArray × ByteArray × Int)) × Int)) × (List (ByteArray × ByteArray × ByteArray × Int × Int × Int)) × Int × Int) : Option (Int × Int) :=
  letJ (fun (x1 : Bool × Int × Int × Int × Int × Int × (List (ByteArray × (List (ByteArray × Int × Int × Int × Int × Int × Int × Int × Int × Int × Int)) × (List (ByteArray × ByteArray × Int × Int × Int × Int)) × (List (ByteArray × (List ByteArray) × Int)) × (List (List (Bool × List ByteArray))) × (List (ByteArray × ByteArray × Int)) × Int)) × (List (ByteArray × ByteArray × ByteArray × Int × Int × Int)) × Int × Int) =>
    bif x1.1 then
      some (4, 0)
    else
    letJ (fun (x7 : Bool × Int × Int × Int × Int × Int × (List (ByteArray × (List (ByteArray × Int × Int × Int × Int × Int × Int × Int × Int × Int × Int)) × (List (ByteArray × ByteArray × Int × Int × Int × Int)) × (List (ByteArray × (List ByteArray) × Int)) × (List (List (Bool × List ByteArray))) × (List (ByteArray × ByteArray × Int)) × Int)) × (List (ByteArray × ByteArray × ByteArray × Int × Int × Int)) × Int × Int) =>
      bif x7.1 then
        some (70, 0)
      else
      bif ((x7.2.2.2.2.2.2.1.length : Nat) : Int) == 0 then
        some (73, 0)
      else
      (iterL (Y := (Int × Int) ⊕ (Int × Int × Int × Int × Int × (List (ByteArray × (List (ByteArray × Int × Int × Int × Int × Int × Int × Int × Int × Int × Int)) × (List (ByteArray × ByteArray × Int × Int × Int × Int)) × (List (ByteArray × (List ByteArray) × Int)) × (List (List (Bool × List ByteArray))) × (List (ByteArray × ByteArray × Int)) × Int)) × (List (ByteArray × ByteArray × ByteArray × Int × Int × Int)) × Int × Int)) n (fun (x9 : Int × Int × Int × Int × Int × Int × (List (ByteArray × (List (ByteArray × Int × Int × Int × Int × Int × Int × Int × Int × Int × Int)) × (List (ByteArray × ByteArray × Int × Int × Int × Int)) × (List (ByteArray × (List ByteArray) × Int)) × (List (List (Bool × List ByteArray))) × (List (ByteArray × ByteArray × Int)) × Int)) × (List (ByteArray × ByteArray × ByteArray × Int × Int × Int)) × Int × Int) =>
        let e0 := x9.2.2.2.2.2.2.1.length
        let e1 := inB x9.1 e0
        let e2 := atI (ByteArray.mk #[], [], [], [], [], [], 0) x9.2.2.2.2.2.2.1 x9.1
        bif decide (x9.1 < ((e0 : Nat) : Int)) then
          bif e1 then
            (ref07_Node n (x9.2.1, x9.2.2.1, x9.2.2.2.1, x9.2.2.2.2.1, x9.2.2.2.2.2.1, x9.2.2.2.2.2.2.1, x9.2.2.2.2.2.2.2.1, x9.2.2.2.2.2.2.2.2.1, x9.2.2.2.2.2.2.2.2.2, e2.1)).bind fun y10 =>
            bif decide (y10 < x9.1) then
              bif e1 then
                some (.inr (.inl (71, e2.2.2.2.2.2.2)))
              else
              none
            else
              bif e1 then
                (ref07_node n e2).bind fun y11 =>
                bif !(y11.1 == 0) then
                  some (.inr (.inl y11))
                else
                some (.inl (wrap64 (x9.1 + 1), x9.2))
              else
              none
          else
          none
        else
        some (.inr (.inr x9.2))) (0, x7.2)).bind (Sum.elim (fun (z12 : Int × Int) =>
        some z12) (fun (z13 : Int × Int × Int × Int × Int × (List (ByteArray × (List (ByteArray × Int × Int × Int × Int × Int × Int × Int × Int × Int × Int)) × (List (ByteArray × ByteArray × Int × Int × Int × Int)) × (List (ByteArray × (List ByteArray) × Int)) × (List (List (Bool × List ByteArray))) × (List (ByteArray × ByteArray × Int)) × Int)) × (List (ByteArray × ByteArray × ByteArray × Int × Int × Int)) × Int × Int) =>
        (ref07_stops n z13).bind fun y14 =>
        some y14))) fun J8 =>
    bif decide (x1.2.1 < 1) then
      J8 (true, x1.2)
    else
    bif decide (x1.2.2.1 < x1.2.1) then
      J8 (true, x1.2)
    else
    bif decide (6000 < x1.2.2.1) then
      J8 (true, x1.2)
    else
    bif decide (x1.2.2.2.1 < 1) then
      J8 (true, x1.2)
    else
    (ref07_in n (x1.2.2.2.2.1, 1, 1000000000)).bind fun y3 =>
    bif !y3 then
      J8 (true, x1.2)
    else
    (ref07_in n (x1.2.2.2.2.2.1, 1, 1000000000)).bind fun y4 =>
    bif !y4 then
      J8 (true, x1.2)
    else
    (ref07_in n (x1.2.2.2.2.2.2.2.2.1, 0, 1000000000)).bind fun y5 =>
    bif !y5 then
      J8 (true, x1.2)
    else
    (ref07_in n (x1.2.2.2.2.2.2.2.2.2, 0, 1000000000)).bind fun y6 =>
    J8 (!y6, x1.2)) fun J2 =>
  bif decide (12 < ((x0.2.2.2.2.2.1.length : Nat) : Int)) then
    J2 (true, x0)
  else
  J2 (decide (12 < ((x0.2.2.2.2.2.2.1.length : Nat) : Int)), x0)
def p_ref07_Check : Plan := .two (.leaf) (.two (.two (.join ⟨slotsOf 107 [(1, .c (.box 1 0)), (16, .c (.hole (.bool)))], [(1, 27, [.hole (.int .i64), .hole (.int .i64), .hole (.int .i64), .hole (.int .i64), .hole (.int .i64), .hole (.sl 39), .hole (.sl 53), .hole (.int .i64), .hole (.int .i64)])], []⟩ (.leaf)) (.leaf)) (.two (.two (.join ⟨slotsOf 107 [(1, .c (.box 1 0)), (62, .c (.hole (.bool)))], [(1, 27, [.hole (.int .i64), .hole (.int .i64), .hole (.int .i64), .hole (.int .i64), .hole (.int .i64), .hole (.sl 39), .hole (.sl 53), .hole (.int .i64), .hole (.int .i64)])], []⟩ (.leaf)) (.leaf)) (.two (.leaf) (.two (.two (.leaf) (.one (.loop ⟨slotsOf 107 [(1, .c (.box 1 0)), (4, .c (.hole (.int .i64)))], [(1, 27, [.hole (.int .i64), .hole (.int .i64), .hole (.int .i64), .hole (.int .i64), .hole (.int .i64), .hole (.sl 39), .hole (.sl 53), .hole (.int .i64), .hole (.int .i64)])], []⟩ [(.ret, ⟨slotsOf 107 [(2, .c (.hole (.int .i64))), (3, .c (.hole (.int .i64)))], [], []⟩), (.exit 0, ⟨slotsOf 107 [(1, .c (.box 1 0))], [(1, 27, [.hole (.int .i64), .hole (.int .i64), .hole (.int .i64), .hole (.int .i64), .hole (.int .i64), .hole (.sl 39), .hole (.sl 53), .hole (.int .i64), .hole (.int .i64)])], []⟩)] (.leaf)))) (.leaf)))))
noncomputable def c_ref07_Check (b n : Nat) : Cx := ⟨Go.Proofs.Try.prog, (Θ b), [23], [(28, ⟨h_ref07_in, o_ref07_in, ref07_in n⟩), (14, ⟨h_ref07_Node, o_ref07_Node, ref07_Node n⟩), (29, ⟨h_ref07_node, o_ref07_node, ref07_node n⟩), (30, ⟨h_ref07_stops, o_ref07_stops, ref07_stops n⟩)], [], [], []⟩
theorem d_ref07_Check (b n : Nat) (x : h_ref07_Check.X T) : denF (c_ref07_Check b n) n Go.Proofs.Try.f9 p_ref07_Check h_ref07_Check o_ref07_Check x = ref07_Check n x := by kernel_rfl
theorem s_ref07_Check (b n : Nat) : PCalls Go.Proofs.Try.prog (Θ b) 9 ⟨h_ref07_Check, o_ref07_Check, ref07_Check n⟩ :=
  func_ok' (C := c_ref07_Check b n) (n := n) (p := p_ref07_Check) (ok_of mixed eqsOk ⟨s_ref07_in b n, s_ref07_Node b n, s_ref07_node b n, s_ref07_stops b n, trivial⟩ trivial trivial) Go.Proofs.Try.func9 (by kernel_rfl) (by kernel_rfl) (d_ref07_Check b n) (by kernel_rfl)
def h_law07_awake : Shape := ⟨slotsOf 0 [], [], []⟩
def o_law07_awake : List (Ex × Shape) := [(.ret, ⟨slotsOf 1 [(0, .c (.hole (.bool)))], [], []⟩)]
def law07_awake (n : Nat) (x : Unit) : Option Bool := match n with
  | 0 => some true
  | _ + 1 => some true
theorem law07_awake_eq (n : Nat) (x : Unit) : law07_awake n x = some true := by cases n <;> rfl
theorem s_law07_awake (b n : Nat) : PCalls Go.Proofs.Try.prog (Θ b) 10 ⟨h_law07_awake, o_law07_awake, law07_awake n⟩ := awake_calls b (law07_awake n) fun x z h => (Option.some.inj ((law07_awake_eq n x).symm.trans h)).symm
def h_law07_ValidCheck : Shape := ⟨slotsOf 1 [(0, .agg [.hole (.int .i64), .hole (.int .i64), .hole (.int .i64), .hole (.int .i64), .hole (.int .i64), .hole (.sl 39), .hole (.sl 53), .hole (.int .i64), .hole (.int .i64)])], [], []⟩
def o_law07_ValidCheck : List (Ex × Shape) := [(.ret, ⟨slotsOf 1 [(0, .c (.hole (.bool)))], [], []⟩)]
def law07_ValidCheck (n : Nat) (x0 : Int × Int × Int × Int × Int × (List (ByteArray × (List (ByteArray × Int × Int × Int × Int × Int × Int × Int × Int × Int × Int)) × (List (ByteArray × ByteArray × Int × Int × Int × Int)) × (List (ByteArray × (List ByteArray) × Int)) × (List (List (Bool × List ByteArray))) × (List (ByteArray × ByteArray × Int)) × Int)) × (List (ByteArray × ByteArray × ByteArray × Int × Int × Int)) × Int × Int) : Option (Bool) :=
  (law06_Few n x0).bind fun y1 =>
  bif !y1 then
    some true
  else
  (valid_Check n x0).bind fun y2 =>
  (ref07_Check n x0).bind fun y3 =>
  bif y2.1 == y3.1 then
    bif y2.2 == y3.2 then
      (law07_awake n ()).bind fun y4 =>
      some y4
    else
    some false
  else
  some false
def p_law07_ValidCheck : Plan := .leaf
noncomputable def c_law07_ValidCheck (b n : Nat) : Cx := ⟨Go.Proofs.Try.prog, (Θ b), [23], [(8, ⟨h_valid_Check, o_valid_Check, valid_Check n⟩), (10, ⟨h_law07_awake, o_law07_awake, law07_awake n⟩), (7, ⟨h_law06_Few, o_law06_Few, law06_Few n⟩), (9, ⟨h_ref07_Check, o_ref07_Check, ref07_Check n⟩)], [], [], []⟩
theorem d_law07_ValidCheck (b n : Nat) (x : h_law07_ValidCheck.X T) : denF (c_law07_ValidCheck b n) n Go.Proofs.Try.f3 p_law07_ValidCheck h_law07_ValidCheck o_law07_ValidCheck x = law07_ValidCheck n x := by kernel_rfl
theorem s_law07_ValidCheck (b n : Nat) : PCalls Go.Proofs.Try.prog (Θ b) 3 ⟨h_law07_ValidCheck, o_law07_ValidCheck, law07_ValidCheck n⟩ :=
  func_ok' (C := c_law07_ValidCheck b n) (n := n) (p := p_law07_ValidCheck) (ok_of mixed eqsOk ⟨s_valid_Check b n, s_law07_awake b n, s_law06_Few b n, s_ref07_Check b n, trivial⟩ trivial trivial) Go.Proofs.Try.func3 (by kernel_rfl) (by kernel_rfl) (d_law07_ValidCheck b n) (by kernel_rfl)
end Go.Proofs.Ytbcejiobmeglgaa.Fn
