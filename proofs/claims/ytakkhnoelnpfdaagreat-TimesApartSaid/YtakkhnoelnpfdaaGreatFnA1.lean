/- Functions of the program, each as a plain function, and that the machine does what it says. -/
import Derived.Test.YtakkhnoelnpfdaaGreatFnA0
namespace Go.Proofs.YtakkhnoelnpfdaaGreat.Fn
set_option linter.unusedVariables false
set_option maxRecDepth 100000
open Go Go.RowKit Go.Den
/-- carrefour/carrefourref07.stops -/
def h_ref07_stops : Shape := ⟨slotsOf 1 [(0, .agg [.hole (.int .i64), .hole (.int .i64), .hole (.int .i64), .hole (.int .i64), .hole (.int .i64), .hole (.sl 28), .hole (.sl 121), .hole (.int .i64), .hole (.int .i64)])], [], []⟩
def o_ref07_stops : List (Ex × Shape) := [(.ret, ⟨slotsOf 2 [(0, .c (.hole (.int .i64))), (1, .c (.hole (.int .i64)))], [], []⟩)]
def ref07_stops (n : Nat) (x0 : Int × Int × Int × Int × Int × (List (ByteArray × (List (ByteArray × Int × Int × Int × Int × Int × Int × Int × Int × Int × Int)) × (List (ByteArray × ByteArray × Int × Int × Int × Int)) × (List (ByteArray × (List ByteArray) × Int)) × (List (List (Bool × List ByteArray))) × (List (ByteArray × ByteArray × Int)) × Int)) × (List (ByteArray × ByteArray × ByteArray × Int × Int × Int)) × Int × Int) : Option (Int × Int) :=
  (iterL (Y := (Int × Int) ⊕ (Unit)) n (fun (x1 : Int × Int × Int × Int × Int × Int × (List (ByteArray × (List (ByteArray × Int × Int × Int × Int × Int × Int × Int × Int × Int × Int)) × (List (ByteArray × ByteArray × Int × Int × Int × Int)) × (List (ByteArray × (List ByteArray) × Int)) × (List (List (Bool × List ByteArray))) × (List (ByteArray × ByteArray × Int)) × Int)) × (List (ByteArray × ByteArray × ByteArray × Int × Int × Int)) × Int × Int) =>
    let e0 := x1.2.2.2.2.2.2.2.1.length
    let e1 := atI (ByteArray.mk #[], ByteArray.mk #[], ByteArray.mk #[], 0, 0, 0) x1.2.2.2.2.2.2.2.1 x1.1
    bif decide (x1.1 < ((e0 : Nat) : Int)) then
      bif inB x1.1 e0 then
        (ref07_Node n (x1.2.1, x1.2.2.1, x1.2.2.2.1, x1.2.2.2.2.1, x1.2.2.2.2.2.1, x1.2.2.2.2.2.2.1, x1.2.2.2.2.2.2.2.1, x1.2.2.2.2.2.2.2.2.1, x1.2.2.2.2.2.2.2.2.2, e1.1)).bind fun y2 =>
        bif decide (y2 < 0) then
          some (.inr (.inl (72, e1.2.2.2.2.2)))
        else
        (iterL (Y := (Int × Int) ⊕ (Int × Int × Int × Int × Int × Int × Int × (List (ByteArray × (List (ByteArray × Int × Int × Int × Int × Int × Int × Int × Int × Int × Int)) × (List (ByteArray × ByteArray × Int × Int × Int × Int)) × (List (ByteArray × (List ByteArray) × Int)) × (List (List (Bool × List ByteArray))) × (List (ByteArray × ByteArray × Int)) × Int)) × (List (ByteArray × ByteArray × ByteArray × Int × Int × Int)) × Int × Int × ByteArray × ByteArray × ByteArray × Int × Int × Int)) n (fun (x3 : Int × Int × Int × Int × Int × Int × Int × Int × (List (ByteArray × (List (ByteArray × Int × Int × Int × Int × Int × Int × Int × Int × Int × Int)) × (List (ByteArray × ByteArray × Int × Int × Int × Int)) × (List (ByteArray × (List ByteArray) × Int)) × (List (List (Bool × List ByteArray))) × (List (ByteArray × ByteArray × Int)) × Int)) × (List (ByteArray × ByteArray × ByteArray × Int × Int × Int)) × Int × Int × ByteArray × ByteArray × ByteArray × Int × Int × Int) =>
          bif decide (x3.2.2.1 < x3.1) then
            bif inB x3.2.2.1 x3.2.2.2.2.2.2.2.2.2.1.length then
              bif strEq (atI (ByteArray.mk #[], ByteArray.mk #[], ByteArray.mk #[], 0, 0, 0) x3.2.2.2.2.2.2.2.2.2.1 x3.2.2.1).1 x3.2.2.2.2.2.2.2.2.2.2.2.2.1 then
                some (.inr (.inl (71, x3.2.2.2.2.2.2.2.2.2.2.2.2.2.2.2.2.2)))
              else
              some (.inl (x3.1, x3.2.1, wrap64 (x3.2.2.1 + 1), x3.2.2.2))
            else
            none
          else
          some (.inr (.inr (x3.1, x3.2.1, x3.2.2.2)))) (x1.1, y2, 0, x1.2.1, x1.2.2.1, x1.2.2.2.1, x1.2.2.2.2.1, x1.2.2.2.2.2.1, x1.2.2.2.2.2.2.1, x1.2.2.2.2.2.2.2.1, x1.2.2.2.2.2.2.2.2.1, x1.2.2.2.2.2.2.2.2.2, e1)).bind (Sum.elim (fun (z4 : Int × Int) =>
          some (.inr (.inl z4))) (fun (z5 : Int × Int × Int × Int × Int × Int × Int × (List (ByteArray × (List (ByteArray × Int × Int × Int × Int × Int × Int × Int × Int × Int × Int)) × (List (ByteArray × ByteArray × Int × Int × Int × Int)) × (List (ByteArray × (List ByteArray) × Int)) × (List (List (Bool × List ByteArray))) × (List (ByteArray × ByteArray × Int)) × Int)) × (List (ByteArray × ByteArray × ByteArray × Int × Int × Int)) × Int × Int × ByteArray × ByteArray × ByteArray × Int × Int × Int) =>
          let e2 := inB z5.2.1 z5.2.2.2.2.2.2.2.1.length
          let e3 := atI (ByteArray.mk #[], [], [], [], [], [], 0) z5.2.2.2.2.2.2.2.1 z5.2.1
          let e4 := e3.1
          let e5 := e3.2
          let e6 := e3.2.1
          let e7 := e3.2.2
          let e8 := e3.2.2.1
          let e9 := e3.2.2.2
          let e10 := e3.2.2.2.1
          let e11 := e3.2.2.2.2
          let e12 := e3.2.2.2.2.1
          let e13 := e3.2.2.2.2.2
          let e14 := e3.2.2.2.2.2.1
          let e15 := e3.2.2.2.2.2.2
          letJ (fun (x8 : Int × Bool × Int × Int × Int × Int × Int × (List (ByteArray × (List (ByteArray × Int × Int × Int × Int × Int × Int × Int × Int × Int × Int)) × (List (ByteArray × ByteArray × Int × Int × Int × Int)) × (List (ByteArray × (List ByteArray) × Int)) × (List (List (Bool × List ByteArray))) × (List (ByteArray × ByteArray × Int)) × Int)) × (List (ByteArray × ByteArray × ByteArray × Int × Int × Int)) × Int × Int × ByteArray × ByteArray × ByteArray × Int × Int × Int) =>
            bif x8.2.1 then
              some (.inr (.inl (72, x8.2.2.2.2.2.2.2.2.2.2.2.2.2.2.2.2)))
            else
            letJ (fun (x12 : Int × Bool × Int × Int × Int × Int × Int × (List (ByteArray × (List (ByteArray × Int × Int × Int × Int × Int × Int × Int × Int × Int × Int)) × (List (ByteArray × ByteArray × Int × Int × Int × Int)) × (List (ByteArray × (List ByteArray) × Int)) × (List (List (Bool × List ByteArray))) × (List (ByteArray × ByteArray × Int)) × Int)) × (List (ByteArray × ByteArray × ByteArray × Int × Int × Int)) × Int × Int × ByteArray × ByteArray × ByteArray × Int × Int × Int) =>
              bif x12.2.1 then
                some (.inr (.inl (70, x12.2.2.2.2.2.2.2.2.2.2.2.2.2.2.2.2)))
              else
              letJ (fun (x14 : Int × Bool × Int × Int × Int × Int × Int × (List (ByteArray × (List (ByteArray × Int × Int × Int × Int × Int × Int × Int × Int × Int × Int)) × (List (ByteArray × ByteArray × Int × Int × Int × Int)) × (List (ByteArray × (List ByteArray) × Int)) × (List (List (Bool × List ByteArray))) × (List (ByteArray × ByteArray × Int)) × Int)) × (List (ByteArray × ByteArray × ByteArray × Int × Int × Int)) × Int × Int × ByteArray × ByteArray × ByteArray × Int × Int × Int) =>
                bif x14.2.1 then
                  some (.inr (.inl (76, x14.2.2.2.2.2.2.2.2.2.2.2.2.2.2.2.2)))
                else
                some (.inl (wrap64 (x14.1 + 1), x14.2.2.1, x14.2.2.2.1, x14.2.2.2.2.1, x14.2.2.2.2.2.1, x14.2.2.2.2.2.2.1, x14.2.2.2.2.2.2.2.1, x14.2.2.2.2.2.2.2.2.1, x14.2.2.2.2.2.2.2.2.2.1, x14.2.2.2.2.2.2.2.2.2.2.1))) fun J15 =>
              bif x12.1 == 0 then
                bif !(x12.2.2.2.2.2.2.2.2.2.2.2.2.2.2.1 == 0) then
                  J15 (x12.1, true, x12.2.2)
                else
                J15 (x12.1, !(x12.2.2.2.2.2.2.2.2.2.2.2.2.2.2.2.1 == 0), x12.2.2)
              else
              J15 (x12.1, false, x12.2.2)) fun J13 =>
            (ref07_in n (x8.2.2.2.2.2.2.2.2.2.2.2.2.2.2.1, 0, 6000)).bind fun y10 =>
            bif !y10 then
              J13 (x8.1, true, x8.2.2)
            else
            (ref07_in n (x8.2.2.2.2.2.2.2.2.2.2.2.2.2.2.2.1, 0, 6000)).bind fun y11 =>
            J13 (x8.1, !y11, x8.2.2)) fun J9 =>
          bif e2 then
            (ref07_Head n (e4, e6, e8, e10, e12, e14, e15, z5.2.2.2.2.2.2.2.2.2.2.2.2.1)).bind fun y6 =>
            bif decide (y6 < 0) then
              J9 (z5.1, true, z5.2.2)
            else
            bif e2 then
              (ref07_Head n (e4, e6, e8, e10, e12, e14, e15, z5.2.2.2.2.2.2.2.2.2.2.2.2.2.1)).bind fun y7 =>
              J9 (z5.1, decide (y7 < 0), z5.2.2)
            else
            none
          else
          none))
      else
      none
    else
    some (.inr (.inr ()))) (0, x0)).bind (Sum.elim (fun (z16 : Int × Int) =>
    some z16) (fun (z17 : Unit) =>
    some (0, 0)))
def p_ref07_stops : Plan := .two (.leaf) (.two (.two (.leaf) (.one (.loop ⟨slotsOf 92 [(1, .c (.box 1 0)), (4, .c (.hole (.int .i64)))], [(1, 42, [.hole (.int .i64), .hole (.int .i64), .hole (.int .i64), .hole (.int .i64), .hole (.int .i64), .hole (.sl 28), .hole (.sl 121), .hole (.int .i64), .hole (.int .i64)])], []⟩ [(.ret, ⟨slotsOf 92 [(2, .c (.hole (.int .i64))), (3, .c (.hole (.int .i64)))], [], []⟩), (.exit 0, ⟨slotsOf 92 [], [], []⟩)] (.two (.leaf) (.two (.one (.two (.leaf) (.two (.leaf) (.two (.leaf) (.two (.two (.leaf) (.one (.loop ⟨slotsOf 92 [(1, .c (.box 1 0)), (4, .c (.hole (.int .i64))), (5, .c (.box 5 0)), (6, .c (.hole (.int .i64))), (7, .c (.hole (.int .i64)))], [(1, 42, [.hole (.int .i64), .hole (.int .i64), .hole (.int .i64), .hole (.int .i64), .hole (.int .i64), .hole (.sl 28), .hole (.sl 121), .hole (.int .i64), .hole (.int .i64)]), (5, 121, [.hole (.str), .hole (.str), .hole (.str), .hole (.int .i64), .hole (.int .i64), .hole (.int .i64)])], []⟩ [(.ret, ⟨slotsOf 92 [(2, .c (.hole (.int .i64))), (3, .c (.hole (.int .i64)))], [], []⟩), (.exit 2, ⟨slotsOf 92 [(1, .c (.box 1 0)), (4, .c (.hole (.int .i64))), (5, .c (.box 5 0)), (6, .c (.hole (.int .i64)))], [(1, 42, [.hole (.int .i64), .hole (.int .i64), .hole (.int .i64), .hole (.int .i64), .hole (.int .i64), .hole (.sl 28), .hole (.sl 121), .hole (.int .i64), .hole (.int .i64)]), (5, 121, [.hole (.str), .hole (.str), .hole (.str), .hole (.int .i64), .hole (.int .i64), .hole (.int .i64)])], []⟩)] (.leaf)))) (.two (.two (.join ⟨slotsOf 92 [(1, .c (.box 1 0)), (4, .c (.hole (.int .i64))), (5, .c (.box 5 0)), (63, .c (.hole (.bool)))], [(1, 42, [.hole (.int .i64), .hole (.int .i64), .hole (.int .i64), .hole (.int .i64), .hole (.int .i64), .hole (.sl 28), .hole (.sl 121), .hole (.int .i64), .hole (.int .i64)]), (5, 121, [.hole (.str), .hole (.str), .hole (.str), .hole (.int .i64), .hole (.int .i64), .hole (.int .i64)])], []⟩ (.leaf)) (.leaf)) (.two (.two (.join ⟨slotsOf 92 [(1, .c (.box 1 0)), (4, .c (.hole (.int .i64))), (5, .c (.box 5 0)), (75, .c (.hole (.bool)))], [(1, 42, [.hole (.int .i64), .hole (.int .i64), .hole (.int .i64), .hole (.int .i64), .hole (.int .i64), .hole (.sl 28), .hole (.sl 121), .hole (.int .i64), .hole (.int .i64)]), (5, 121, [.hole (.str), .hole (.str), .hole (.str), .hole (.int .i64), .hole (.int .i64), .hole (.int .i64)])], []⟩ (.leaf)) (.leaf)) (.two (.join ⟨slotsOf 92 [(1, .c (.box 1 0)), (4, .c (.hole (.int .i64))), (5, .c (.box 5 0)), (89, .c (.hole (.bool)))], [(1, 42, [.hole (.int .i64), .hole (.int .i64), .hole (.int .i64), .hole (.int .i64), .hole (.int .i64), .hole (.sl 28), .hole (.sl 121), .hole (.int .i64), .hole (.int .i64)]), (5, 121, [.hole (.str), .hole (.str), .hole (.str), .hole (.int .i64), .hole (.int .i64), .hole (.int .i64)])], []⟩ (.leaf)) (.leaf))))))))) (.leaf)))))) (.leaf))
noncomputable def c_ref07_stops (n : Nat) : Cx := ⟨Go.Proofs.Tryz.prog, Θ, [191, 57], [(28, ⟨h_ref07_in, o_ref07_in, ref07_in n⟩), (29, ⟨h_ref07_Node, o_ref07_Node, ref07_Node n⟩), (66, ⟨h_ref07_Head, o_ref07_Head, ref07_Head n⟩)], [], []⟩
theorem d_ref07_stops (n : Nat) (x : h_ref07_stops.X T) : denF (c_ref07_stops n) n Go.Proofs.Tryz.f31 p_ref07_stops h_ref07_stops o_ref07_stops x = ref07_stops n x := by kernel_rfl
theorem s_ref07_stops (n : Nat) : PCalls Go.Proofs.Tryz.prog Θ 31 ⟨h_ref07_stops, o_ref07_stops, ref07_stops n⟩ :=
  func_ok' (C := c_ref07_stops n) (n := n) (p := p_ref07_stops) (ok_of mixed eqsOk ⟨s_ref07_in n, s_ref07_Node n, s_ref07_Head n, trivial⟩ trivial trivial) Go.Proofs.Tryz.func31 (by kernel_rfl) (by kernel_rfl) (d_ref07_stops n) (by kernel_rfl)

/-- carrefour/carrefourref07.Check -/
def h_ref07_Check : Shape := ⟨slotsOf 1 [(0, .agg [.hole (.int .i64), .hole (.int .i64), .hole (.int .i64), .hole (.int .i64), .hole (.int .i64), .hole (.sl 28), .hole (.sl 121), .hole (.int .i64), .hole (.int .i64)])], [], []⟩
def o_ref07_Check : List (Ex × Shape) := [(.ret, ⟨slotsOf 2 [(0, .c (.hole (.int .i64))), (1, .c (.hole (.int .i64)))], [], []⟩)]
def ref07_Check (n : Nat) (x0 : Int × Int × Int × Int × Int × (List (ByteArray × (List (ByteArray × Int × Int × Int × Int × Int × Int × Int × Int × Int × Int)) × (List (ByteArray × ByteArray × Int × Int × Int × Int)) × (List (ByteArray × (List ByteArray) × Int)) × (List (List (Bool × List ByteArray))) × (List (ByteArray × ByteArray × Int)) × Int)) × (List (ByteArray × ByteArray × ByteArray × Int × Int × Int)) × Int × Int) : Option (Int × Int) :=
  letJ (fun (x1 : Bool × Int × Int × Int × Int × Int × (List (ByteArray × (List (ByteArray × Int × Int × Int × Int × Int × Int × Int × Int × Int × Int)) × (List (ByteArray × ByteArray × Int × Int × Int × Int)) × (List (ByteArray × (List ByteArray) × Int)) × (List (List (Bool × List ByteArray))) × (List (ByteArray × ByteArray × Int)) × Int)) × (List (ByteArray × ByteArray × ByteArray × Int × Int × Int)) × Int × Int) =>
    bif x1.1 then
      some (4, 0)
    else
    letJ (fun (x7 : Bool × Int × Int × Int × Int × Int × (List (ByteArray × (List (ByteArray × Int × Int × Int × Int × Int × Int × Int × Int × Int × Int)) × (List (ByteArray × ByteArray × Int × Int × Int × Int)) × (List (ByteArray × (List ByteArray) × Int)) × (List (List (Bool × List ByteArray))) × (List (ByteArray × ByteArray × Int)) × Int)) × (List (ByteArray × ByteArray × ByteArray × Int × Int × Int)) × Int × Int) =>
      bif x7.1 then
        some (70, 0)
      else
      bif ((x7.2.2.2.2.2.2.1.length : Nat) : Int) == 0 then
        some (73, 0)
      else
      (iterL (Y := (Int × Int) ⊕ (Int × Int × Int × Int × Int × (List (ByteArray × (List (ByteArray × Int × Int × Int × Int × Int × Int × Int × Int × Int × Int)) × (List (ByteArray × ByteArray × Int × Int × Int × Int)) × (List (ByteArray × (List ByteArray) × Int)) × (List (List (Bool × List ByteArray))) × (List (ByteArray × ByteArray × Int)) × Int)) × (List (ByteArray × ByteArray × ByteArray × Int × Int × Int)) × Int × Int)) n (fun (x9 : Int × Int × Int × Int × Int × Int × (List (ByteArray × (List (ByteArray × Int × Int × Int × Int × Int × Int × Int × Int × Int × Int)) × (List (ByteArray × ByteArray × Int × Int × Int × Int)) × (List (ByteArray × (List ByteArray) × Int)) × (List (List (Bool × List ByteArray))) × (List (ByteArray × ByteArray × Int)) × Int)) × (List (ByteArray × ByteArray × ByteArray × Int × Int × Int)) × Int × Int) =>
        let e0 := x9.2.2.2.2.2.2.1.length
        let e1 := inB x9.1 e0
        let e2 := atI (ByteArray.mk #[], [], [], [], [], [], 0) x9.2.2.2.2.2.2.1 x9.1
        bif decide (x9.1 < ((e0 : Nat) : Int)) then
          bif e1 then
            (ref07_Node n (x9.2.1, x9.2.2.1, x9.2.2.2.1, x9.2.2.2.2.1, x9.2.2.2.2.2.1, x9.2.2.2.2.2.2.1, x9.2.2.2.2.2.2.2.1, x9.2.2.2.2.2.2.2.2.1, x9.2.2.2.2.2.2.2.2.2, e2.1)).bind fun y10 =>
            bif decide (y10 < x9.1) then
              bif e1 then
                some (.inr (.inl (71, e2.2.2.2.2.2.2)))
              else
              none
            else
              bif e1 then
                (ref07_node n e2).bind fun y11 =>
                bif !(y11.1 == 0) then
                  some (.inr (.inl y11))
                else
                some (.inl (wrap64 (x9.1 + 1), x9.2))
              else
              none
          else
          none
        else
        some (.inr (.inr x9.2))) (0, x7.2)).bind (Sum.elim (fun (z12 : Int × Int) =>
        some z12) (fun (z13 : Int × Int × Int × Int × Int × (List (ByteArray × (List (ByteArray × Int × Int × Int × Int × Int × Int × Int × Int × Int × Int)) × (List (ByteArray × ByteArray × Int × Int × Int × Int)) × (List (ByteArray × (List ByteArray) × Int)) × (List (List (Bool × List ByteArray))) × (List (ByteArray × ByteArray × Int)) × Int)) × (List (ByteArray × ByteArray × ByteArray × Int × Int × Int)) × Int × Int) =>
        (ref07_stops n z13).bind fun y14 =>
        some y14))) fun J8 =>
    bif decide (x1.2.1 < 1) then
      J8 (true, x1.2)
    else
    bif decide (x1.2.2.1 < x1.2.1) then
      J8 (true, x1.2)
    else
    bif decide (6000 < x1.2.2.1) then
      J8 (true, x1.2)
    else
    bif decide (x1.2.2.2.1 < 1) then
      J8 (true, x1.2)
    else
    (ref07_in n (x1.2.2.2.2.1, 1, 1000000000)).bind fun y3 =>
    bif !y3 then
      J8 (true, x1.2)
    else
    (ref07_in n (x1.2.2.2.2.2.1, 1, 1000000000)).bind fun y4 =>
    bif !y4 then
      J8 (true, x1.2)
    else
    (ref07_in n (x1.2.2.2.2.2.2.2.2.1, 0, 1000000000)).bind fun y5 =>
    bif !y5 then
      J8 (true, x1.2)
    else
    (ref07_in n (x1.2.2.2.2.2.2.2.2.2, 0, 1000000000)).bind fun y6 =>
    J8 (!y6, x1.2)) fun J2 =>
  bif decide (12 < ((x0.2.2.2.2.2.1.length : Nat) : Int)) then
    J2 (true, x0)
  else
  J2 (decide (12 < ((x0.2.2.2.2.2.2.1.length : Nat) : Int)), x0)
def p_ref07_Check : Plan := .two (.leaf) (.two (.two (.join ⟨slotsOf 107 [(1, .c (.box 1 0)), (16, .c (.hole (.bool)))], [(1, 42, [.hole (.int .i64), .hole (.int .i64), .hole (.int .i64), .hole (.int .i64), .hole (.int .i64), .hole (.sl 28), .hole (.sl 121), .hole (.int .i64), .hole (.int .i64)])], []⟩ (.leaf)) (.leaf)) (.two (.two (.join ⟨slotsOf 107 [(1, .c (.box 1 0)), (62, .c (.hole (.bool)))], [(1, 42, [.hole (.int .i64), .hole (.int .i64), .hole (.int .i64), .hole (.int .i64), .hole (.int .i64), .hole (.sl 28), .hole (.sl 121), .hole (.int .i64), .hole (.int .i64)])], []⟩ (.leaf)) (.leaf)) (.two (.leaf) (.two (.two (.leaf) (.one (.loop ⟨slotsOf 107 [(1, .c (.box 1 0)), (4, .c (.hole (.int .i64)))], [(1, 42, [.hole (.int .i64), .hole (.int .i64), .hole (.int .i64), .hole (.int .i64), .hole (.int .i64), .hole (.sl 28), .hole (.sl 121), .hole (.int .i64), .hole (.int .i64)])], []⟩ [(.ret, ⟨slotsOf 107 [(2, .c (.hole (.int .i64))), (3, .c (.hole (.int .i64)))], [], []⟩), (.exit 0, ⟨slotsOf 107 [(1, .c (.box 1 0))], [(1, 42, [.hole (.int .i64), .hole (.int .i64), .hole (.int .i64), .hole (.int .i64), .hole (.int .i64), .hole (.sl 28), .hole (.sl 121), .hole (.int .i64), .hole (.int .i64)])], []⟩)] (.leaf)))) (.leaf)))))
noncomputable def c_ref07_Check (n : Nat) : Cx := ⟨Go.Proofs.Tryz.prog, Θ, [191, 57], [(28, ⟨h_ref07_in, o_ref07_in, ref07_in n⟩), (29, ⟨h_ref07_Node, o_ref07_Node, ref07_Node n⟩), (30, ⟨h_ref07_node, o_ref07_node, ref07_node n⟩), (31, ⟨h_ref07_stops, o_ref07_stops, ref07_stops n⟩)], [], []⟩
theorem d_ref07_Check (n : Nat) (x : h_ref07_Check.X T) : denF (c_ref07_Check n) n Go.Proofs.Tryz.f7 p_ref07_Check h_ref07_Check o_ref07_Check x = ref07_Check n x := by kernel_rfl
theorem s_ref07_Check (n : Nat) : PCalls Go.Proofs.Tryz.prog Θ 7 ⟨h_ref07_Check, o_ref07_Check, ref07_Check n⟩ :=
  func_ok' (C := c_ref07_Check n) (n := n) (p := p_ref07_Check) (ok_of mixed eqsOk ⟨s_ref07_in n, s_ref07_Node n, s_ref07_node n, s_ref07_stops n, trivial⟩ trivial trivial) Go.Proofs.Tryz.func7 (by kernel_rfl) (by kernel_rfl) (d_ref07_Check n) (by kernel_rfl)

/-- carrefour/carrefourlaw06.strings -/
def h_law06_strings : Shape := ⟨slotsOf 1 [(0, .c (.hole (.sl 9)))], [], []⟩
def o_law06_strings : List (Ex × Shape) := [(.ret, ⟨slotsOf 1 [(0, .c (.hole (.bool)))], [], []⟩)]
def law06_strings (n : Nat) (x0 : List ByteArray) : Option (Bool) :=
  (iterL (Y := (Bool) ⊕ (List ByteArray)) n (fun (x1 : (List ByteArray) × Int) =>
    letJ (fun (x2 : (List ByteArray) × Int × Bool) =>
      bif x2.2.2 then
        bif inB x2.2.1 x2.1.length then
          bif decide (100 < ((ByteArray.size (atI (ByteArray.mk #[]) x2.1 x2.2.1) : Nat) : Int)) then
            some (.inr (.inl false))
          else
          some (.inl (x2.1, wrap64 (x2.2.1 + 1)))
        else
        none
      else
      some (.inr (.inr x2.1))) fun J3 =>
    bif decide (x1.2 < ((x1.1.length : Nat) : Int)) then
      J3 (x1.1, x1.2, decide (x1.2 < 50))
    else
    J3 (x1.1, x1.2, false)) (x0, 0)).bind (Sum.elim (fun (z4 : Bool) =>
    some z4) (fun (z5 : List ByteArray) =>
    some (decide (((z5.length : Nat) : Int) ≤ 50))))
def p_law06_strings : Plan := .two (.leaf) (.two (.two (.leaf) (.one (.loop ⟨slotsOf 23 [(0, .c (.hole (.sl 9))), (3, .c (.hole (.int .i64)))], [], []⟩ [(.ret, ⟨slotsOf 23 [(2, .c (.hole (.bool)))], [], []⟩), (.exit 0, ⟨slotsOf 23 [(0, .c (.hole (.sl 9)))], [], []⟩)] (.two (.two (.join ⟨slotsOf 23 [(0, .c (.hole (.sl 9))), (3, .c (.hole (.int .i64))), (11, .c (.hole (.bool)))], [], []⟩ (.leaf)) (.leaf)) (.leaf))))) (.leaf))
noncomputable def c_law06_strings (n : Nat) : Cx := ⟨Go.Proofs.Tryz.prog, Θ, [191, 57], [], [], []⟩
theorem d_law06_strings (n : Nat) (x : h_law06_strings.X T) : denF (c_law06_strings n) n Go.Proofs.Tryz.f50 p_law06_strings h_law06_strings o_law06_strings x = law06_strings n x := by kernel_rfl
theorem s_law06_strings (n : Nat) : PCalls Go.Proofs.Tryz.prog Θ 50 ⟨h_law06_strings, o_law06_strings, law06_strings n⟩ :=
  func_ok' (C := c_law06_strings n) (n := n) (p := p_law06_strings) (ok_of mixed eqsOk trivial trivial trivial) Go.Proofs.Tryz.func50 (by kernel_rfl) (by kernel_rfl) (d_law06_strings n) (by kernel_rfl)

/-- carrefour/carrefourlaw06.node -/
def h_law06_node : Shape := ⟨slotsOf 1 [(0, .agg [.hole (.str), .hole (.sl 72), .hole (.sl 66), .hole (.sl 111), .hole (.sl 125), .hole (.sl 163), .hole (.int .i64)])], [], []⟩
def o_law06_node : List (Ex × Shape) := [(.ret, ⟨slotsOf 1 [(0, .c (.hole (.bool)))], [], []⟩)]
def law06_node (n : Nat) (x0 : ByteArray × (List (ByteArray × Int × Int × Int × Int × Int × Int × Int × Int × Int × Int)) × (List (ByteArray × ByteArray × Int × Int × Int × Int)) × (List (ByteArray × (List ByteArray) × Int)) × (List (List (Bool × List ByteArray))) × (List (ByteArray × ByteArray × Int)) × Int) : Option (Bool) :=
  letJ (fun (x1 : Bool × ByteArray × (List (ByteArray × Int × Int × Int × Int × Int × Int × Int × Int × Int × Int)) × (List (ByteArray × ByteArray × Int × Int × Int × Int)) × (List (ByteArray × (List ByteArray) × Int)) × (List (List (Bool × List ByteArray))) × (List (ByteArray × ByteArray × Int)) × Int) =>
    bif x1.1 then
      some false
    else
    (iterL (Y := (ByteArray × (List (ByteArray × Int × Int × Int × Int × Int × Int × Int × Int × Int × Int)) × (List (ByteArray × ByteArray × Int × Int × Int × Int)) × (List (ByteArray × (List ByteArray) × Int)) × (List (List (Bool × List ByteArray))) × (List (ByteArray × ByteArray × Int)) × Int × List ByteArray)) n (fun (x3 : Int × ByteArray × (List (ByteArray × Int × Int × Int × Int × Int × Int × Int × Int × Int × Int)) × (List (ByteArray × ByteArray × Int × Int × Int × Int)) × (List (ByteArray × (List ByteArray) × Int)) × (List (List (Bool × List ByteArray))) × (List (ByteArray × ByteArray × Int)) × Int × List ByteArray) =>
      let e0 := x3.2.2.1.length
      let e1 := (atI (ByteArray.mk #[], 0, 0, 0, 0, 0, 0, 0, 0, 0, 0) x3.2.2.1 x3.1).1 :: []
      bif decide (x3.1 < ((e0 : Nat) : Int)) then
        bif inB x3.1 e0 then
          bif fitB (x3.2.2.2.2.2.2.2.2.length + e1.length) 16 then
            some (.inl (wrap64 (x3.1 + 1), x3.2.1, x3.2.2.1, x3.2.2.2.1, x3.2.2.2.2.1, x3.2.2.2.2.2.1, x3.2.2.2.2.2.2.1, x3.2.2.2.2.2.2.2.1, x3.2.2.2.2.2.2.2.2 ++ e1))
          else
          none
        else
        none
      else
      some (.inr x3.2)) (0, x1.2.1, x1.2.2.1, x1.2.2.2.1, x1.2.2.2.2.1, x1.2.2.2.2.2.1, x1.2.2.2.2.2.2.1, x1.2.2.2.2.2.2.2, x1.2.1 :: [])).bind fun (z4 : ByteArray × (List (ByteArray × Int × Int × Int × Int × Int × Int × Int × Int × Int × Int)) × (List (ByteArray × ByteArray × Int × Int × Int × Int)) × (List (ByteArray × (List ByteArray) × Int)) × (List (List (Bool × List ByteArray))) × (List (ByteArray × ByteArray × Int)) × Int × List ByteArray) =>
      let e2 := z4.2.2.2.2.2.2.2.length
      bif cutOk none (some (mn ((e2 : Nat) : Int) 50)) e2 then
        (law06_strings n (cutList none (some (mn ((e2 : Nat) : Int) 50)) z4.2.2.2.2.2.2.2)).bind fun y5 =>
        bif !y5 then
          some false
        else
        (iterL (Y := (Bool) ⊕ (ByteArray × (List (ByteArray × Int × Int × Int × Int × Int × Int × Int × Int × Int × Int)) × (List (ByteArray × ByteArray × Int × Int × Int × Int)) × (List (ByteArray × (List ByteArray) × Int)) × (List (List (Bool × List ByteArray))) × (List (ByteArray × ByteArray × Int)) × Int)) n (fun (x6 : Int × ByteArray × (List (ByteArray × Int × Int × Int × Int × Int × Int × Int × Int × Int × Int)) × (List (ByteArray × ByteArray × Int × Int × Int × Int)) × (List (ByteArray × (List ByteArray) × Int)) × (List (List (Bool × List ByteArray))) × (List (ByteArray × ByteArray × Int)) × Int) =>
          let e3 := x6.2.2.2.1.length
          let e4 := inB x6.1 e3
          let e5 := atI (ByteArray.mk #[], ByteArray.mk #[], 0, 0, 0, 0) x6.2.2.2.1 x6.1
          bif decide (x6.1 < ((e3 : Nat) : Int)) then
            bif e4 then
              bif e4 then
                (law06_strings n (e5.1 :: (e5.2.1 :: []))).bind fun y7 =>
                bif !y7 then
                  some (.inr (.inl false))
                else
                some (.inl (wrap64 (x6.1 + 1), x6.2))
              else
              none
            else
            none
          else
          some (.inr (.inr x6.2))) (0, z4.1, z4.2.1, z4.2.2.1, z4.2.2.2.1, z4.2.2.2.2.1, z4.2.2.2.2.2.1, z4.2.2.2.2.2.2.1)).bind (Sum.elim (fun (z8 : Bool) =>
          some z8) (fun (z9 : ByteArray × (List (ByteArray × Int × Int × Int × Int × Int × Int × Int × Int × Int × Int)) × (List (ByteArray × ByteArray × Int × Int × Int × Int)) × (List (ByteArray × (List ByteArray) × Int)) × (List (List (Bool × List ByteArray))) × (List (ByteArray × ByteArray × Int)) × Int) =>
          (iterL (Y := (Bool) ⊕ (ByteArray × (List (ByteArray × Int × Int × Int × Int × Int × Int × Int × Int × Int × Int)) × (List (ByteArray × ByteArray × Int × Int × Int × Int)) × (List (ByteArray × (List ByteArray) × Int)) × (List (List (Bool × List ByteArray))) × (List (ByteArray × ByteArray × Int)) × Int)) n (fun (x10 : Int × ByteArray × (List (ByteArray × Int × Int × Int × Int × Int × Int × Int × Int × Int × Int)) × (List (ByteArray × ByteArray × Int × Int × Int × Int)) × (List (ByteArray × (List ByteArray) × Int)) × (List (List (Bool × List ByteArray))) × (List (ByteArray × ByteArray × Int)) × Int) =>
            let e6 := x10.2.2.2.2.1.length
            let e7 := inB x10.1 e6
            let e8 := atI (ByteArray.mk #[], [], 0) x10.2.2.2.2.1 x10.1
            bif decide (x10.1 < ((e6 : Nat) : Int)) then
              letJ (fun (x13 : Int × Bool × ByteArray × (List (ByteArray × Int × Int × Int × Int × Int × Int × Int × Int × Int × Int)) × (List (ByteArray × ByteArray × Int × Int × Int × Int)) × (List (ByteArray × (List ByteArray) × Int)) × (List (List (Bool × List ByteArray))) × (List (ByteArray × ByteArray × Int)) × Int) =>
                bif x13.2.1 then
                  some (.inr (.inl false))
                else
                some (.inl (wrap64 (x13.1 + 1), x13.2.2))) fun J14 =>
              bif e7 then
                (law06_strings n (e8.1 :: [])).bind fun y11 =>
                bif !y11 then
                  J14 (x10.1, true, x10.2)
                else
                bif e7 then
                  (law06_strings n e8.2.1).bind fun y12 =>
                  J14 (x10.1, !y12, x10.2)
                else
                none
              else
              none
            else
            some (.inr (.inr x10.2))) (0, z9)).bind (Sum.elim (fun (z15 : Bool) =>
            some z15) (fun (z16 : ByteArray × (List (ByteArray × Int × Int × Int × Int × Int × Int × Int × Int × Int × Int)) × (List (ByteArray × ByteArray × Int × Int × Int × Int)) × (List (ByteArray × (List ByteArray) × Int)) × (List (List (Bool × List ByteArray))) × (List (ByteArray × ByteArray × Int)) × Int) =>
            (iterL (Y := (Bool) ⊕ (ByteArray × (List (ByteArray × Int × Int × Int × Int × Int × Int × Int × Int × Int × Int)) × (List (ByteArray × ByteArray × Int × Int × Int × Int)) × (List (ByteArray × (List ByteArray) × Int)) × (List (List (Bool × List ByteArray))) × (List (ByteArray × ByteArray × Int)) × Int)) n (fun (x17 : Int × ByteArray × (List (ByteArray × Int × Int × Int × Int × Int × Int × Int × Int × Int × Int)) × (List (ByteArray × ByteArray × Int × Int × Int × Int)) × (List (ByteArray × (List ByteArray) × Int)) × (List (List (Bool × List ByteArray))) × (List (ByteArray × ByteArray × Int)) × Int) =>
              let e9 := x17.2.2.2.2.2.1.length
              bif decide (x17.1 < ((e9 : Nat) : Int)) then
                bif inB x17.1 e9 then
                  bif decide (5 < ((List.length (atI [] x17.2.2.2.2.2.1 x17.1) : Nat) : Int)) then
                    some (.inr (.inl false))
                  else
                  (iterL (Y := (Bool) ⊕ (Int × ByteArray × (List (ByteArray × Int × Int × Int × Int × Int × Int × Int × Int × Int × Int)) × (List (ByteArray × ByteArray × Int × Int × Int × Int)) × (List (ByteArray × (List ByteArray) × Int)) × (List (List (Bool × List ByteArray))) × (List (ByteArray × ByteArray × Int)) × Int)) n (fun (x18 : Int × Int × ByteArray × (List (ByteArray × Int × Int × Int × Int × Int × Int × Int × Int × Int × Int)) × (List (ByteArray × ByteArray × Int × Int × Int × Int)) × (List (ByteArray × (List ByteArray) × Int)) × (List (List (Bool × List ByteArray))) × (List (ByteArray × ByteArray × Int)) × Int) =>
                    let e10 := inB x18.1 x18.2.2.2.2.2.2.1.length
                    let e11 := atI [] x18.2.2.2.2.2.2.1 x18.1
                    let e12 := e11.length
                    bif e10 then
                      bif decide (x18.2.1 < ((e12 : Nat) : Int)) then
                        bif e10 then
                          bif inB x18.2.1 e12 then
                            (law06_strings n (atI (false, []) e11 x18.2.1).2).bind fun y19 =>
                            bif !y19 then
                              some (.inr (.inl false))
                            else
                            some (.inl (x18.1, wrap64 (x18.2.1 + 1), x18.2.2))
                          else
                          none
                        else
                        none
                      else
                      some (.inr (.inr (x18.1, x18.2.2)))
                    else
                    none) (x17.1, 0, x17.2)).bind (Sum.elim (fun (z20 : Bool) =>
                    some (.inr (.inl z20))) (fun (z21 : Int × ByteArray × (List (ByteArray × Int × Int × Int × Int × Int × Int × Int × Int × Int × Int)) × (List (ByteArray × ByteArray × Int × Int × Int × Int)) × (List (ByteArray × (List ByteArray) × Int)) × (List (List (Bool × List ByteArray))) × (List (ByteArray × ByteArray × Int)) × Int) =>
                    some (.inl (wrap64 (z21.1 + 1), z21.2))))
                else
                none
              else
              some (.inr (.inr x17.2))) (0, z16)).bind (Sum.elim (fun (z22 : Bool) =>
              some z22) (fun (z23 : ByteArray × (List (ByteArray × Int × Int × Int × Int × Int × Int × Int × Int × Int × Int)) × (List (ByteArray × ByteArray × Int × Int × Int × Int)) × (List (ByteArray × (List ByteArray) × Int)) × (List (List (Bool × List ByteArray))) × (List (ByteArray × ByteArray × Int)) × Int) =>
              (iterL (Y := (Bool) ⊕ (Unit)) n (fun (x24 : Int × ByteArray × (List (ByteArray × Int × Int × Int × Int × Int × Int × Int × Int × Int × Int)) × (List (ByteArray × ByteArray × Int × Int × Int × Int)) × (List (ByteArray × (List ByteArray) × Int)) × (List (List (Bool × List ByteArray))) × (List (ByteArray × ByteArray × Int)) × Int) =>
                let e13 := x24.2.2.2.2.2.2.1.length
                let e14 := inB x24.1 e13
                let e15 := atI (ByteArray.mk #[], ByteArray.mk #[], 0) x24.2.2.2.2.2.2.1 x24.1
                bif decide (x24.1 < ((e13 : Nat) : Int)) then
                  bif e14 then
                    bif e14 then
                      (law06_strings n (e15.1 :: (e15.2.1 :: []))).bind fun y25 =>
                      bif !y25 then
                        some (.inr (.inl false))
                      else
                      some (.inl (wrap64 (x24.1 + 1), x24.2))
                    else
                    none
                  else
                  none
                else
                some (.inr (.inr ()))) (0, z23)).bind (Sum.elim (fun (z26 : Bool) =>
                some z26) (fun (z27 : Unit) =>
                some true))))))))
      else
      none) fun J2 =>
  bif decide (50 < ((x0.2.1.length : Nat) : Int)) then
    J2 (true, x0)
  else
  bif decide (50 < ((x0.2.2.1.length : Nat) : Int)) then
    J2 (true, x0)
  else
  bif decide (50 < ((x0.2.2.2.1.length : Nat) : Int)) then
    J2 (true, x0)
  else
  bif decide (50 < ((x0.2.2.2.2.1.length : Nat) : Int)) then
    J2 (true, x0)
  else
  J2 (decide (80 < ((x0.2.2.2.2.2.1.length : Nat) : Int)), x0)
def p_law06_node : Plan := .two (.leaf) (.two (.two (.join ⟨slotsOf 172 [(1, .c (.box 1 0)), (37, .c (.hole (.bool)))], [(1, 28, [.hole (.str), .hole (.sl 72), .hole (.sl 66), .hole (.sl 111), .hole (.sl 125), .hole (.sl 163), .hole (.int .i64)])], []⟩ (.leaf)) (.leaf)) (.two (.leaf) (.two (.two (.leaf) (.one (.loop ⟨slotsOf 172 [(1, .c (.box 1 0)), (3, .c (.row 40)), (4, .c (.hole (.int .i64)))], [(1, 28, [.hole (.str), .hole (.sl 72), .hole (.sl 66), .hole (.sl 111), .hole (.sl 125), .hole (.sl 163), .hole (.int .i64)])], [(40, 9)]⟩ [(.exit 0, ⟨slotsOf 172 [(1, .c (.box 1 0)), (3, .c (.row 40))], [(1, 28, [.hole (.str), .hole (.sl 72), .hole (.sl 66), .hole (.sl 111), .hole (.sl 125), .hole (.sl 163), .hole (.int .i64)])], [(40, 9)]⟩)] (.leaf)))) (.two (.leaf) (.two (.two (.leaf) (.one (.loop ⟨slotsOf 172 [(1, .c (.box 1 0)), (5, .c (.hole (.int .i64)))], [(1, 28, [.hole (.str), .hole (.sl 72), .hole (.sl 66), .hole (.sl 111), .hole (.sl 125), .hole (.sl 163), .hole (.int .i64)])], []⟩ [(.ret, ⟨slotsOf 172 [(2, .c (.hole (.bool)))], [], []⟩), (.exit 2, ⟨slotsOf 172 [(1, .c (.box 1 0))], [(1, 28, [.hole (.str), .hole (.sl 72), .hole (.sl 66), .hole (.sl 111), .hole (.sl 125), .hole (.sl 163), .hole (.int .i64)])], []⟩)] (.leaf)))) (.two (.two (.leaf) (.one (.loop ⟨slotsOf 172 [(1, .c (.box 1 0)), (6, .c (.hole (.int .i64)))], [(1, 28, [.hole (.str), .hole (.sl 72), .hole (.sl 66), .hole (.sl 111), .hole (.sl 125), .hole (.sl 163), .hole (.int .i64)])], []⟩ [(.ret, ⟨slotsOf 172 [(2, .c (.hole (.bool)))], [], []⟩), (.exit 4, ⟨slotsOf 172 [(1, .c (.box 1 0))], [(1, 28, [.hole (.str), .hole (.sl 72), .hole (.sl 66), .hole (.sl 111), .hole (.sl 125), .hole (.sl 163), .hole (.int .i64)])], []⟩)] (.two (.leaf) (.two (.one (.two (.join ⟨slotsOf 172 [(1, .c (.box 1 0)), (6, .c (.hole (.int .i64))), (111, .c (.hole (.bool)))], [(1, 28, [.hole (.str), .hole (.sl 72), .hole (.sl 66), .hole (.sl 111), .hole (.sl 125), .hole (.sl 163), .hole (.int .i64)])], []⟩ (.leaf)) (.leaf))) (.leaf)))))) (.two (.two (.leaf) (.one (.loop ⟨slotsOf 172 [(1, .c (.box 1 0)), (7, .c (.hole (.int .i64)))], [(1, 28, [.hole (.str), .hole (.sl 72), .hole (.sl 66), .hole (.sl 111), .hole (.sl 125), .hole (.sl 163), .hole (.int .i64)])], []⟩ [(.ret, ⟨slotsOf 172 [(2, .c (.hole (.bool)))], [], []⟩), (.exit 6, ⟨slotsOf 172 [(1, .c (.box 1 0))], [(1, 28, [.hole (.str), .hole (.sl 72), .hole (.sl 66), .hole (.sl 111), .hole (.sl 125), .hole (.sl 163), .hole (.int .i64)])], []⟩)] (.two (.leaf) (.two (.one (.two (.leaf) (.two (.leaf) (.one (.loop ⟨slotsOf 172 [(1, .c (.box 1 0)), (7, .c (.hole (.int .i64))), (8, .c (.hole (.int .i64)))], [(1, 28, [.hole (.str), .hole (.sl 72), .hole (.sl 66), .hole (.sl 111), .hole (.sl 125), .hole (.sl 163), .hole (.int .i64)])], []⟩ [(.ret, ⟨slotsOf 172 [(2, .c (.hole (.bool)))], [], []⟩), (.exit 8, ⟨slotsOf 172 [(1, .c (.box 1 0)), (7, .c (.hole (.int .i64)))], [(1, 28, [.hole (.str), .hole (.sl 72), .hole (.sl 66), .hole (.sl 111), .hole (.sl 125), .hole (.sl 163), .hole (.int .i64)])], []⟩)] (.leaf)))))) (.leaf)))))) (.two (.two (.leaf) (.one (.loop ⟨slotsOf 172 [(1, .c (.box 1 0)), (9, .c (.hole (.int .i64)))], [(1, 28, [.hole (.str), .hole (.sl 72), .hole (.sl 66), .hole (.sl 111), .hole (.sl 125), .hole (.sl 163), .hole (.int .i64)])], []⟩ [(.ret, ⟨slotsOf 172 [(2, .c (.hole (.bool)))], [], []⟩), (.exit 10, ⟨slotsOf 172 [], [], []⟩)] (.leaf)))) (.leaf)))))))))
noncomputable def c_law06_node (n : Nat) : Cx := ⟨Go.Proofs.Tryz.prog, Θ, [191, 57], [(50, ⟨h_law06_strings, o_law06_strings, law06_strings n⟩)], [], []⟩
theorem d_law06_node (n : Nat) (x : h_law06_node.X T) : denF (c_law06_node n) n Go.Proofs.Tryz.f49 p_law06_node h_law06_node o_law06_node x = law06_node n x := by kernel_rfl
theorem s_law06_node (n : Nat) : PCalls Go.Proofs.Tryz.prog Θ 49 ⟨h_law06_node, o_law06_node, law06_node n⟩ :=
  func_ok' (C := c_law06_node n) (n := n) (p := p_law06_node) (ok_of mixed eqsOk ⟨s_law06_strings n, trivial⟩ trivial trivial) Go.Proofs.Tryz.func49 (by kernel_rfl) (by kernel_rfl) (d_law06_node n) (by kernel_rfl)

/-- carrefour/carrefourlaw06.Few -/
def h_law06_Few : Shape := ⟨slotsOf 1 [(0, .agg [.hole (.int .i64), .hole (.int .i64), .hole (.int .i64), .hole (.int .i64), .hole (.int .i64), .hole (.sl 28), .hole (.sl 121), .hole (.int .i64), .hole (.int .i64)])], [], []⟩
def o_law06_Few : List (Ex × Shape) := [(.ret, ⟨slotsOf 1 [(0, .c (.hole (.bool)))], [], []⟩)]
def law06_Few (n : Nat) (x0 : Int × Int × Int × Int × Int × (List (ByteArray × (List (ByteArray × Int × Int × Int × Int × Int × Int × Int × Int × Int × Int)) × (List (ByteArray × ByteArray × Int × Int × Int × Int)) × (List (ByteArray × (List ByteArray) × Int)) × (List (List (Bool × List ByteArray))) × (List (ByteArray × ByteArray × Int)) × Int)) × (List (ByteArray × ByteArray × ByteArray × Int × Int × Int)) × Int × Int) : Option (Bool) :=
  letJ (fun (x1 : Bool × Int × Int × Int × Int × Int × (List (ByteArray × (List (ByteArray × Int × Int × Int × Int × Int × Int × Int × Int × Int × Int)) × (List (ByteArray × ByteArray × Int × Int × Int × Int)) × (List (ByteArray × (List ByteArray) × Int)) × (List (List (Bool × List ByteArray))) × (List (ByteArray × ByteArray × Int)) × Int)) × (List (ByteArray × ByteArray × ByteArray × Int × Int × Int)) × Int × Int) =>
    bif x1.1 then
      some false
    else
    (iterL (Y := (Bool) ⊕ (Int × Int × Int × Int × Int × (List (ByteArray × (List (ByteArray × Int × Int × Int × Int × Int × Int × Int × Int × Int × Int)) × (List (ByteArray × ByteArray × Int × Int × Int × Int)) × (List (ByteArray × (List ByteArray) × Int)) × (List (List (Bool × List ByteArray))) × (List (ByteArray × ByteArray × Int)) × Int)) × (List (ByteArray × ByteArray × ByteArray × Int × Int × Int)) × Int × Int)) n (fun (x3 : Int × Int × Int × Int × Int × Int × (List (ByteArray × (List (ByteArray × Int × Int × Int × Int × Int × Int × Int × Int × Int × Int)) × (List (ByteArray × ByteArray × Int × Int × Int × Int)) × (List (ByteArray × (List ByteArray) × Int)) × (List (List (Bool × List ByteArray))) × (List (ByteArray × ByteArray × Int)) × Int)) × (List (ByteArray × ByteArray × ByteArray × Int × Int × Int)) × Int × Int) =>
      let e0 := x3.2.2.2.2.2.2.1.length
      bif decide (x3.1 < ((e0 : Nat) : Int)) then
        bif inB x3.1 e0 then
          (law06_node n (atI (ByteArray.mk #[], [], [], [], [], [], 0) x3.2.2.2.2.2.2.1 x3.1)).bind fun y4 =>
          bif !y4 then
            some (.inr (.inl false))
          else
          some (.inl (wrap64 (x3.1 + 1), x3.2))
        else
        none
      else
      some (.inr (.inr x3.2))) (0, x1.2)).bind (Sum.elim (fun (z5 : Bool) =>
      some z5) (fun (z6 : Int × Int × Int × Int × Int × (List (ByteArray × (List (ByteArray × Int × Int × Int × Int × Int × Int × Int × Int × Int × Int)) × (List (ByteArray × ByteArray × Int × Int × Int × Int)) × (List (ByteArray × (List ByteArray) × Int)) × (List (List (Bool × List ByteArray))) × (List (ByteArray × ByteArray × Int)) × Int)) × (List (ByteArray × ByteArray × ByteArray × Int × Int × Int)) × Int × Int) =>
      (iterL (Y := (Bool) ⊕ (Unit)) n (fun (x7 : Int × Int × Int × Int × Int × Int × (List (ByteArray × (List (ByteArray × Int × Int × Int × Int × Int × Int × Int × Int × Int × Int)) × (List (ByteArray × ByteArray × Int × Int × Int × Int)) × (List (ByteArray × (List ByteArray) × Int)) × (List (List (Bool × List ByteArray))) × (List (ByteArray × ByteArray × Int)) × Int)) × (List (ByteArray × ByteArray × ByteArray × Int × Int × Int)) × Int × Int) =>
        let e1 := x7.2.2.2.2.2.2.2.1.length
        let e2 := inB x7.1 e1
        let e3 := atI (ByteArray.mk #[], ByteArray.mk #[], ByteArray.mk #[], 0, 0, 0) x7.2.2.2.2.2.2.2.1 x7.1
        let e4 := e3.2
        bif decide (x7.1 < ((e1 : Nat) : Int)) then
          bif e2 then
            bif e2 then
              bif e2 then
                (law06_strings n (e3.1 :: (e3.2.1 :: (e3.2.2.1 :: [])))).bind fun y8 =>
                bif !y8 then
                  some (.inr (.inl false))
                else
                some (.inl (wrap64 (x7.1 + 1), x7.2))
              else
              none
            else
            none
          else
          none
        else
        some (.inr (.inr ()))) (0, z6)).bind (Sum.elim (fun (z9 : Bool) =>
        some z9) (fun (z10 : Unit) =>
        some true))))) fun J2 =>
  bif decide (15 < ((x0.2.2.2.2.2.1.length : Nat) : Int)) then
    J2 (true, x0)
  else
  J2 (decide (15 < ((x0.2.2.2.2.2.2.1.length : Nat) : Int)), x0)
def p_law06_Few : Plan := .two (.leaf) (.two (.two (.join ⟨slotsOf 57 [(1, .c (.box 1 0)), (14, .c (.hole (.bool)))], [(1, 42, [.hole (.int .i64), .hole (.int .i64), .hole (.int .i64), .hole (.int .i64), .hole (.int .i64), .hole (.sl 28), .hole (.sl 121), .hole (.int .i64), .hole (.int .i64)])], []⟩ (.leaf)) (.leaf)) (.two (.two (.leaf) (.one (.loop ⟨slotsOf 57 [(1, .c (.box 1 0)), (3, .c (.hole (.int .i64)))], [(1, 42, [.hole (.int .i64), .hole (.int .i64), .hole (.int .i64), .hole (.int .i64), .hole (.int .i64), .hole (.sl 28), .hole (.sl 121), .hole (.int .i64), .hole (.int .i64)])], []⟩ [(.ret, ⟨slotsOf 57 [(2, .c (.hole (.bool)))], [], []⟩), (.exit 0, ⟨slotsOf 57 [(1, .c (.box 1 0))], [(1, 42, [.hole (.int .i64), .hole (.int .i64), .hole (.int .i64), .hole (.int .i64), .hole (.int .i64), .hole (.sl 28), .hole (.sl 121), .hole (.int .i64), .hole (.int .i64)])], []⟩)] (.leaf)))) (.two (.two (.leaf) (.one (.loop ⟨slotsOf 57 [(1, .c (.box 1 0)), (4, .c (.hole (.int .i64)))], [(1, 42, [.hole (.int .i64), .hole (.int .i64), .hole (.int .i64), .hole (.int .i64), .hole (.int .i64), .hole (.sl 28), .hole (.sl 121), .hole (.int .i64), .hole (.int .i64)])], []⟩ [(.ret, ⟨slotsOf 57 [(2, .c (.hole (.bool)))], [], []⟩), (.exit 2, ⟨slotsOf 57 [], [], []⟩)] (.leaf)))) (.leaf))))
noncomputable def c_law06_Few (n : Nat) : Cx := ⟨Go.Proofs.Tryz.prog, Θ, [191, 57], [(50, ⟨h_law06_strings, o_law06_strings, law06_strings n⟩), (49, ⟨h_law06_node, o_law06_node, law06_node n⟩)], [], []⟩
theorem d_law06_Few (n : Nat) (x : h_law06_Few.X T) : denF (c_law06_Few n) n Go.Proofs.Tryz.f16 p_law06_Few h_law06_Few o_law06_Few x = law06_Few n x := by kernel_rfl
theorem s_law06_Few (n : Nat) : PCalls Go.Proofs.Tryz.prog Θ 16 ⟨h_law06_Few, o_law06_Few, law06_Few n⟩ :=
  func_ok' (C := c_law06_Few n) (n := n) (p := p_law06_Few) (ok_of mixed eqsOk ⟨s_law06_strings n, s_law06_node n, trivial⟩ trivial trivial) Go.Proofs.Tryz.func16 (by kernel_rfl) (by kernel_rfl) (d_law06_Few n) (by kernel_rfl)

/-- carrefour/carrefourlaw17.Few -/
def h_law17_Few : Shape := ⟨slotsOf 1 [(0, .agg [.hole (.int .i64), .hole (.sl 33), .hole (.int .i64), .hole (.int .i64), .hole (.int .i64), .hole (.int .i64), .hole (.bool), .hole (.int .i64)])], [], []⟩
def o_law17_Few : List (Ex × Shape) := [(.ret, ⟨slotsOf 1 [(0, .c (.hole (.bool)))], [], []⟩)]
def law17_Few (n : Nat) (x0 : Int × (List (ByteArray × Int × (List (List (List (ByteArray × Int × Int × Int × List (ByteArray × Int × Int))))) × Int × Int)) × Int × Int × Int × Int × Bool × Int) : Option (Bool) :=
  bif decide (15 < ((x0.2.1.length : Nat) : Int)) then
    some false
  else
  (iterL (Y := (Bool) ⊕ (Unit)) n (fun (x1 : Int × Int × (List (ByteArray × Int × (List (List (List (ByteArray × Int × Int × Int × List (ByteArray × Int × Int))))) × Int × Int)) × Int × Int × Int × Int × Bool × Int) =>
    let e0 := x1.2.2.1.length
    let e1 := atI (ByteArray.mk #[], 0, [], 0, 0) x1.2.2.1 x1.1
    bif decide (x1.1 < ((e0 : Nat) : Int)) then
      bif inB x1.1 e0 then
        letJ (fun (x2 : Int × Bool × Int × (List (ByteArray × Int × (List (List (List (ByteArray × Int × Int × Int × List (ByteArray × Int × Int))))) × Int × Int)) × Int × Int × Int × Int × Bool × Int × ByteArray × Int × (List (List (List (ByteArray × Int × Int × Int × List (ByteArray × Int × Int))))) × Int × Int) =>
          bif x2.2.1 then
            some (.inr (.inl false))
          else
          (iterL (Y := (Bool) ⊕ (Int × Int × (List (ByteArray × Int × (List (List (List (ByteArray × Int × Int × Int × List (ByteArray × Int × Int))))) × Int × Int)) × Int × Int × Int × Int × Bool × Int)) n (fun (x4 : Int × Int × Int × (List (ByteArray × Int × (List (List (List (ByteArray × Int × Int × Int × List (ByteArray × Int × Int))))) × Int × Int)) × Int × Int × Int × Int × Bool × Int × ByteArray × Int × (List (List (List (ByteArray × Int × Int × Int × List (ByteArray × Int × Int))))) × Int × Int) =>
            let e2 := x4.2.2.2.2.2.2.2.2.2.2.2.2.1.length
            bif decide (x4.2.1 < ((e2 : Nat) : Int)) then
              bif inB x4.2.1 e2 then
                bif decide (6 < ((List.length (atI [] x4.2.2.2.2.2.2.2.2.2.2.2.2.1 x4.2.1) : Nat) : Int)) then
                  some (.inr (.inl false))
                else
                (iterL (Y := (Bool) ⊕ (Int × Int × Int × (List (ByteArray × Int × (List (List (List (ByteArray × Int × Int × Int × List (ByteArray × Int × Int))))) × Int × Int)) × Int × Int × Int × Int × Bool × Int × ByteArray × Int × (List (List (List (ByteArray × Int × Int × Int × List (ByteArray × Int × Int))))) × Int × Int)) n (fun (x5 : Int × Int × Int × Int × (List (ByteArray × Int × (List (List (List (ByteArray × Int × Int × Int × List (ByteArray × Int × Int))))) × Int × Int)) × Int × Int × Int × Int × Bool × Int × ByteArray × Int × (List (List (List (ByteArray × Int × Int × Int × List (ByteArray × Int × Int))))) × Int × Int) =>
                  let e3 := inB x5.2.1 x5.2.2.2.2.2.2.2.2.2.2.2.2.2.1.length
                  let e4 := atI [] x5.2.2.2.2.2.2.2.2.2.2.2.2.2.1 x5.2.1
                  let e5 := e4.length
                  let e6 := atI [] e4 x5.2.2.1
                  bif e3 then
                    bif decide (x5.2.2.1 < ((e5 : Nat) : Int)) then
                      bif e3 then
                        bif inB x5.2.2.1 e5 then
                          bif decide (8 < ((e6.length : Nat) : Int)) then
                            some (.inr (.inl false))
                          else
                          (iterL (Y := (Bool) ⊕ (Int × Int × Int × Int × (List (ByteArray × Int × (List (List (List (ByteArray × Int × Int × Int × List (ByteArray × Int × Int))))) × Int × Int)) × Int × Int × Int × Int × Bool × Int × ByteArray × Int × (List (List (List (ByteArray × Int × Int × Int × List (ByteArray × Int × Int))))) × Int × Int)) n (fun (x6 : Int × Int × Int × (List (ByteArray × Int × Int × Int × List (ByteArray × Int × Int))) × Int × Int × (List (ByteArray × Int × (List (List (List (ByteArray × Int × Int × Int × List (ByteArray × Int × Int))))) × Int × Int)) × Int × Int × Int × Int × Bool × Int × ByteArray × Int × (List (List (List (ByteArray × Int × Int × Int × List (ByteArray × Int × Int))))) × Int × Int) =>
                            let e7 := x6.2.2.2.1.length
                            let e8 := inB x6.2.2.2.2.1 e7
                            let e9 := atI (ByteArray.mk #[], 0, 0, 0, []) x6.2.2.2.1 x6.2.2.2.2.1
                            bif decide (x6.2.2.2.2.1 < ((e7 : Nat) : Int)) then
                              letJ (fun (x7 : Int × Int × Int × (List (ByteArray × Int × Int × Int × List (ByteArray × Int × Int))) × Int × Bool × Int × (List (ByteArray × Int × (List (List (List (ByteArray × Int × Int × Int × List (ByteArray × Int × Int))))) × Int × Int)) × Int × Int × Int × Int × Bool × Int × ByteArray × Int × (List (List (List (ByteArray × Int × Int × Int × List (ByteArray × Int × Int))))) × Int × Int) =>
                                bif x7.2.2.2.2.2.1 then
                                  some (.inr (.inl false))
                                else
                                (iterL (Y := (Bool) ⊕ (Int × Int × Int × (List (ByteArray × Int × Int × Int × List (ByteArray × Int × Int))) × Int × Int × (List (ByteArray × Int × (List (List (List (ByteArray × Int × Int × Int × List (ByteArray × Int × Int))))) × Int × Int)) × Int × Int × Int × Int × Bool × Int × ByteArray × Int × (List (List (List (ByteArray × Int × Int × Int × List (ByteArray × Int × Int))))) × Int × Int)) n (fun (x9 : Int × Int × Int × (List (ByteArray × Int × Int × Int × List (ByteArray × Int × Int))) × Int × Int × Int × (List (ByteArray × Int × (List (List (List (ByteArray × Int × Int × Int × List (ByteArray × Int × Int))))) × Int × Int)) × Int × Int × Int × Int × Bool × Int × ByteArray × Int × (List (List (List (ByteArray × Int × Int × Int × List (ByteArray × Int × Int))))) × Int × Int) =>
                                  let e10 := inB x9.2.2.2.2.1 x9.2.2.2.1.length
                                  let e11 := (atI (ByteArray.mk #[], 0, 0, 0, []) x9.2.2.2.1 x9.2.2.2.2.1).2.2.2.2
                                  let e12 := e11.length
                                  bif e10 then
                                    bif decide (x9.2.2.2.2.2.1 < ((e12 : Nat) : Int)) then
                                      bif e10 then
                                        bif inB x9.2.2.2.2.2.1 e12 then
                                          bif decide (100 < ((ByteArray.size (atI (ByteArray.mk #[], 0, 0) e11 x9.2.2.2.2.2.1).1 : Nat) : Int)) then
                                            some (.inr (.inl false))
                                          else
                                          some (.inl (x9.1, x9.2.1, x9.2.2.1, x9.2.2.2.1, x9.2.2.2.2.1, wrap64 (x9.2.2.2.2.2.1 + 1), x9.2.2.2.2.2.2))
                                        else
                                        none
                                      else
                                      none
                                    else
                                    some (.inr (.inr (x9.1, x9.2.1, x9.2.2.1, x9.2.2.2.1, x9.2.2.2.2.1, x9.2.2.2.2.2.2)))
                                  else
                                  none) (x7.1, x7.2.1, x7.2.2.1, x7.2.2.2.1, x7.2.2.2.2.1, 0, x7.2.2.2.2.2.2)).bind (Sum.elim (fun (z10 : Bool) =>
                                  some (.inr (.inl z10))) (fun (z11 : Int × Int × Int × (List (ByteArray × Int × Int × Int × List (ByteArray × Int × Int))) × Int × Int × (List (ByteArray × Int × (List (List (List (ByteArray × Int × Int × Int × List (ByteArray × Int × Int))))) × Int × Int)) × Int × Int × Int × Int × Bool × Int × ByteArray × Int × (List (List (List (ByteArray × Int × Int × Int × List (ByteArray × Int × Int))))) × Int × Int) =>
                                  some (.inl (z11.1, z11.2.1, z11.2.2.1, z11.2.2.2.1, wrap64 (z11.2.2.2.2.1 + 1), z11.2.2.2.2.2))))) fun J8 =>
                              bif e8 then
                                bif decide (100 < ((ByteArray.size e9.1 : Nat) : Int)) then
                                  J8 (x6.1, x6.2.1, x6.2.2.1, x6.2.2.2.1, x6.2.2.2.2.1, true, x6.2.2.2.2.2)
                                else
                                bif e8 then
                                  J8 (x6.1, x6.2.1, x6.2.2.1, x6.2.2.2.1, x6.2.2.2.2.1, decide (12 < ((List.length e9.2.2.2.2 : Nat) : Int)), x6.2.2.2.2.2)
                                else
                                none
                              else
                              none
                            else
                            some (.inr (.inr (x6.1, x6.2.1, x6.2.2.1, x6.2.2.2.2.2)))) (x5.1, x5.2.1, x5.2.2.1, e6, 0, x5.2.2.2)).bind (Sum.elim (fun (z12 : Bool) =>
                            some (.inr (.inl z12))) (fun (z13 : Int × Int × Int × Int × (List (ByteArray × Int × (List (List (List (ByteArray × Int × Int × Int × List (ByteArray × Int × Int))))) × Int × Int)) × Int × Int × Int × Int × Bool × Int × ByteArray × Int × (List (List (List (ByteArray × Int × Int × Int × List (ByteArray × Int × Int))))) × Int × Int) =>
                            some (.inl (z13.1, z13.2.1, wrap64 (z13.2.2.1 + 1), z13.2.2.2))))
                        else
                        none
                      else
                      none
                    else
                    some (.inr (.inr (x5.1, x5.2.1, x5.2.2.2)))
                  else
                  none) (x4.1, x4.2.1, 0, x4.2.2)).bind (Sum.elim (fun (z14 : Bool) =>
                  some (.inr (.inl z14))) (fun (z15 : Int × Int × Int × (List (ByteArray × Int × (List (List (List (ByteArray × Int × Int × Int × List (ByteArray × Int × Int))))) × Int × Int)) × Int × Int × Int × Int × Bool × Int × ByteArray × Int × (List (List (List (ByteArray × Int × Int × Int × List (ByteArray × Int × Int))))) × Int × Int) =>
                  some (.inl (z15.1, wrap64 (z15.2.1 + 1), z15.2.2))))
              else
              none
            else
            some (.inr (.inr (x4.1, x4.2.2.1, x4.2.2.2.1, x4.2.2.2.2.1, x4.2.2.2.2.2.1, x4.2.2.2.2.2.2.1, x4.2.2.2.2.2.2.2.1, x4.2.2.2.2.2.2.2.2.1, x4.2.2.2.2.2.2.2.2.2.1)))) (x2.1, 0, x2.2.2)).bind (Sum.elim (fun (z16 : Bool) =>
            some (.inr (.inl z16))) (fun (z17 : Int × Int × (List (ByteArray × Int × (List (List (List (ByteArray × Int × Int × Int × List (ByteArray × Int × Int))))) × Int × Int)) × Int × Int × Int × Int × Bool × Int) =>
            some (.inl (wrap64 (z17.1 + 1), z17.2))))) fun J3 =>
        bif decide (100 < ((ByteArray.size e1.1 : Nat) : Int)) then
          J3 (x1.1, true, x1.2.1, x1.2.2.1, x1.2.2.2.1, x1.2.2.2.2.1, x1.2.2.2.2.2.1, x1.2.2.2.2.2.2.1, x1.2.2.2.2.2.2.2.1, x1.2.2.2.2.2.2.2.2, e1)
        else
        J3 (x1.1, decide (6 < ((List.length e1.2.2.1 : Nat) : Int)), x1.2.1, x1.2.2.1, x1.2.2.2.1, x1.2.2.2.2.1, x1.2.2.2.2.2.1, x1.2.2.2.2.2.2.1, x1.2.2.2.2.2.2.2.1, x1.2.2.2.2.2.2.2.2, e1)
      else
      none
    else
    some (.inr (.inr ()))) (0, x0)).bind (Sum.elim (fun (z18 : Bool) =>
    some z18) (fun (z19 : Unit) =>
    some true))
def p_law17_Few : Plan := .two (.leaf) (.two (.leaf) (.two (.two (.leaf) (.one (.loop ⟨slotsOf 117 [(1, .c (.box 1 0)), (3, .c (.hole (.int .i64)))], [(1, 81, [.hole (.int .i64), .hole (.sl 33), .hole (.int .i64), .hole (.int .i64), .hole (.int .i64), .hole (.int .i64), .hole (.bool), .hole (.int .i64)])], []⟩ [(.ret, ⟨slotsOf 117 [(2, .c (.hole (.bool)))], [], []⟩), (.exit 0, ⟨slotsOf 117 [], [], []⟩)] (.two (.leaf) (.two (.one (.two (.leaf) (.two (.two (.join ⟨slotsOf 117 [(1, .c (.box 1 0)), (3, .c (.hole (.int .i64))), (4, .c (.box 4 0)), (35, .c (.hole (.bool)))], [(1, 81, [.hole (.int .i64), .hole (.sl 33), .hole (.int .i64), .hole (.int .i64), .hole (.int .i64), .hole (.int .i64), .hole (.bool), .hole (.int .i64)]), (4, 33, [.hole (.str), .hole (.int .i64), .hole (.sl 85), .hole (.int .i64), .hole (.int .i64)])], []⟩ (.leaf)) (.leaf)) (.two (.leaf) (.one (.loop ⟨slotsOf 117 [(1, .c (.box 1 0)), (3, .c (.hole (.int .i64))), (4, .c (.box 4 0)), (5, .c (.hole (.int .i64)))], [(1, 81, [.hole (.int .i64), .hole (.sl 33), .hole (.int .i64), .hole (.int .i64), .hole (.int .i64), .hole (.int .i64), .hole (.bool), .hole (.int .i64)]), (4, 33, [.hole (.str), .hole (.int .i64), .hole (.sl 85), .hole (.int .i64), .hole (.int .i64)])], []⟩ [(.ret, ⟨slotsOf 117 [(2, .c (.hole (.bool)))], [], []⟩), (.exit 2, ⟨slotsOf 117 [(1, .c (.box 1 0)), (3, .c (.hole (.int .i64)))], [(1, 81, [.hole (.int .i64), .hole (.sl 33), .hole (.int .i64), .hole (.int .i64), .hole (.int .i64), .hole (.int .i64), .hole (.bool), .hole (.int .i64)])], []⟩)] (.two (.leaf) (.two (.one (.two (.leaf) (.two (.leaf) (.one (.loop ⟨slotsOf 117 [(1, .c (.box 1 0)), (3, .c (.hole (.int .i64))), (4, .c (.box 4 0)), (5, .c (.hole (.int .i64))), (6, .c (.hole (.int .i64)))], [(1, 81, [.hole (.int .i64), .hole (.sl 33), .hole (.int .i64), .hole (.int .i64), .hole (.int .i64), .hole (.int .i64), .hole (.bool), .hole (.int .i64)]), (4, 33, [.hole (.str), .hole (.int .i64), .hole (.sl 85), .hole (.int .i64), .hole (.int .i64)])], []⟩ [(.ret, ⟨slotsOf 117 [(2, .c (.hole (.bool)))], [], []⟩), (.exit 4, ⟨slotsOf 117 [(1, .c (.box 1 0)), (3, .c (.hole (.int .i64))), (4, .c (.box 4 0)), (5, .c (.hole (.int .i64)))], [(1, 81, [.hole (.int .i64), .hole (.sl 33), .hole (.int .i64), .hole (.int .i64), .hole (.int .i64), .hole (.int .i64), .hole (.bool), .hole (.int .i64)]), (4, 33, [.hole (.str), .hole (.int .i64), .hole (.sl 85), .hole (.int .i64), .hole (.int .i64)])], []⟩)] (.two (.leaf) (.two (.one (.two (.leaf) (.two (.leaf) (.two (.leaf) (.one (.loop ⟨slotsOf 117 [(1, .c (.box 1 0)), (3, .c (.hole (.int .i64))), (4, .c (.box 4 0)), (5, .c (.hole (.int .i64))), (6, .c (.hole (.int .i64))), (7, .c (.hole (.sl 62))), (8, .c (.hole (.int .i64)))], [(1, 81, [.hole (.int .i64), .hole (.sl 33), .hole (.int .i64), .hole (.int .i64), .hole (.int .i64), .hole (.int .i64), .hole (.bool), .hole (.int .i64)]), (4, 33, [.hole (.str), .hole (.int .i64), .hole (.sl 85), .hole (.int .i64), .hole (.int .i64)])], []⟩ [(.ret, ⟨slotsOf 117 [(2, .c (.hole (.bool)))], [], []⟩), (.exit 6, ⟨slotsOf 117 [(1, .c (.box 1 0)), (3, .c (.hole (.int .i64))), (4, .c (.box 4 0)), (5, .c (.hole (.int .i64))), (6, .c (.hole (.int .i64)))], [(1, 81, [.hole (.int .i64), .hole (.sl 33), .hole (.int .i64), .hole (.int .i64), .hole (.int .i64), .hole (.int .i64), .hole (.bool), .hole (.int .i64)]), (4, 33, [.hole (.str), .hole (.int .i64), .hole (.sl 85), .hole (.int .i64), .hole (.int .i64)])], []⟩)] (.two (.leaf) (.two (.one (.two (.two (.join ⟨slotsOf 117 [(1, .c (.box 1 0)), (3, .c (.hole (.int .i64))), (4, .c (.box 4 0)), (5, .c (.hole (.int .i64))), (6, .c (.hole (.int .i64))), (7, .c (.hole (.sl 62))), (8, .c (.hole (.int .i64))), (95, .c (.hole (.bool)))], [(1, 81, [.hole (.int .i64), .hole (.sl 33), .hole (.int .i64), .hole (.int .i64), .hole (.int .i64), .hole (.int .i64), .hole (.bool), .hole (.int .i64)]), (4, 33, [.hole (.str), .hole (.int .i64), .hole (.sl 85), .hole (.int .i64), .hole (.int .i64)])], []⟩ (.leaf)) (.leaf)) (.two (.leaf) (.one (.loop ⟨slotsOf 117 [(1, .c (.box 1 0)), (3, .c (.hole (.int .i64))), (4, .c (.box 4 0)), (5, .c (.hole (.int .i64))), (6, .c (.hole (.int .i64))), (7, .c (.hole (.sl 62))), (8, .c (.hole (.int .i64))), (9, .c (.hole (.int .i64)))], [(1, 81, [.hole (.int .i64), .hole (.sl 33), .hole (.int .i64), .hole (.int .i64), .hole (.int .i64), .hole (.int .i64), .hole (.bool), .hole (.int .i64)]), (4, 33, [.hole (.str), .hole (.int .i64), .hole (.sl 85), .hole (.int .i64), .hole (.int .i64)])], []⟩ [(.ret, ⟨slotsOf 117 [(2, .c (.hole (.bool)))], [], []⟩), (.exit 8, ⟨slotsOf 117 [(1, .c (.box 1 0)), (3, .c (.hole (.int .i64))), (4, .c (.box 4 0)), (5, .c (.hole (.int .i64))), (6, .c (.hole (.int .i64))), (7, .c (.hole (.sl 62))), (8, .c (.hole (.int .i64)))], [(1, 81, [.hole (.int .i64), .hole (.sl 33), .hole (.int .i64), .hole (.int .i64), .hole (.int .i64), .hole (.int .i64), .hole (.bool), .hole (.int .i64)]), (4, 33, [.hole (.str), .hole (.int .i64), .hole (.sl 85), .hole (.int .i64), .hole (.int .i64)])], []⟩)] (.leaf)))))) (.leaf))))))))) (.leaf)))))))) (.leaf))))))))) (.leaf)))))) (.leaf)))
noncomputable def c_law17_Few (n : Nat) : Cx := ⟨Go.Proofs.Tryz.prog, Θ, [191, 57], [], [], []⟩
theorem d_law17_Few (n : Nat) (x : h_law17_Few.X T) : denF (c_law17_Few n) n Go.Proofs.Tryz.f21 p_law17_Few h_law17_Few o_law17_Few x = law17_Few n x := by kernel_rfl
theorem s_law17_Few (n : Nat) : PCalls Go.Proofs.Tryz.prog Θ 21 ⟨h_law17_Few, o_law17_Few, law17_Few n⟩ :=
  func_ok' (C := c_law17_Few n) (n := n) (p := p_law17_Few) (ok_of mixed eqsOk trivial trivial trivial) Go.Proofs.Tryz.func21 (by kernel_rfl) (by kernel_rfl) (d_law17_Few n) (by kernel_rfl)

end Go.Proofs.YtakkhnoelnpfdaaGreat.Fn
