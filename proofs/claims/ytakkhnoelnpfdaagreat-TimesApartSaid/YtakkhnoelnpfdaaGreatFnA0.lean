/- Functions of the program, each as a plain function, and that the machine does what it says. -/
import Derived.Test.YtakkhnoelnpfdaaGreatGiven
namespace Go.Proofs.YtakkhnoelnpfdaaGreat.Fn
set_option linter.unusedVariables false
set_option maxRecDepth 100000
open Go Go.RowKit Go.Den
/-- slices.SortFunc[[]carrefour/circle.piece,carrefour/circle.piece] -/
def h_slices_SortFunc_circle_pieces_1 : Shape := ⟨slotsOf 2 [(0, .c (.row 1000000)), (1, .c (.fn 121 []))], [], [(1000000, 191)]⟩
def o_slices_SortFunc_circle_pieces_1 : List (Ex × Shape) := [(.ret, ⟨slotsOf 0 [], [], [(1000000, 191)]⟩)]
def slices_SortFunc_circle_pieces_1 (n : Nat) (x : List (Int × Int)) : Option (List (Int × Int)) := sortF (0, 0) (fun a b : Int × Int => Go.Lib.compareInt a.1 b.1) x
theorem s_slices_SortFunc_circle_pieces_1 (n : Nat) : PCalls Go.Proofs.Tryz.prog Θ 120 ⟨h_slices_SortFunc_circle_pieces_1, o_slices_SortFunc_circle_pieces_1, slices_SortFunc_circle_pieces_1 n⟩ := sortPc_calls

/-- slices.DeleteFunc[[]string,string] -/
def h_slices_DeleteFunc_times_ring_1 : Shape := ⟨slotsOf 2 [(0, .c (.row 1000000)), (1, .c (.fn 102 [1000000]))], [(1000000, 62, [.hole (.str), .hole (.int .i64), .hole (.int .i64), .hole (.int .i64), .hole (.sl 133)])], [(1000000, 9)]⟩
def o_slices_DeleteFunc_times_ring_1 : List (Ex × Shape) := [(.ret, ⟨slotsOf 1 [(0, .c (.row 2000000))], [(1000000, 62, [.hole (.str), .hole (.int .i64), .hole (.int .i64), .hole (.int .i64), .hole (.sl 133)])], [(2000000, 9)]⟩)]
def slices_DeleteFunc_times_ring_1 (n : Nat) (x : ByteArray × Int × Int × Int × List (ByteArray × Int × Int) × List ByteArray) : Option (ByteArray × Int × Int × Int × List (ByteArray × Int × Int) × List ByteArray) := delF (fun s y => strEq y s) x
theorem s_slices_DeleteFunc_times_ring_1 (n : Nat) : PCalls Go.Proofs.Tryz.prog Θ 101 ⟨h_slices_DeleteFunc_times_ring_1, o_slices_DeleteFunc_times_ring_1, slices_DeleteFunc_times_ring_1 n⟩ := delStr_calls

/-- carrefour/carrefourref07.in -/
def h_ref07_in : Shape := ⟨slotsOf 3 [(0, .c (.hole (.int .i64))), (1, .c (.hole (.int .i64))), (2, .c (.hole (.int .i64)))], [], []⟩
def o_ref07_in : List (Ex × Shape) := [(.ret, ⟨slotsOf 1 [(0, .c (.hole (.bool)))], [], []⟩)]
def ref07_in (n : Nat) (x0 : Int × Int × Int) : Option (Bool) :=
  bif decide (x0.2.1 ≤ x0.1) then
    some (decide (x0.1 ≤ x0.2.2))
  else
  some false
def p_ref07_in : Plan := .leaf
noncomputable def c_ref07_in (n : Nat) : Cx := ⟨Go.Proofs.Tryz.prog, Θ, [191, 57], [], [], []⟩
theorem d_ref07_in (n : Nat) (x : h_ref07_in.X T) : denF (c_ref07_in n) n Go.Proofs.Tryz.f28 p_ref07_in h_ref07_in o_ref07_in x = ref07_in n x := by kernel_rfl
theorem s_ref07_in (n : Nat) : PCalls Go.Proofs.Tryz.prog Θ 28 ⟨h_ref07_in, o_ref07_in, ref07_in n⟩ :=
  func_ok' (C := c_ref07_in n) (n := n) (p := p_ref07_in) (ok_of mixed eqsOk trivial trivial trivial) Go.Proofs.Tryz.func28 (by kernel_rfl) (by kernel_rfl) (d_ref07_in n) (by kernel_rfl)

/-- carrefour/carrefourref07.Node -/
def h_ref07_Node : Shape := ⟨slotsOf 2 [(0, .agg [.hole (.int .i64), .hole (.int .i64), .hole (.int .i64), .hole (.int .i64), .hole (.int .i64), .hole (.sl 28), .hole (.sl 121), .hole (.int .i64), .hole (.int .i64)]), (1, .c (.hole (.str)))], [], []⟩
def o_ref07_Node : List (Ex × Shape) := [(.ret, ⟨slotsOf 1 [(0, .c (.hole (.int .i64)))], [], []⟩)]
def ref07_Node (n : Nat) (x0 : Int × Int × Int × Int × Int × (List (ByteArray × (List (ByteArray × Int × Int × Int × Int × Int × Int × Int × Int × Int × Int)) × (List (ByteArray × ByteArray × Int × Int × Int × Int)) × (List (ByteArray × (List ByteArray) × Int)) × (List (List (Bool × List ByteArray))) × (List (ByteArray × ByteArray × Int)) × Int)) × (List (ByteArray × ByteArray × ByteArray × Int × Int × Int)) × Int × Int × ByteArray) : Option (Int) :=
  (iterL (Y := (Int) ⊕ (Unit)) n (fun (x1 : ByteArray × Int × Int × Int × Int × Int × Int × (List (ByteArray × (List (ByteArray × Int × Int × Int × Int × Int × Int × Int × Int × Int × Int)) × (List (ByteArray × ByteArray × Int × Int × Int × Int)) × (List (ByteArray × (List ByteArray) × Int)) × (List (List (Bool × List ByteArray))) × (List (ByteArray × ByteArray × Int)) × Int)) × (List (ByteArray × ByteArray × ByteArray × Int × Int × Int)) × Int × Int) =>
    let e0 := x1.2.2.2.2.2.2.2.1.length
    bif decide (x1.2.1 < ((e0 : Nat) : Int)) then
      bif inB x1.2.1 e0 then
        bif strEq (atI (ByteArray.mk #[], [], [], [], [], [], 0) x1.2.2.2.2.2.2.2.1 x1.2.1).1 x1.1 then
          some (.inr (.inl x1.2.1))
        else
        some (.inl (x1.1, wrap64 (x1.2.1 + 1), x1.2.2))
      else
      none
    else
    some (.inr (.inr ()))) (x0.2.2.2.2.2.2.2.2.2, 0, x0.1, x0.2.1, x0.2.2.1, x0.2.2.2.1, x0.2.2.2.2.1, x0.2.2.2.2.2.1, x0.2.2.2.2.2.2.1, x0.2.2.2.2.2.2.2.1, x0.2.2.2.2.2.2.2.2.1)).bind (Sum.elim (fun (z2 : Int) =>
    some z2) (fun (z3 : Unit) =>
    some (-1)))
def p_ref07_Node : Plan := .two (.leaf) (.two (.two (.leaf) (.one (.loop ⟨slotsOf 22 [(1, .c (.hole (.str))), (2, .c (.box 2 0)), (5, .c (.hole (.int .i64)))], [(2, 42, [.hole (.int .i64), .hole (.int .i64), .hole (.int .i64), .hole (.int .i64), .hole (.int .i64), .hole (.sl 28), .hole (.sl 121), .hole (.int .i64), .hole (.int .i64)])], []⟩ [(.ret, ⟨slotsOf 22 [(4, .c (.hole (.int .i64)))], [], []⟩), (.exit 0, ⟨slotsOf 22 [], [], []⟩)] (.leaf)))) (.leaf))
noncomputable def c_ref07_Node (n : Nat) : Cx := ⟨Go.Proofs.Tryz.prog, Θ, [191, 57], [], [], []⟩
theorem d_ref07_Node (n : Nat) (x : h_ref07_Node.X T) : denF (c_ref07_Node n) n Go.Proofs.Tryz.f29 p_ref07_Node h_ref07_Node o_ref07_Node x = ref07_Node n x := by kernel_rfl
theorem s_ref07_Node (n : Nat) : PCalls Go.Proofs.Tryz.prog Θ 29 ⟨h_ref07_Node, o_ref07_Node, ref07_Node n⟩ :=
  func_ok' (C := c_ref07_Node n) (n := n) (p := p_ref07_Node) (ok_of mixed eqsOk trivial trivial trivial) Go.Proofs.Tryz.func29 (by kernel_rfl) (by kernel_rfl) (d_ref07_Node n) (by kernel_rfl)

/-- carrefour/carrefourref07.Head -/
def h_ref07_Head : Shape := ⟨slotsOf 2 [(0, .agg [.hole (.str), .hole (.sl 72), .hole (.sl 66), .hole (.sl 111), .hole (.sl 125), .hole (.sl 163), .hole (.int .i64)]), (1, .c (.hole (.str)))], [], []⟩
def o_ref07_Head : List (Ex × Shape) := [(.ret, ⟨slotsOf 1 [(0, .c (.hole (.int .i64)))], [], []⟩)]
def ref07_Head (n : Nat) (x0 : ByteArray × (List (ByteArray × Int × Int × Int × Int × Int × Int × Int × Int × Int × Int)) × (List (ByteArray × ByteArray × Int × Int × Int × Int)) × (List (ByteArray × (List ByteArray) × Int)) × (List (List (Bool × List ByteArray))) × (List (ByteArray × ByteArray × Int)) × Int × ByteArray) : Option (Int) :=
  (iterL (Y := (Int) ⊕ (Unit)) n (fun (x1 : ByteArray × Int × ByteArray × (List (ByteArray × Int × Int × Int × Int × Int × Int × Int × Int × Int × Int)) × (List (ByteArray × ByteArray × Int × Int × Int × Int)) × (List (ByteArray × (List ByteArray) × Int)) × (List (List (Bool × List ByteArray))) × (List (ByteArray × ByteArray × Int)) × Int) =>
    let e0 := x1.2.2.2.1.length
    bif decide (x1.2.1 < ((e0 : Nat) : Int)) then
      bif inB x1.2.1 e0 then
        bif strEq (atI (ByteArray.mk #[], 0, 0, 0, 0, 0, 0, 0, 0, 0, 0) x1.2.2.2.1 x1.2.1).1 x1.1 then
          some (.inr (.inl x1.2.1))
        else
        some (.inl (x1.1, wrap64 (x1.2.1 + 1), x1.2.2))
      else
      none
    else
    some (.inr (.inr ()))) (x0.2.2.2.2.2.2.2, 0, x0.1, x0.2.1, x0.2.2.1, x0.2.2.2.1, x0.2.2.2.2.1, x0.2.2.2.2.2.1, x0.2.2.2.2.2.2.1)).bind (Sum.elim (fun (z2 : Int) =>
    some z2) (fun (z3 : Unit) =>
    some (-1)))
def p_ref07_Head : Plan := .two (.leaf) (.two (.two (.leaf) (.one (.loop ⟨slotsOf 22 [(1, .c (.hole (.str))), (2, .c (.box 2 0)), (5, .c (.hole (.int .i64)))], [(2, 28, [.hole (.str), .hole (.sl 72), .hole (.sl 66), .hole (.sl 111), .hole (.sl 125), .hole (.sl 163), .hole (.int .i64)])], []⟩ [(.ret, ⟨slotsOf 22 [(4, .c (.hole (.int .i64)))], [], []⟩), (.exit 0, ⟨slotsOf 22 [], [], []⟩)] (.leaf)))) (.leaf))
noncomputable def c_ref07_Head (n : Nat) : Cx := ⟨Go.Proofs.Tryz.prog, Θ, [191, 57], [], [], []⟩
theorem d_ref07_Head (n : Nat) (x : h_ref07_Head.X T) : denF (c_ref07_Head n) n Go.Proofs.Tryz.f66 p_ref07_Head h_ref07_Head o_ref07_Head x = ref07_Head n x := by kernel_rfl
theorem s_ref07_Head (n : Nat) : PCalls Go.Proofs.Tryz.prog Θ 66 ⟨h_ref07_Head, o_ref07_Head, ref07_Head n⟩ :=
  func_ok' (C := c_ref07_Head n) (n := n) (p := p_ref07_Head) (ok_of mixed eqsOk trivial trivial trivial) Go.Proofs.Tryz.func66 (by kernel_rfl) (by kernel_rfl) (d_ref07_Head n) (by kernel_rfl)

/-- carrefour/carrefourref07.heads -/
def h_ref07_heads : Shape := ⟨slotsOf 1 [(0, .agg [.hole (.str), .hole (.sl 72), .hole (.sl 66), .hole (.sl 111), .hole (.sl 125), .hole (.sl 163), .hole (.int .i64)])], [], []⟩
def o_ref07_heads : List (Ex × Shape) := [(.ret, ⟨slotsOf 2 [(0, .c (.hole (.int .i64))), (1, .c (.hole (.int .i64)))], [], []⟩)]
def ref07_heads (n : Nat) (x0 : ByteArray × (List (ByteArray × Int × Int × Int × Int × Int × Int × Int × Int × Int × Int)) × (List (ByteArray × ByteArray × Int × Int × Int × Int)) × (List (ByteArray × (List ByteArray) × Int)) × (List (List (Bool × List ByteArray))) × (List (ByteArray × ByteArray × Int)) × Int) : Option (Int × Int) :=
  (iterL (Y := (Int × Int) ⊕ (Unit)) n (fun (x1 : Int × ByteArray × (List (ByteArray × Int × Int × Int × Int × Int × Int × Int × Int × Int × Int)) × (List (ByteArray × ByteArray × Int × Int × Int × Int)) × (List (ByteArray × (List ByteArray) × Int)) × (List (List (Bool × List ByteArray))) × (List (ByteArray × ByteArray × Int)) × Int) =>
    let e0 := x1.2.2.1.length
    let e1 := atI (ByteArray.mk #[], 0, 0, 0, 0, 0, 0, 0, 0, 0, 0) x1.2.2.1 x1.1
    let e2 := e1.2
    let e3 := e1.2.2
    let e4 := e1.2.2.2
    let e5 := e1.2.2.2.2
    let e6 := e1.2.2.2.2.2
    let e7 := e1.2.2.2.2.2.2
    let e8 := e1.2.2.2.2.2.2.2
    let e9 := e1.2.2.2.2.2.2.2.2
    let e10 := e1.2.2.2.2.2.2.2.2.2
    bif decide (x1.1 < ((e0 : Nat) : Int)) then
      bif inB x1.1 e0 then
        (ref07_Head n (x1.2.1, x1.2.2.1, x1.2.2.2.1, x1.2.2.2.2.1, x1.2.2.2.2.2.1, x1.2.2.2.2.2.2.1, x1.2.2.2.2.2.2.2, e1.1)).bind fun y2 =>
        bif decide (y2 < x1.1) then
          some (.inr (.inl (71, e1.2.2.2.2.2.2.2.2.2.2)))
        else
        letJ (fun (x12 : Int × Bool × ByteArray × (List (ByteArray × Int × Int × Int × Int × Int × Int × Int × Int × Int × Int)) × (List (ByteArray × ByteArray × Int × Int × Int × Int)) × (List (ByteArray × (List ByteArray) × Int)) × (List (List (Bool × List ByteArray))) × (List (ByteArray × ByteArray × Int)) × Int × ByteArray × Int × Int × Int × Int × Int × Int × Int × Int × Int × Int) =>
          bif x12.2.1 then
            some (.inr (.inl (70, x12.2.2.2.2.2.2.2.2.2.2.2.2.2.2.2.2.2.2.2)))
          else
          some (.inl (wrap64 (x12.1 + 1), x12.2.2.1, x12.2.2.2.1, x12.2.2.2.2.1, x12.2.2.2.2.2.1, x12.2.2.2.2.2.2.1, x12.2.2.2.2.2.2.2.1, x12.2.2.2.2.2.2.2.2.1))) fun J13 =>
        (ref07_in n (e1.2.1, 0, 1000000000)).bind fun y3 =>
        bif !y3 then
          J13 (x1.1, true, x1.2.1, x1.2.2.1, x1.2.2.2.1, x1.2.2.2.2.1, x1.2.2.2.2.2.1, x1.2.2.2.2.2.2.1, x1.2.2.2.2.2.2.2, e1)
        else
        (ref07_in n (e1.2.2.1, 1, 1000000000)).bind fun y4 =>
        bif !y4 then
          J13 (x1.1, true, x1.2.1, x1.2.2.1, x1.2.2.2.1, x1.2.2.2.2.1, x1.2.2.2.2.2.1, x1.2.2.2.2.2.2.1, x1.2.2.2.2.2.2.2, e1)
        else
        (ref07_in n (e1.2.2.2.1, 1, 1000000000)).bind fun y5 =>
        bif !y5 then
          J13 (x1.1, true, x1.2.1, x1.2.2.1, x1.2.2.2.1, x1.2.2.2.2.1, x1.2.2.2.2.2.1, x1.2.2.2.2.2.2.1, x1.2.2.2.2.2.2.2, e1)
        else
        (ref07_in n (e1.2.2.2.2.1, 1, 1000000000)).bind fun y6 =>
        bif !y6 then
          J13 (x1.1, true, x1.2.1, x1.2.2.1, x1.2.2.2.1, x1.2.2.2.2.1, x1.2.2.2.2.2.1, x1.2.2.2.2.2.2.1, x1.2.2.2.2.2.2.2, e1)
        else
        (ref07_in n (e1.2.2.2.2.2.1, 1, 10000)).bind fun y7 =>
        bif !y7 then
          J13 (x1.1, true, x1.2.1, x1.2.2.1, x1.2.2.2.1, x1.2.2.2.2.1, x1.2.2.2.2.2.1, x1.2.2.2.2.2.2.1, x1.2.2.2.2.2.2.2, e1)
        else
        (ref07_in n (e1.2.2.2.2.2.2.1, (-200), 200)).bind fun y8 =>
        bif !y8 then
          J13 (x1.1, true, x1.2.1, x1.2.2.1, x1.2.2.2.1, x1.2.2.2.2.1, x1.2.2.2.2.2.1, x1.2.2.2.2.2.2.1, x1.2.2.2.2.2.2.2, e1)
        else
        (ref07_in n (e1.2.2.2.2.2.2.2.1, 0, 100000)).bind fun y9 =>
        bif !y9 then
          J13 (x1.1, true, x1.2.1, x1.2.2.1, x1.2.2.2.1, x1.2.2.2.2.1, x1.2.2.2.2.2.1, x1.2.2.2.2.2.2.1, x1.2.2.2.2.2.2.2, e1)
        else
        (ref07_in n (e1.2.2.2.2.2.2.2.2.1, 0, 100000)).bind fun y10 =>
        bif !y10 then
          J13 (x1.1, true, x1.2.1, x1.2.2.1, x1.2.2.2.1, x1.2.2.2.2.1, x1.2.2.2.2.2.1, x1.2.2.2.2.2.2.1, x1.2.2.2.2.2.2.2, e1)
        else
        (ref07_in n (e1.2.2.2.2.2.2.2.2.2.1, 1, 6000)).bind fun y11 =>
        J13 (x1.1, !y11, x1.2.1, x1.2.2.1, x1.2.2.2.1, x1.2.2.2.2.1, x1.2.2.2.2.2.1, x1.2.2.2.2.2.2.1, x1.2.2.2.2.2.2.2, e1)
      else
      none
    else
    some (.inr (.inr ()))) (0, x0)).bind (Sum.elim (fun (z14 : Int × Int) =>
    some z14) (fun (z15 : Unit) =>
    some (0, 0)))
def p_ref07_heads : Plan := .two (.leaf) (.two (.two (.leaf) (.one (.loop ⟨slotsOf 82 [(1, .c (.box 1 0)), (4, .c (.hole (.int .i64)))], [(1, 28, [.hole (.str), .hole (.sl 72), .hole (.sl 66), .hole (.sl 111), .hole (.sl 125), .hole (.sl 163), .hole (.int .i64)])], []⟩ [(.ret, ⟨slotsOf 82 [(2, .c (.hole (.int .i64))), (3, .c (.hole (.int .i64)))], [], []⟩), (.exit 0, ⟨slotsOf 82 [], [], []⟩)] (.two (.leaf) (.two (.one (.two (.leaf) (.two (.leaf) (.two (.join ⟨slotsOf 82 [(1, .c (.box 1 0)), (4, .c (.hole (.int .i64))), (5, .c (.box 5 0)), (79, .c (.hole (.bool)))], [(1, 28, [.hole (.str), .hole (.sl 72), .hole (.sl 66), .hole (.sl 111), .hole (.sl 125), .hole (.sl 163), .hole (.int .i64)]), (5, 72, [.hole (.str), .hole (.int .i64), .hole (.int .i64), .hole (.int .i64), .hole (.int .i64), .hole (.int .i64), .hole (.int .i64), .hole (.int .i64), .hole (.int .i64), .hole (.int .i64), .hole (.int .i64)])], []⟩ (.leaf)) (.leaf))))) (.leaf)))))) (.leaf))
noncomputable def c_ref07_heads (n : Nat) : Cx := ⟨Go.Proofs.Tryz.prog, Θ, [191, 57], [(28, ⟨h_ref07_in, o_ref07_in, ref07_in n⟩), (66, ⟨h_ref07_Head, o_ref07_Head, ref07_Head n⟩)], [], []⟩
theorem d_ref07_heads (n : Nat) (x : h_ref07_heads.X T) : denF (c_ref07_heads n) n Go.Proofs.Tryz.f61 p_ref07_heads h_ref07_heads o_ref07_heads x = ref07_heads n x := by kernel_rfl
theorem s_ref07_heads (n : Nat) : PCalls Go.Proofs.Tryz.prog Θ 61 ⟨h_ref07_heads, o_ref07_heads, ref07_heads n⟩ :=
  func_ok' (C := c_ref07_heads n) (n := n) (p := p_ref07_heads) (ok_of mixed eqsOk ⟨s_ref07_in n, s_ref07_Head n, trivial⟩ trivial trivial) Go.Proofs.Tryz.func61 (by kernel_rfl) (by kernel_rfl) (d_ref07_heads n) (by kernel_rfl)

/-- carrefour/carrefourref07.Phase -/
def h_ref07_Phase : Shape := ⟨slotsOf 2 [(0, .agg [.hole (.str), .hole (.sl 72), .hole (.sl 66), .hole (.sl 111), .hole (.sl 125), .hole (.sl 163), .hole (.int .i64)]), (1, .c (.hole (.str)))], [], []⟩
def o_ref07_Phase : List (Ex × Shape) := [(.ret, ⟨slotsOf 1 [(0, .c (.hole (.int .i64)))], [], []⟩)]
def ref07_Phase (n : Nat) (x0 : ByteArray × (List (ByteArray × Int × Int × Int × Int × Int × Int × Int × Int × Int × Int)) × (List (ByteArray × ByteArray × Int × Int × Int × Int)) × (List (ByteArray × (List ByteArray) × Int)) × (List (List (Bool × List ByteArray))) × (List (ByteArray × ByteArray × Int)) × Int × ByteArray) : Option (Int) :=
  (iterL (Y := (Int) ⊕ (Unit)) n (fun (x1 : ByteArray × Int × ByteArray × (List (ByteArray × Int × Int × Int × Int × Int × Int × Int × Int × Int × Int)) × (List (ByteArray × ByteArray × Int × Int × Int × Int)) × (List (ByteArray × (List ByteArray) × Int)) × (List (List (Bool × List ByteArray))) × (List (ByteArray × ByteArray × Int)) × Int) =>
    let e0 := x1.2.2.2.2.2.1.length
    bif decide (x1.2.1 < ((e0 : Nat) : Int)) then
      bif inB x1.2.1 e0 then
        bif strEq (atI (ByteArray.mk #[], [], 0) x1.2.2.2.2.2.1 x1.2.1).1 x1.1 then
          some (.inr (.inl x1.2.1))
        else
        some (.inl (x1.1, wrap64 (x1.2.1 + 1), x1.2.2))
      else
      none
    else
    some (.inr (.inr ()))) (x0.2.2.2.2.2.2.2, 0, x0.1, x0.2.1, x0.2.2.1, x0.2.2.2.1, x0.2.2.2.2.1, x0.2.2.2.2.2.1, x0.2.2.2.2.2.2.1)).bind (Sum.elim (fun (z2 : Int) =>
    some z2) (fun (z3 : Unit) =>
    some (-1)))
def p_ref07_Phase : Plan := .two (.leaf) (.two (.two (.leaf) (.one (.loop ⟨slotsOf 22 [(1, .c (.hole (.str))), (2, .c (.box 2 0)), (5, .c (.hole (.int .i64)))], [(2, 28, [.hole (.str), .hole (.sl 72), .hole (.sl 66), .hole (.sl 111), .hole (.sl 125), .hole (.sl 163), .hole (.int .i64)])], []⟩ [(.ret, ⟨slotsOf 22 [(4, .c (.hole (.int .i64)))], [], []⟩), (.exit 0, ⟨slotsOf 22 [], [], []⟩)] (.leaf)))) (.leaf))
noncomputable def c_ref07_Phase (n : Nat) : Cx := ⟨Go.Proofs.Tryz.prog, Θ, [191, 57], [], [], []⟩
theorem d_ref07_Phase (n : Nat) (x : h_ref07_Phase.X T) : denF (c_ref07_Phase n) n Go.Proofs.Tryz.f98 p_ref07_Phase h_ref07_Phase o_ref07_Phase x = ref07_Phase n x := by kernel_rfl
theorem s_ref07_Phase (n : Nat) : PCalls Go.Proofs.Tryz.prog Θ 98 ⟨h_ref07_Phase, o_ref07_Phase, ref07_Phase n⟩ :=
  func_ok' (C := c_ref07_Phase n) (n := n) (p := p_ref07_Phase) (ok_of mixed eqsOk trivial trivial trivial) Go.Proofs.Tryz.func98 (by kernel_rfl) (by kernel_rfl) (d_ref07_Phase n) (by kernel_rfl)

/-- carrefour/carrefourref04.In -/
def h_ref04_In : Shape := ⟨slotsOf 2 [(0, .c (.hole (.str))), (1, .c (.hole (.sl 9)))], [], []⟩
def o_ref04_In : List (Ex × Shape) := [(.ret, ⟨slotsOf 1 [(0, .c (.hole (.bool)))], [], []⟩)]
def ref04_In (n : Nat) (x0 : ByteArray × List ByteArray) : Option (Bool) :=
  (iterL (Y := (Bool) ⊕ (Unit)) n (fun (x1 : ByteArray × (List ByteArray) × Int) =>
    let e0 := x1.2.1.length
    bif decide (x1.2.2 < ((e0 : Nat) : Int)) then
      bif inB x1.2.2 e0 then
        bif strEq (atI (ByteArray.mk #[]) x1.2.1 x1.2.2) x1.1 then
          some (.inr (.inl true))
        else
        some (.inl (x1.1, x1.2.1, wrap64 (x1.2.2 + 1)))
      else
      none
    else
    some (.inr (.inr ()))) (x0.1, x0.2, 0)).bind (Sum.elim (fun (z2 : Bool) =>
    some z2) (fun (z3 : Unit) =>
    some false))
def p_ref04_In : Plan := .two (.leaf) (.two (.two (.leaf) (.one (.loop ⟨slotsOf 18 [(0, .c (.hole (.str))), (1, .c (.hole (.sl 9))), (5, .c (.hole (.int .i64)))], [], []⟩ [(.ret, ⟨slotsOf 18 [(4, .c (.hole (.bool)))], [], []⟩), (.exit 0, ⟨slotsOf 18 [], [], []⟩)] (.leaf)))) (.leaf))
noncomputable def c_ref04_In (n : Nat) : Cx := ⟨Go.Proofs.Tryz.prog, Θ, [191, 57], [], [], []⟩
theorem d_ref04_In (n : Nat) (x : h_ref04_In.X T) : denF (c_ref04_In n) n Go.Proofs.Tryz.f53 p_ref04_In h_ref04_In o_ref04_In x = ref04_In n x := by kernel_rfl
theorem s_ref04_In (n : Nat) : PCalls Go.Proofs.Tryz.prog Θ 53 ⟨h_ref04_In, o_ref04_In, ref04_In n⟩ :=
  func_ok' (C := c_ref04_In n) (n := n) (p := p_ref04_In) (ok_of mixed eqsOk trivial trivial trivial) Go.Proofs.Tryz.func53 (by kernel_rfl) (by kernel_rfl) (d_ref04_In n) (by kernel_rfl)

/-- carrefour/carrefourref07.Home -/
def h_ref07_Home : Shape := ⟨slotsOf 2 [(0, .agg [.hole (.str), .hole (.sl 72), .hole (.sl 66), .hole (.sl 111), .hole (.sl 125), .hole (.sl 163), .hole (.int .i64)]), (1, .c (.hole (.str)))], [], []⟩
def o_ref07_Home : List (Ex × Shape) := [(.ret, ⟨slotsOf 1 [(0, .c (.hole (.int .i64)))], [], []⟩)]
def ref07_Home (n : Nat) (x0 : ByteArray × (List (ByteArray × Int × Int × Int × Int × Int × Int × Int × Int × Int × Int)) × (List (ByteArray × ByteArray × Int × Int × Int × Int)) × (List (ByteArray × (List ByteArray) × Int)) × (List (List (Bool × List ByteArray))) × (List (ByteArray × ByteArray × Int)) × Int × ByteArray) : Option (Int) :=
  (iterL (Y := (Int) ⊕ (Unit)) n (fun (x1 : ByteArray × Int × ByteArray × (List (ByteArray × Int × Int × Int × Int × Int × Int × Int × Int × Int × Int)) × (List (ByteArray × ByteArray × Int × Int × Int × Int)) × (List (ByteArray × (List ByteArray) × Int)) × (List (List (Bool × List ByteArray))) × (List (ByteArray × ByteArray × Int)) × Int) =>
    let e0 := x1.2.2.2.2.2.1.length
    bif decide (x1.2.1 < ((e0 : Nat) : Int)) then
      bif inB x1.2.1 e0 then
        (ref04_In n (x1.1, (atI (ByteArray.mk #[], [], 0) x1.2.2.2.2.2.1 x1.2.1).2.1)).bind fun y2 =>
        bif y2 then
          some (.inr (.inl x1.2.1))
        else
        some (.inl (x1.1, wrap64 (x1.2.1 + 1), x1.2.2))
      else
      none
    else
    some (.inr (.inr ()))) (x0.2.2.2.2.2.2.2, 0, x0.1, x0.2.1, x0.2.2.1, x0.2.2.2.1, x0.2.2.2.2.1, x0.2.2.2.2.2.1, x0.2.2.2.2.2.2.1)).bind (Sum.elim (fun (z3 : Int) =>
    some z3) (fun (z4 : Unit) =>
    some (-1)))
def p_ref07_Home : Plan := .two (.leaf) (.two (.two (.leaf) (.one (.loop ⟨slotsOf 22 [(1, .c (.hole (.str))), (2, .c (.box 2 0)), (5, .c (.hole (.int .i64)))], [(2, 28, [.hole (.str), .hole (.sl 72), .hole (.sl 66), .hole (.sl 111), .hole (.sl 125), .hole (.sl 163), .hole (.int .i64)])], []⟩ [(.ret, ⟨slotsOf 22 [(4, .c (.hole (.int .i64)))], [], []⟩), (.exit 0, ⟨slotsOf 22 [], [], []⟩)] (.leaf)))) (.leaf))
noncomputable def c_ref07_Home (n : Nat) : Cx := ⟨Go.Proofs.Tryz.prog, Θ, [191, 57], [(53, ⟨h_ref04_In, o_ref04_In, ref04_In n⟩)], [], []⟩
theorem d_ref07_Home (n : Nat) (x : h_ref07_Home.X T) : denF (c_ref07_Home n) n Go.Proofs.Tryz.f19 p_ref07_Home h_ref07_Home o_ref07_Home x = ref07_Home n x := by kernel_rfl
theorem s_ref07_Home (n : Nat) : PCalls Go.Proofs.Tryz.prog Θ 19 ⟨h_ref07_Home, o_ref07_Home, ref07_Home n⟩ :=
  func_ok' (C := c_ref07_Home n) (n := n) (p := p_ref07_Home) (ok_of mixed eqsOk ⟨s_ref04_In n, trivial⟩ trivial trivial) Go.Proofs.Tryz.func19 (by kernel_rfl) (by kernel_rfl) (d_ref07_Home n) (by kernel_rfl)

/-- carrefour/carrefourref07.phases -/
def h_ref07_phases : Shape := ⟨slotsOf 1 [(0, .agg [.hole (.str), .hole (.sl 72), .hole (.sl 66), .hole (.sl 111), .hole (.sl 125), .hole (.sl 163), .hole (.int .i64)])], [], []⟩
def o_ref07_phases : List (Ex × Shape) := [(.ret, ⟨slotsOf 2 [(0, .c (.hole (.int .i64))), (1, .c (.hole (.int .i64)))], [], []⟩)]
def ref07_phases (n : Nat) (x0 : ByteArray × (List (ByteArray × Int × Int × Int × Int × Int × Int × Int × Int × Int × Int)) × (List (ByteArray × ByteArray × Int × Int × Int × Int)) × (List (ByteArray × (List ByteArray) × Int)) × (List (List (Bool × List ByteArray))) × (List (ByteArray × ByteArray × Int)) × Int) : Option (Int × Int) :=
  (iterL (Y := (Int × Int) ⊕ (ByteArray × (List (ByteArray × Int × Int × Int × Int × Int × Int × Int × Int × Int × Int)) × (List (ByteArray × ByteArray × Int × Int × Int × Int)) × (List (ByteArray × (List ByteArray) × Int)) × (List (List (Bool × List ByteArray))) × (List (ByteArray × ByteArray × Int)) × Int)) n (fun (x1 : Int × ByteArray × (List (ByteArray × Int × Int × Int × Int × Int × Int × Int × Int × Int × Int)) × (List (ByteArray × ByteArray × Int × Int × Int × Int)) × (List (ByteArray × (List ByteArray) × Int)) × (List (List (Bool × List ByteArray))) × (List (ByteArray × ByteArray × Int)) × Int) =>
    let e0 := x1.2.2.2.2.1.length
    let e1 := atI (ByteArray.mk #[], [], 0) x1.2.2.2.2.1 x1.1
    bif decide (x1.1 < ((e0 : Nat) : Int)) then
      bif inB x1.1 e0 then
        (ref07_Phase n (x1.2.1, x1.2.2.1, x1.2.2.2.1, x1.2.2.2.2.1, x1.2.2.2.2.2.1, x1.2.2.2.2.2.2.1, x1.2.2.2.2.2.2.2, e1.1)).bind fun y2 =>
        bif decide (y2 < x1.1) then
          some (.inr (.inl (71, e1.2.2)))
        else
        (iterL (Y := (Int × Int) ⊕ (Int × ByteArray × (List (ByteArray × Int × Int × Int × Int × Int × Int × Int × Int × Int × Int)) × (List (ByteArray × ByteArray × Int × Int × Int × Int)) × (List (ByteArray × (List ByteArray) × Int)) × (List (List (Bool × List ByteArray))) × (List (ByteArray × ByteArray × Int)) × Int × ByteArray × (List ByteArray) × Int)) n (fun (x3 : Int × Int × ByteArray × (List (ByteArray × Int × Int × Int × Int × Int × Int × Int × Int × Int × Int)) × (List (ByteArray × ByteArray × Int × Int × Int × Int)) × (List (ByteArray × (List ByteArray) × Int)) × (List (List (Bool × List ByteArray))) × (List (ByteArray × ByteArray × Int)) × Int × ByteArray × (List ByteArray) × Int) =>
          let e2 := x3.2.2.2.2.2.2.2.2.2.2.1.length
          let e3 := inB x3.2.1 e2
          let e4 := atI (ByteArray.mk #[]) x3.2.2.2.2.2.2.2.2.2.2.1 x3.2.1
          bif decide (x3.2.1 < ((e2 : Nat) : Int)) then
            bif e3 then
              (ref07_Head n (x3.2.2.1, x3.2.2.2.1, x3.2.2.2.2.1, x3.2.2.2.2.2.1, x3.2.2.2.2.2.2.1, x3.2.2.2.2.2.2.2.1, x3.2.2.2.2.2.2.2.2.1, e4)).bind fun y4 =>
              bif decide (y4 < 0) then
                some (.inr (.inl (72, x3.2.2.2.2.2.2.2.2.2.2.2)))
              else
              letJ (fun (x7 : Int × Int × Bool × ByteArray × (List (ByteArray × Int × Int × Int × Int × Int × Int × Int × Int × Int × Int)) × (List (ByteArray × ByteArray × Int × Int × Int × Int)) × (List (ByteArray × (List ByteArray) × Int)) × (List (List (Bool × List ByteArray))) × (List (ByteArray × ByteArray × Int)) × Int × ByteArray × (List ByteArray) × Int) =>
                bif x7.2.2.1 then
                  some (.inr (.inl (71, x7.2.2.2.2.2.2.2.2.2.2.2.2)))
                else
                some (.inl (x7.1, wrap64 (x7.2.1 + 1), x7.2.2.2))) fun J8 =>
              bif e3 then
                (ref07_Home n (x3.2.2.1, x3.2.2.2.1, x3.2.2.2.2.1, x3.2.2.2.2.2.1, x3.2.2.2.2.2.2.1, x3.2.2.2.2.2.2.2.1, x3.2.2.2.2.2.2.2.2.1, e4)).bind fun y5 =>
                bif decide (y5 < x3.1) then
                  J8 (x3.1, x3.2.1, true, x3.2.2)
                else
                bif e3 then
                  bif cutOk none (some x3.2.1) e2 then
                    (ref04_In n (e4, cutList none (some x3.2.1) x3.2.2.2.2.2.2.2.2.2.2.1)).bind fun y6 =>
                    J8 (x3.1, x3.2.1, y6, x3.2.2)
                  else
                  none
                else
                none
              else
              none
            else
            none
          else
          some (.inr (.inr (x3.1, x3.2.2)))) (x1.1, 0, x1.2.1, x1.2.2.1, x1.2.2.2.1, x1.2.2.2.2.1, x1.2.2.2.2.2.1, x1.2.2.2.2.2.2.1, x1.2.2.2.2.2.2.2, e1)).bind (Sum.elim (fun (z9 : Int × Int) =>
          some (.inr (.inl z9))) (fun (z10 : Int × ByteArray × (List (ByteArray × Int × Int × Int × Int × Int × Int × Int × Int × Int × Int)) × (List (ByteArray × ByteArray × Int × Int × Int × Int)) × (List (ByteArray × (List ByteArray) × Int)) × (List (List (Bool × List ByteArray))) × (List (ByteArray × ByteArray × Int)) × Int × ByteArray × (List ByteArray) × Int) =>
          bif ((z10.2.2.2.2.2.2.2.2.2.1.length : Nat) : Int) == 0 then
            some (.inr (.inl (73, z10.2.2.2.2.2.2.2.2.2.2)))
          else
          some (.inl (wrap64 (z10.1 + 1), z10.2.1, z10.2.2.1, z10.2.2.2.1, z10.2.2.2.2.1, z10.2.2.2.2.2.1, z10.2.2.2.2.2.2.1, z10.2.2.2.2.2.2.2.1))))
      else
      none
    else
    some (.inr (.inr x1.2))) (0, x0)).bind (Sum.elim (fun (z11 : Int × Int) =>
    some z11) (fun (z12 : ByteArray × (List (ByteArray × Int × Int × Int × Int × Int × Int × Int × Int × Int × Int)) × (List (ByteArray × ByteArray × Int × Int × Int × Int)) × (List (ByteArray × (List ByteArray) × Int)) × (List (List (Bool × List ByteArray))) × (List (ByteArray × ByteArray × Int)) × Int) =>
    (iterL (Y := (Int × Int) ⊕ (Unit)) n (fun (x13 : Int × ByteArray × (List (ByteArray × Int × Int × Int × Int × Int × Int × Int × Int × Int × Int)) × (List (ByteArray × ByteArray × Int × Int × Int × Int)) × (List (ByteArray × (List ByteArray) × Int)) × (List (List (Bool × List ByteArray))) × (List (ByteArray × ByteArray × Int)) × Int) =>
      let e5 := x13.2.2.1.length
      let e6 := inB x13.1 e5
      let e7 := atI (ByteArray.mk #[], 0, 0, 0, 0, 0, 0, 0, 0, 0, 0) x13.2.2.1 x13.1
      bif decide (x13.1 < ((e5 : Nat) : Int)) then
        bif e6 then
          (ref07_Home n (x13.2.1, x13.2.2.1, x13.2.2.2.1, x13.2.2.2.2.1, x13.2.2.2.2.2.1, x13.2.2.2.2.2.2.1, x13.2.2.2.2.2.2.2, e7.1)).bind fun y14 =>
          bif decide (y14 < 0) then
            bif e6 then
              some (.inr (.inl (73, e7.2.2.2.2.2.2.2.2.2.2)))
            else
            none
          else
          some (.inl (wrap64 (x13.1 + 1), x13.2))
        else
        none
      else
      some (.inr (.inr ()))) (0, z12)).bind (Sum.elim (fun (z15 : Int × Int) =>
      some z15) (fun (z16 : Unit) =>
      some (0, 0)))))
def p_ref07_phases : Plan := .two (.leaf) (.two (.two (.leaf) (.one (.loop ⟨slotsOf 96 [(1, .c (.box 1 0)), (4, .c (.hole (.int .i64)))], [(1, 28, [.hole (.str), .hole (.sl 72), .hole (.sl 66), .hole (.sl 111), .hole (.sl 125), .hole (.sl 163), .hole (.int .i64)])], []⟩ [(.ret, ⟨slotsOf 96 [(2, .c (.hole (.int .i64))), (3, .c (.hole (.int .i64)))], [], []⟩), (.exit 0, ⟨slotsOf 96 [(1, .c (.box 1 0))], [(1, 28, [.hole (.str), .hole (.sl 72), .hole (.sl 66), .hole (.sl 111), .hole (.sl 125), .hole (.sl 163), .hole (.int .i64)])], []⟩)] (.two (.leaf) (.two (.one (.two (.leaf) (.two (.leaf) (.two (.two (.leaf) (.one (.loop ⟨slotsOf 96 [(1, .c (.box 1 0)), (4, .c (.hole (.int .i64))), (5, .c (.box 5 0)), (6, .c (.hole (.int .i64)))], [(1, 28, [.hole (.str), .hole (.sl 72), .hole (.sl 66), .hole (.sl 111), .hole (.sl 125), .hole (.sl 163), .hole (.int .i64)]), (5, 111, [.hole (.str), .hole (.sl 9), .hole (.int .i64)])], []⟩ [(.ret, ⟨slotsOf 96 [(2, .c (.hole (.int .i64))), (3, .c (.hole (.int .i64)))], [], []⟩), (.exit 2, ⟨slotsOf 96 [(1, .c (.box 1 0)), (4, .c (.hole (.int .i64))), (5, .c (.box 5 0))], [(1, 28, [.hole (.str), .hole (.sl 72), .hole (.sl 66), .hole (.sl 111), .hole (.sl 125), .hole (.sl 163), .hole (.int .i64)]), (5, 111, [.hole (.str), .hole (.sl 9), .hole (.int .i64)])], []⟩)] (.two (.leaf) (.two (.one (.two (.leaf) (.two (.join ⟨slotsOf 96 [(1, .c (.box 1 0)), (4, .c (.hole (.int .i64))), (5, .c (.box 5 0)), (6, .c (.hole (.int .i64))), (65, .c (.hole (.bool)))], [(1, 28, [.hole (.str), .hole (.sl 72), .hole (.sl 66), .hole (.sl 111), .hole (.sl 125), .hole (.sl 163), .hole (.int .i64)]), (5, 111, [.hole (.str), .hole (.sl 9), .hole (.int .i64)])], []⟩ (.leaf)) (.leaf)))) (.leaf)))))) (.leaf))))) (.leaf)))))) (.two (.two (.leaf) (.one (.loop ⟨slotsOf 96 [(1, .c (.box 1 0)), (7, .c (.hole (.int .i64)))], [(1, 28, [.hole (.str), .hole (.sl 72), .hole (.sl 66), .hole (.sl 111), .hole (.sl 125), .hole (.sl 163), .hole (.int .i64)])], []⟩ [(.ret, ⟨slotsOf 96 [(2, .c (.hole (.int .i64))), (3, .c (.hole (.int .i64)))], [], []⟩), (.exit 4, ⟨slotsOf 96 [], [], []⟩)] (.leaf)))) (.leaf)))
noncomputable def c_ref07_phases (n : Nat) : Cx := ⟨Go.Proofs.Tryz.prog, Θ, [191, 57], [(66, ⟨h_ref07_Head, o_ref07_Head, ref07_Head n⟩), (98, ⟨h_ref07_Phase, o_ref07_Phase, ref07_Phase n⟩), (53, ⟨h_ref04_In, o_ref04_In, ref04_In n⟩), (19, ⟨h_ref07_Home, o_ref07_Home, ref07_Home n⟩)], [], []⟩
theorem d_ref07_phases (n : Nat) (x : h_ref07_phases.X T) : denF (c_ref07_phases n) n Go.Proofs.Tryz.f62 p_ref07_phases h_ref07_phases o_ref07_phases x = ref07_phases n x := by kernel_rfl
theorem s_ref07_phases (n : Nat) : PCalls Go.Proofs.Tryz.prog Θ 62 ⟨h_ref07_phases, o_ref07_phases, ref07_phases n⟩ :=
  func_ok' (C := c_ref07_phases n) (n := n) (p := p_ref07_phases) (ok_of mixed eqsOk ⟨s_ref07_Head n, s_ref07_Phase n, s_ref04_In n, s_ref07_Home n, trivial⟩ trivial trivial) Go.Proofs.Tryz.func62 (by kernel_rfl) (by kernel_rfl) (d_ref07_phases n) (by kernel_rfl)

/-- carrefour/carrefourref07.walks -/
def h_ref07_walks : Shape := ⟨slotsOf 1 [(0, .agg [.hole (.str), .hole (.sl 72), .hole (.sl 66), .hole (.sl 111), .hole (.sl 125), .hole (.sl 163), .hole (.int .i64)])], [], []⟩
def o_ref07_walks : List (Ex × Shape) := [(.ret, ⟨slotsOf 2 [(0, .c (.hole (.int .i64))), (1, .c (.hole (.int .i64)))], [], []⟩)]
def ref07_walks (n : Nat) (x0 : ByteArray × (List (ByteArray × Int × Int × Int × Int × Int × Int × Int × Int × Int × Int)) × (List (ByteArray × ByteArray × Int × Int × Int × Int)) × (List (ByteArray × (List ByteArray) × Int)) × (List (List (Bool × List ByteArray))) × (List (ByteArray × ByteArray × Int)) × Int) : Option (Int × Int) :=
  (iterL (Y := (Int × Int) ⊕ (Unit)) n (fun (x1 : Int × ByteArray × (List (ByteArray × Int × Int × Int × Int × Int × Int × Int × Int × Int × Int)) × (List (ByteArray × ByteArray × Int × Int × Int × Int)) × (List (ByteArray × (List ByteArray) × Int)) × (List (List (Bool × List ByteArray))) × (List (ByteArray × ByteArray × Int)) × Int) =>
    let e0 := x1.2.2.2.1.length
    bif decide (x1.1 < ((e0 : Nat) : Int)) then
      bif inB x1.1 e0 then
        (iterL (Y := (Int × Int) ⊕ (Int × ByteArray × (List (ByteArray × Int × Int × Int × Int × Int × Int × Int × Int × Int × Int)) × (List (ByteArray × ByteArray × Int × Int × Int × Int)) × (List (ByteArray × (List ByteArray) × Int)) × (List (List (Bool × List ByteArray))) × (List (ByteArray × ByteArray × Int)) × Int × ByteArray × ByteArray × Int × Int × Int × Int)) n (fun (x2 : Int × Int × ByteArray × (List (ByteArray × Int × Int × Int × Int × Int × Int × Int × Int × Int × Int)) × (List (ByteArray × ByteArray × Int × Int × Int × Int)) × (List (ByteArray × (List ByteArray) × Int)) × (List (List (Bool × List ByteArray))) × (List (ByteArray × ByteArray × Int)) × Int × ByteArray × ByteArray × Int × Int × Int × Int) =>
          bif decide (x2.2.1 < x2.1) then
            bif inB x2.2.1 x2.2.2.2.2.1.length then
              bif strEq (atI (ByteArray.mk #[], ByteArray.mk #[], 0, 0, 0, 0) x2.2.2.2.2.1 x2.2.1).1 x2.2.2.2.2.2.2.2.2.2.1 then
                some (.inr (.inl (71, x2.2.2.2.2.2.2.2.2.2.2.2.2.2.2)))
              else
              some (.inl (x2.1, wrap64 (x2.2.1 + 1), x2.2.2))
            else
            none
          else
          some (.inr (.inr (x2.1, x2.2.2)))) (x1.1, 0, x1.2.1, x1.2.2.1, x1.2.2.2.1, x1.2.2.2.2.1, x1.2.2.2.2.2.1, x1.2.2.2.2.2.2.1, x1.2.2.2.2.2.2.2, atI (ByteArray.mk #[], ByteArray.mk #[], 0, 0, 0, 0) x1.2.2.2.1 x1.1)).bind (Sum.elim (fun (z3 : Int × Int) =>
          some (.inr (.inl z3))) (fun (z4 : Int × ByteArray × (List (ByteArray × Int × Int × Int × Int × Int × Int × Int × Int × Int × Int)) × (List (ByteArray × ByteArray × Int × Int × Int × Int)) × (List (ByteArray × (List ByteArray) × Int)) × (List (List (Bool × List ByteArray))) × (List (ByteArray × ByteArray × Int)) × Int × ByteArray × ByteArray × Int × Int × Int × Int) =>
          (ref07_Phase n (z4.2.1, z4.2.2.1, z4.2.2.2.1, z4.2.2.2.2.1, z4.2.2.2.2.2.1, z4.2.2.2.2.2.2.1, z4.2.2.2.2.2.2.2.1, z4.2.2.2.2.2.2.2.2.2.1)).bind fun y5 =>
          bif decide (y5 < 0) then
            some (.inr (.inl (72, z4.2.2.2.2.2.2.2.2.2.2.2.2.2)))
          else
          letJ (fun (x9 : Int × Bool × ByteArray × (List (ByteArray × Int × Int × Int × Int × Int × Int × Int × Int × Int × Int)) × (List (ByteArray × ByteArray × Int × Int × Int × Int)) × (List (ByteArray × (List ByteArray) × Int)) × (List (List (Bool × List ByteArray))) × (List (ByteArray × ByteArray × Int)) × Int × ByteArray × ByteArray × Int × Int × Int × Int) =>
            bif x9.2.1 then
              some (.inr (.inl (70, x9.2.2.2.2.2.2.2.2.2.2.2.2.2.2)))
            else
            some (.inl (wrap64 (x9.1 + 1), x9.2.2.1, x9.2.2.2.1, x9.2.2.2.2.1, x9.2.2.2.2.2.1, x9.2.2.2.2.2.2.1, x9.2.2.2.2.2.2.2.1, x9.2.2.2.2.2.2.2.2.1))) fun J10 =>
          (ref07_in n (z4.2.2.2.2.2.2.2.2.2.2.1, 1, 100000)).bind fun y6 =>
          bif !y6 then
            J10 (z4.1, true, z4.2)
          else
          (ref07_in n (z4.2.2.2.2.2.2.2.2.2.2.2.1, 1, 10000)).bind fun y7 =>
          bif !y7 then
            J10 (z4.1, true, z4.2)
          else
          (ref07_in n (z4.2.2.2.2.2.2.2.2.2.2.2.2.1, 1, 6000)).bind fun y8 =>
          J10 (z4.1, !y8, z4.2)))
      else
      none
    else
    some (.inr (.inr ()))) (0, x0)).bind (Sum.elim (fun (z11 : Int × Int) =>
    some z11) (fun (z12 : Unit) =>
    some (0, 0)))
def p_ref07_walks : Plan := .two (.leaf) (.two (.two (.leaf) (.one (.loop ⟨slotsOf 60 [(1, .c (.box 1 0)), (4, .c (.hole (.int .i64)))], [(1, 28, [.hole (.str), .hole (.sl 72), .hole (.sl 66), .hole (.sl 111), .hole (.sl 125), .hole (.sl 163), .hole (.int .i64)])], []⟩ [(.ret, ⟨slotsOf 60 [(2, .c (.hole (.int .i64))), (3, .c (.hole (.int .i64)))], [], []⟩), (.exit 0, ⟨slotsOf 60 [], [], []⟩)] (.two (.leaf) (.two (.one (.two (.leaf) (.two (.two (.leaf) (.one (.loop ⟨slotsOf 60 [(1, .c (.box 1 0)), (4, .c (.hole (.int .i64))), (5, .c (.box 5 0)), (6, .c (.hole (.int .i64)))], [(1, 28, [.hole (.str), .hole (.sl 72), .hole (.sl 66), .hole (.sl 111), .hole (.sl 125), .hole (.sl 163), .hole (.int .i64)]), (5, 66, [.hole (.str), .hole (.str), .hole (.int .i64), .hole (.int .i64), .hole (.int .i64), .hole (.int .i64)])], []⟩ [(.ret, ⟨slotsOf 60 [(2, .c (.hole (.int .i64))), (3, .c (.hole (.int .i64)))], [], []⟩), (.exit 2, ⟨slotsOf 60 [(1, .c (.box 1 0)), (4, .c (.hole (.int .i64))), (5, .c (.box 5 0))], [(1, 28, [.hole (.str), .hole (.sl 72), .hole (.sl 66), .hole (.sl 111), .hole (.sl 125), .hole (.sl 163), .hole (.int .i64)]), (5, 66, [.hole (.str), .hole (.str), .hole (.int .i64), .hole (.int .i64), .hole (.int .i64), .hole (.int .i64)])], []⟩)] (.leaf)))) (.two (.leaf) (.two (.join ⟨slotsOf 60 [(1, .c (.box 1 0)), (4, .c (.hole (.int .i64))), (5, .c (.box 5 0)), (57, .c (.hole (.bool)))], [(1, 28, [.hole (.str), .hole (.sl 72), .hole (.sl 66), .hole (.sl 111), .hole (.sl 125), .hole (.sl 163), .hole (.int .i64)]), (5, 66, [.hole (.str), .hole (.str), .hole (.int .i64), .hole (.int .i64), .hole (.int .i64), .hole (.int .i64)])], []⟩ (.leaf)) (.leaf)))))) (.leaf)))))) (.leaf))
noncomputable def c_ref07_walks (n : Nat) : Cx := ⟨Go.Proofs.Tryz.prog, Θ, [191, 57], [(28, ⟨h_ref07_in, o_ref07_in, ref07_in n⟩), (98, ⟨h_ref07_Phase, o_ref07_Phase, ref07_Phase n⟩)], [], []⟩
theorem d_ref07_walks (n : Nat) (x : h_ref07_walks.X T) : denF (c_ref07_walks n) n Go.Proofs.Tryz.f63 p_ref07_walks h_ref07_walks o_ref07_walks x = ref07_walks n x := by kernel_rfl
theorem s_ref07_walks (n : Nat) : PCalls Go.Proofs.Tryz.prog Θ 63 ⟨h_ref07_walks, o_ref07_walks, ref07_walks n⟩ :=
  func_ok' (C := c_ref07_walks n) (n := n) (p := p_ref07_walks) (ok_of mixed eqsOk ⟨s_ref07_in n, s_ref07_Phase n, trivial⟩ trivial trivial) Go.Proofs.Tryz.func63 (by kernel_rfl) (by kernel_rfl) (d_ref07_walks n) (by kernel_rfl)

/-- carrefour/carrefourref07.rings -/
def h_ref07_rings : Shape := ⟨slotsOf 1 [(0, .agg [.hole (.str), .hole (.sl 72), .hole (.sl 66), .hole (.sl 111), .hole (.sl 125), .hole (.sl 163), .hole (.int .i64)])], [], []⟩
def o_ref07_rings : List (Ex × Shape) := [(.ret, ⟨slotsOf 2 [(0, .c (.hole (.int .i64))), (1, .c (.hole (.int .i64)))], [], []⟩)]
def ref07_rings (n : Nat) (x0 : ByteArray × (List (ByteArray × Int × Int × Int × Int × Int × Int × Int × Int × Int × Int)) × (List (ByteArray × ByteArray × Int × Int × Int × Int)) × (List (ByteArray × (List ByteArray) × Int)) × (List (List (Bool × List ByteArray))) × (List (ByteArray × ByteArray × Int)) × Int) : Option (Int × Int) :=
  (iterL (Y := (Int × Int) ⊕ (ByteArray × (List (ByteArray × Int × Int × Int × Int × Int × Int × Int × Int × Int × Int)) × (List (ByteArray × ByteArray × Int × Int × Int × Int)) × (List (ByteArray × (List ByteArray) × Int)) × (List (List (Bool × List ByteArray))) × (List (ByteArray × ByteArray × Int)) × Int × List ByteArray)) n (fun (x25 : Int × ByteArray × (List (ByteArray × Int × Int × Int × Int × Int × Int × Int × Int × Int × Int)) × (List (ByteArray × ByteArray × Int × Int × Int × Int)) × (List (ByteArray × (List ByteArray) × Int)) × (List (List (Bool × List ByteArray))) × (List (ByteArray × ByteArray × Int)) × Int × List ByteArray) =>
    let e0 := x25.2.2.2.2.2.1.length
    let e1 := atI [] x25.2.2.2.2.2.1 x25.1
    let e2 := ((e1.length : Nat) : Int)
    bif decide (x25.1 < ((e0 : Nat) : Int)) then
      bif inB x25.1 e0 then
        letJ (fun (x26 : Int × (List (Bool × List ByteArray)) × Bool × ByteArray × (List (ByteArray × Int × Int × Int × Int × Int × Int × Int × Int × Int × Int)) × (List (ByteArray × ByteArray × Int × Int × Int × Int)) × (List (ByteArray × (List ByteArray) × Int)) × (List (List (Bool × List ByteArray))) × (List (ByteArray × ByteArray × Int)) × Int × List ByteArray) =>
          bif x26.2.2.1 then
            some (.inr (.inl (74, x26.2.2.2.2.2.2.2.2.2.1)))
          else
          (iterL (Y := (Int × Int) ⊕ (Int × ByteArray × (List (ByteArray × Int × Int × Int × Int × Int × Int × Int × Int × Int × Int)) × (List (ByteArray × ByteArray × Int × Int × Int × Int)) × (List (ByteArray × (List ByteArray) × Int)) × (List (List (Bool × List ByteArray))) × (List (ByteArray × ByteArray × Int)) × Int × List ByteArray)) n (fun (x28 : Int × (List (Bool × List ByteArray)) × Int × ByteArray × (List (ByteArray × Int × Int × Int × Int × Int × Int × Int × Int × Int × Int)) × (List (ByteArray × ByteArray × Int × Int × Int × Int)) × (List (ByteArray × (List ByteArray) × Int)) × (List (List (Bool × List ByteArray))) × (List (ByteArray × ByteArray × Int)) × Int × List ByteArray) =>
            let e3 := x28.2.1.length
            let e4 := inB x28.2.2.1 e3
            let e5 := ((List.length (atI (false, []) x28.2.1 x28.2.2.1).2 : Nat) : Int)
            bif decide (x28.2.2.1 < ((e3 : Nat) : Int)) then
              letJ (fun (x29 : Int × (List (Bool × List ByteArray)) × Int × Bool × ByteArray × (List (ByteArray × Int × Int × Int × Int × Int × Int × Int × Int × Int × Int)) × (List (ByteArray × ByteArray × Int × Int × Int × Int)) × (List (ByteArray × (List ByteArray) × Int)) × (List (List (Bool × List ByteArray))) × (List (ByteArray × ByteArray × Int)) × Int × List ByteArray) =>
                bif x29.2.2.2.1 then
                  some (.inr (.inl (74, x29.2.2.2.2.2.2.2.2.2.2.1)))
                else
                (iterL (Y := (Int × Int) ⊕ (Int × (List (Bool × List ByteArray)) × Int × ByteArray × (List (ByteArray × Int × Int × Int × Int × Int × Int × Int × Int × Int × Int)) × (List (ByteArray × ByteArray × Int × Int × Int × Int)) × (List (ByteArray × (List ByteArray) × Int)) × (List (List (Bool × List ByteArray))) × (List (ByteArray × ByteArray × Int)) × Int × List ByteArray)) n (fun (x31 : Int × (List (Bool × List ByteArray)) × Int × Int × ByteArray × (List (ByteArray × Int × Int × Int × Int × Int × Int × Int × Int × Int × Int)) × (List (ByteArray × ByteArray × Int × Int × Int × Int)) × (List (ByteArray × (List ByteArray) × Int)) × (List (List (Bool × List ByteArray))) × (List (ByteArray × ByteArray × Int)) × Int × List ByteArray) =>
                  let e6 := inB x31.2.2.1 x31.2.1.length
                  let e7 := (atI (false, []) x31.2.1 x31.2.2.1).2
                  let e8 := e7.length
                  let e9 := atI (ByteArray.mk #[]) e7 x31.2.2.2.1
                  let e10 := e9 :: []
                  bif e6 then
                    bif decide (x31.2.2.2.1 < ((e8 : Nat) : Int)) then
                      bif e6 then
                        bif inB x31.2.2.2.1 e8 then
                          (ref07_Phase n (x31.2.2.2.2.1, x31.2.2.2.2.2.1, x31.2.2.2.2.2.2.1, x31.2.2.2.2.2.2.2.1, x31.2.2.2.2.2.2.2.2.1, x31.2.2.2.2.2.2.2.2.2.1, x31.2.2.2.2.2.2.2.2.2.2.1, e9)).bind fun y32 =>
                          bif decide (y32 < 0) then
                            some (.inr (.inl (72, x31.2.2.2.2.2.2.2.2.2.2.1)))
                          else
                          (ref04_In n (e9, x31.2.2.2.2.2.2.2.2.2.2.2)).bind fun y33 =>
                          bif y33 then
                            some (.inr (.inl (71, x31.2.2.2.2.2.2.2.2.2.2.1)))
                          else
                          bif fitB (x31.2.2.2.2.2.2.2.2.2.2.2.length + e10.length) 16 then
                            some (.inl (x31.1, x31.2.1, x31.2.2.1, wrap64 (x31.2.2.2.1 + 1), x31.2.2.2.2.1, x31.2.2.2.2.2.1, x31.2.2.2.2.2.2.1, x31.2.2.2.2.2.2.2.1, x31.2.2.2.2.2.2.2.2.1, x31.2.2.2.2.2.2.2.2.2.1, x31.2.2.2.2.2.2.2.2.2.2.1, x31.2.2.2.2.2.2.2.2.2.2.2 ++ e10))
                          else
                          none
                        else
                        none
                      else
                      none
                    else
                    some (.inr (.inr (x31.1, x31.2.1, x31.2.2.1, x31.2.2.2.2)))
                  else
                  none) (x29.1, x29.2.1, x29.2.2.1, 0, x29.2.2.2.2)).bind (Sum.elim (fun (z34 : Int × Int) =>
                  some (.inr (.inl z34))) (fun (z35 : Int × (List (Bool × List ByteArray)) × Int × ByteArray × (List (ByteArray × Int × Int × Int × Int × Int × Int × Int × Int × Int × Int)) × (List (ByteArray × ByteArray × Int × Int × Int × Int)) × (List (ByteArray × (List ByteArray) × Int)) × (List (List (Bool × List ByteArray))) × (List (ByteArray × ByteArray × Int)) × Int × List ByteArray) =>
                  some (.inl (z35.1, z35.2.1, wrap64 (z35.2.2.1 + 1), z35.2.2.2))))) fun J30 =>
              bif e4 then
                bif decide (e5 < 1) then
                  J30 (x28.1, x28.2.1, x28.2.2.1, true, x28.2.2.2)
                else
                bif e4 then
                  J30 (x28.1, x28.2.1, x28.2.2.1, decide (4 < e5), x28.2.2.2)
                else
                none
              else
              none
            else
            some (.inr (.inr (x28.1, x28.2.2.2)))) (x26.1, x26.2.1, 0, x26.2.2.2)).bind (Sum.elim (fun (z36 : Int × Int) =>
            some (.inr (.inl z36))) (fun (z37 : Int × ByteArray × (List (ByteArray × Int × Int × Int × Int × Int × Int × Int × Int × Int × Int)) × (List (ByteArray × ByteArray × Int × Int × Int × Int)) × (List (ByteArray × (List ByteArray) × Int)) × (List (List (Bool × List ByteArray))) × (List (ByteArray × ByteArray × Int)) × Int × List ByteArray) =>
            some (.inl (wrap64 (z37.1 + 1), z37.2))))) fun J27 =>
        bif decide (e2 < 1) then
          J27 (x25.1, e1, true, x25.2)
        else
        J27 (x25.1, e1, decide (2 < e2), x25.2)
      else
      none
    else
    some (.inr (.inr x25.2))) (0, x0.1, x0.2.1, x0.2.2.1, x0.2.2.2.1, x0.2.2.2.2.1, x0.2.2.2.2.2.1, x0.2.2.2.2.2.2, [])).bind (Sum.elim (fun (z38 : Int × Int) =>
    some z38) (fun (z39 : ByteArray × (List (ByteArray × Int × Int × Int × Int × Int × Int × Int × Int × Int × Int)) × (List (ByteArray × ByteArray × Int × Int × Int × Int)) × (List (ByteArray × (List ByteArray) × Int)) × (List (List (Bool × List ByteArray))) × (List (ByteArray × ByteArray × Int)) × Int × List ByteArray) =>
    (iterL (Y := (Int × Int) ⊕ (Unit)) n (fun (x40 : Int × ByteArray × (List (ByteArray × Int × Int × Int × Int × Int × Int × Int × Int × Int × Int)) × (List (ByteArray × ByteArray × Int × Int × Int × Int)) × (List (ByteArray × (List ByteArray) × Int)) × (List (List (Bool × List ByteArray))) × (List (ByteArray × ByteArray × Int)) × Int × List ByteArray) =>
      let e11 := x40.2.2.2.2.1.length
      let e12 := inB x40.1 e11
      let e13 := atI (ByteArray.mk #[], [], 0) x40.2.2.2.2.1 x40.1
      bif decide (x40.1 < ((e11 : Nat) : Int)) then
        bif e12 then
          (ref04_In n (e13.1, x40.2.2.2.2.2.2.2.2)).bind fun y41 =>
          bif !y41 then
            bif e12 then
              some (.inr (.inl (74, e13.2.2)))
            else
            none
          else
          some (.inl (wrap64 (x40.1 + 1), x40.2))
        else
        none
      else
      some (.inr (.inr ()))) (0, z39)).bind (Sum.elim (fun (z42 : Int × Int) =>
      some z42) (fun (z43 : Unit) =>
      some (0, 0)))))
def p_ref07_rings : Plan := .two (.leaf) (.two (.leaf) (.two (.two (.leaf) (.one (.loop ⟨slotsOf 113 [(1, .c (.box 1 0)), (4, .c (.row 90)), (5, .c (.hole (.int .i64)))], [(1, 28, [.hole (.str), .hole (.sl 72), .hole (.sl 66), .hole (.sl 111), .hole (.sl 125), .hole (.sl 163), .hole (.int .i64)])], [(90, 9)]⟩ [(.ret, ⟨slotsOf 113 [(2, .c (.hole (.int .i64))), (3, .c (.hole (.int .i64)))], [], []⟩), (.exit 0, ⟨slotsOf 113 [(1, .c (.box 1 0)), (4, .c (.row 90))], [(1, 28, [.hole (.str), .hole (.sl 72), .hole (.sl 66), .hole (.sl 111), .hole (.sl 125), .hole (.sl 163), .hole (.int .i64)])], [(90, 9)]⟩)] (.two (.leaf) (.two (.one (.two (.leaf) (.two (.two (.join ⟨slotsOf 113 [(1, .c (.box 1 0)), (4, .c (.row 90)), (5, .c (.hole (.int .i64))), (6, .c (.hole (.sl 127))), (31, .c (.hole (.bool)))], [(1, 28, [.hole (.str), .hole (.sl 72), .hole (.sl 66), .hole (.sl 111), .hole (.sl 125), .hole (.sl 163), .hole (.int .i64)])], [(90, 9)]⟩ (.leaf)) (.leaf)) (.two (.leaf) (.one (.loop ⟨slotsOf 113 [(1, .c (.box 1 0)), (4, .c (.row 90)), (5, .c (.hole (.int .i64))), (6, .c (.hole (.sl 127))), (7, .c (.hole (.int .i64)))], [(1, 28, [.hole (.str), .hole (.sl 72), .hole (.sl 66), .hole (.sl 111), .hole (.sl 125), .hole (.sl 163), .hole (.int .i64)])], [(90, 9)]⟩ [(.ret, ⟨slotsOf 113 [(2, .c (.hole (.int .i64))), (3, .c (.hole (.int .i64)))], [], []⟩), (.exit 2, ⟨slotsOf 113 [(1, .c (.box 1 0)), (4, .c (.row 90)), (5, .c (.hole (.int .i64)))], [(1, 28, [.hole (.str), .hole (.sl 72), .hole (.sl 66), .hole (.sl 111), .hole (.sl 125), .hole (.sl 163), .hole (.int .i64)])], [(90, 9)]⟩)] (.two (.leaf) (.two (.one (.two (.two (.join ⟨slotsOf 113 [(1, .c (.box 1 0)), (4, .c (.row 90)), (5, .c (.hole (.int .i64))), (6, .c (.hole (.sl 127))), (7, .c (.hole (.int .i64))), (55, .c (.hole (.bool)))], [(1, 28, [.hole (.str), .hole (.sl 72), .hole (.sl 66), .hole (.sl 111), .hole (.sl 125), .hole (.sl 163), .hole (.int .i64)])], [(90, 9)]⟩ (.leaf)) (.leaf)) (.two (.leaf) (.one (.loop ⟨slotsOf 113 [(1, .c (.box 1 0)), (4, .c (.row 90)), (5, .c (.hole (.int .i64))), (6, .c (.hole (.sl 127))), (7, .c (.hole (.int .i64))), (8, .c (.hole (.int .i64)))], [(1, 28, [.hole (.str), .hole (.sl 72), .hole (.sl 66), .hole (.sl 111), .hole (.sl 125), .hole (.sl 163), .hole (.int .i64)])], [(90, 9)]⟩ [(.ret, ⟨slotsOf 113 [(2, .c (.hole (.int .i64))), (3, .c (.hole (.int .i64)))], [], []⟩), (.exit 4, ⟨slotsOf 113 [(1, .c (.box 1 0)), (4, .c (.row 90)), (5, .c (.hole (.int .i64))), (6, .c (.hole (.sl 127))), (7, .c (.hole (.int .i64)))], [(1, 28, [.hole (.str), .hole (.sl 72), .hole (.sl 66), .hole (.sl 111), .hole (.sl 125), .hole (.sl 163), .hole (.int .i64)])], [(90, 9)]⟩)] (.leaf)))))) (.leaf))))))))) (.leaf)))))) (.two (.two (.leaf) (.one (.loop ⟨slotsOf 113 [(1, .c (.box 1 0)), (4, .c (.row 90)), (10, .c (.hole (.int .i64)))], [(1, 28, [.hole (.str), .hole (.sl 72), .hole (.sl 66), .hole (.sl 111), .hole (.sl 125), .hole (.sl 163), .hole (.int .i64)])], [(90, 9)]⟩ [(.ret, ⟨slotsOf 113 [(2, .c (.hole (.int .i64))), (3, .c (.hole (.int .i64)))], [], []⟩), (.exit 6, ⟨slotsOf 113 [], [], []⟩)] (.leaf)))) (.leaf))))
noncomputable def c_ref07_rings (n : Nat) : Cx := ⟨Go.Proofs.Tryz.prog, Θ, [191, 57], [(98, ⟨h_ref07_Phase, o_ref07_Phase, ref07_Phase n⟩), (53, ⟨h_ref04_In, o_ref04_In, ref04_In n⟩)], [], []⟩
theorem d_ref07_rings (n : Nat) (x : h_ref07_rings.X T) : denF (c_ref07_rings n) n Go.Proofs.Tryz.f64 p_ref07_rings h_ref07_rings o_ref07_rings x = ref07_rings n x := by kernel_rfl
theorem s_ref07_rings (n : Nat) : PCalls Go.Proofs.Tryz.prog Θ 64 ⟨h_ref07_rings, o_ref07_rings, ref07_rings n⟩ :=
  func_ok' (C := c_ref07_rings n) (n := n) (p := p_ref07_rings) (ok_of mixed eqsOk ⟨s_ref07_Phase n, s_ref04_In n, trivial⟩ trivial trivial) Go.Proofs.Tryz.func64 (by kernel_rfl) (by kernel_rfl) (d_ref07_rings n) (by kernel_rfl)

/-- carrefour/carrefourref07.foes -/
def h_ref07_foes : Shape := ⟨slotsOf 1 [(0, .agg [.hole (.str), .hole (.sl 72), .hole (.sl 66), .hole (.sl 111), .hole (.sl 125), .hole (.sl 163), .hole (.int .i64)])], [], []⟩
def o_ref07_foes : List (Ex × Shape) := [(.ret, ⟨slotsOf 2 [(0, .c (.hole (.int .i64))), (1, .c (.hole (.int .i64)))], [], []⟩)]
def ref07_foes (n : Nat) (x0 : ByteArray × (List (ByteArray × Int × Int × Int × Int × Int × Int × Int × Int × Int × Int)) × (List (ByteArray × ByteArray × Int × Int × Int × Int)) × (List (ByteArray × (List ByteArray) × Int)) × (List (List (Bool × List ByteArray))) × (List (ByteArray × ByteArray × Int)) × Int) : Option (Int × Int) :=
  (iterL (Y := (Int × Int) ⊕ (Unit)) n (fun (x1 : Int × ByteArray × (List (ByteArray × Int × Int × Int × Int × Int × Int × Int × Int × Int × Int)) × (List (ByteArray × ByteArray × Int × Int × Int × Int)) × (List (ByteArray × (List ByteArray) × Int)) × (List (List (Bool × List ByteArray))) × (List (ByteArray × ByteArray × Int)) × Int) =>
    let e0 := x1.2.2.2.2.2.2.1.length
    let e1 := atI (ByteArray.mk #[], ByteArray.mk #[], 0) x1.2.2.2.2.2.2.1 x1.1
    bif decide (x1.1 < ((e0 : Nat) : Int)) then
      bif inB x1.1 e0 then
        letJ (fun (x4 : Int × Bool × ByteArray × (List (ByteArray × Int × Int × Int × Int × Int × Int × Int × Int × Int × Int)) × (List (ByteArray × ByteArray × Int × Int × Int × Int)) × (List (ByteArray × (List ByteArray) × Int)) × (List (List (Bool × List ByteArray))) × (List (ByteArray × ByteArray × Int)) × Int × ByteArray × ByteArray × Int) =>
          bif x4.2.1 then
            some (.inr (.inl (72, x4.2.2.2.2.2.2.2.2.2.2.2)))
          else
          letJ (fun (x8 : Int × Bool × ByteArray × (List (ByteArray × Int × Int × Int × Int × Int × Int × Int × Int × Int × Int)) × (List (ByteArray × ByteArray × Int × Int × Int × Int)) × (List (ByteArray × (List ByteArray) × Int)) × (List (List (Bool × List ByteArray))) × (List (ByteArray × ByteArray × Int)) × Int × ByteArray × ByteArray × Int) =>
            bif x8.2.1 then
              some (.inr (.inl (75, x8.2.2.2.2.2.2.2.2.2.2.2)))
            else
            some (.inl (wrap64 (x8.1 + 1), x8.2.2.1, x8.2.2.2.1, x8.2.2.2.2.1, x8.2.2.2.2.2.1, x8.2.2.2.2.2.2.1, x8.2.2.2.2.2.2.2.1, x8.2.2.2.2.2.2.2.2.1))) fun J9 =>
          bif strEq x4.2.2.2.2.2.2.2.2.2.1 x4.2.2.2.2.2.2.2.2.2.2.1 then
            J9 (x4.1, true, x4.2.2)
          else
          (ref07_Home n (x4.2.2.1, x4.2.2.2.1, x4.2.2.2.2.1, x4.2.2.2.2.2.1, x4.2.2.2.2.2.2.1, x4.2.2.2.2.2.2.2.1, x4.2.2.2.2.2.2.2.2.1, x4.2.2.2.2.2.2.2.2.2.1)).bind fun y6 =>
          (ref07_Home n (x4.2.2.1, x4.2.2.2.1, x4.2.2.2.2.1, x4.2.2.2.2.2.1, x4.2.2.2.2.2.2.1, x4.2.2.2.2.2.2.2.1, x4.2.2.2.2.2.2.2.2.1, x4.2.2.2.2.2.2.2.2.2.2.1)).bind fun y7 =>
          J9 (x4.1, y6 == y7, x4.2.2)) fun J5 =>
        (ref07_Head n (x1.2.1, x1.2.2.1, x1.2.2.2.1, x1.2.2.2.2.1, x1.2.2.2.2.2.1, x1.2.2.2.2.2.2.1, x1.2.2.2.2.2.2.2, e1.1)).bind fun y2 =>
        bif decide (y2 < 0) then
          J5 (x1.1, true, x1.2.1, x1.2.2.1, x1.2.2.2.1, x1.2.2.2.2.1, x1.2.2.2.2.2.1, x1.2.2.2.2.2.2.1, x1.2.2.2.2.2.2.2, e1)
        else
        (ref07_Head n (x1.2.1, x1.2.2.1, x1.2.2.2.1, x1.2.2.2.2.1, x1.2.2.2.2.2.1, x1.2.2.2.2.2.2.1, x1.2.2.2.2.2.2.2, e1.2.1)).bind fun y3 =>
        J5 (x1.1, decide (y3 < 0), x1.2.1, x1.2.2.1, x1.2.2.2.1, x1.2.2.2.2.1, x1.2.2.2.2.2.1, x1.2.2.2.2.2.2.1, x1.2.2.2.2.2.2.2, e1)
      else
      none
    else
    some (.inr (.inr ()))) (0, x0)).bind (Sum.elim (fun (z10 : Int × Int) =>
    some z10) (fun (z11 : Unit) =>
    some (0, 0)))
def p_ref07_foes : Plan := .two (.leaf) (.two (.two (.leaf) (.one (.loop ⟨slotsOf 50 [(1, .c (.box 1 0)), (4, .c (.hole (.int .i64)))], [(1, 28, [.hole (.str), .hole (.sl 72), .hole (.sl 66), .hole (.sl 111), .hole (.sl 125), .hole (.sl 163), .hole (.int .i64)])], []⟩ [(.ret, ⟨slotsOf 50 [(2, .c (.hole (.int .i64))), (3, .c (.hole (.int .i64)))], [], []⟩), (.exit 0, ⟨slotsOf 50 [], [], []⟩)] (.two (.leaf) (.two (.one (.two (.leaf) (.two (.two (.join ⟨slotsOf 50 [(1, .c (.box 1 0)), (4, .c (.hole (.int .i64))), (5, .c (.box 5 0)), (29, .c (.hole (.bool)))], [(1, 28, [.hole (.str), .hole (.sl 72), .hole (.sl 66), .hole (.sl 111), .hole (.sl 125), .hole (.sl 163), .hole (.int .i64)]), (5, 163, [.hole (.str), .hole (.str), .hole (.int .i64)])], []⟩ (.leaf)) (.leaf)) (.two (.join ⟨slotsOf 50 [(1, .c (.box 1 0)), (4, .c (.hole (.int .i64))), (5, .c (.box 5 0)), (47, .c (.hole (.bool)))], [(1, 28, [.hole (.str), .hole (.sl 72), .hole (.sl 66), .hole (.sl 111), .hole (.sl 125), .hole (.sl 163), .hole (.int .i64)]), (5, 163, [.hole (.str), .hole (.str), .hole (.int .i64)])], []⟩ (.leaf)) (.leaf))))) (.leaf)))))) (.leaf))
noncomputable def c_ref07_foes (n : Nat) : Cx := ⟨Go.Proofs.Tryz.prog, Θ, [191, 57], [(66, ⟨h_ref07_Head, o_ref07_Head, ref07_Head n⟩), (19, ⟨h_ref07_Home, o_ref07_Home, ref07_Home n⟩)], [], []⟩
theorem d_ref07_foes (n : Nat) (x : h_ref07_foes.X T) : denF (c_ref07_foes n) n Go.Proofs.Tryz.f65 p_ref07_foes h_ref07_foes o_ref07_foes x = ref07_foes n x := by kernel_rfl
theorem s_ref07_foes (n : Nat) : PCalls Go.Proofs.Tryz.prog Θ 65 ⟨h_ref07_foes, o_ref07_foes, ref07_foes n⟩ :=
  func_ok' (C := c_ref07_foes n) (n := n) (p := p_ref07_foes) (ok_of mixed eqsOk ⟨s_ref07_Head n, s_ref07_Home n, trivial⟩ trivial trivial) Go.Proofs.Tryz.func65 (by kernel_rfl) (by kernel_rfl) (d_ref07_foes n) (by kernel_rfl)

/-- carrefour/carrefourref07.node -/
def h_ref07_node : Shape := ⟨slotsOf 1 [(0, .agg [.hole (.str), .hole (.sl 72), .hole (.sl 66), .hole (.sl 111), .hole (.sl 125), .hole (.sl 163), .hole (.int .i64)])], [], []⟩
def o_ref07_node : List (Ex × Shape) := [(.ret, ⟨slotsOf 2 [(0, .c (.hole (.int .i64))), (1, .c (.hole (.int .i64)))], [], []⟩)]
def ref07_node (n : Nat) (x0 : ByteArray × (List (ByteArray × Int × Int × Int × Int × Int × Int × Int × Int × Int × Int)) × (List (ByteArray × ByteArray × Int × Int × Int × Int)) × (List (ByteArray × (List ByteArray) × Int)) × (List (List (Bool × List ByteArray))) × (List (ByteArray × ByteArray × Int)) × Int) : Option (Int × Int) :=
  letJ (fun (x1 : Bool × ByteArray × (List (ByteArray × Int × Int × Int × Int × Int × Int × Int × Int × Int × Int)) × (List (ByteArray × ByteArray × Int × Int × Int × Int)) × (List (ByteArray × (List ByteArray) × Int)) × (List (List (Bool × List ByteArray))) × (List (ByteArray × ByteArray × Int)) × Int) =>
    bif x1.1 then
      some (4, x1.2.2.2.2.2.2.2)
    else
    letJ (fun (x3 : Bool × ByteArray × (List (ByteArray × Int × Int × Int × Int × Int × Int × Int × Int × Int × Int)) × (List (ByteArray × ByteArray × Int × Int × Int × Int)) × (List (ByteArray × (List ByteArray) × Int)) × (List (List (Bool × List ByteArray))) × (List (ByteArray × ByteArray × Int)) × Int) =>
      bif x3.1 then
        some (73, x3.2.2.2.2.2.2.2)
      else
      (ref07_heads n x3.2).bind fun y5 =>
      letJ (fun (x7 : Int × Int × ByteArray × (List (ByteArray × Int × Int × Int × Int × Int × Int × Int × Int × Int × Int)) × (List (ByteArray × ByteArray × Int × Int × Int × Int)) × (List (ByteArray × (List ByteArray) × Int)) × (List (List (Bool × List ByteArray))) × (List (ByteArray × ByteArray × Int)) × Int) =>
        letJ (fun (x10 : Int × Int × ByteArray × (List (ByteArray × Int × Int × Int × Int × Int × Int × Int × Int × Int × Int)) × (List (ByteArray × ByteArray × Int × Int × Int × Int)) × (List (ByteArray × (List ByteArray) × Int)) × (List (List (Bool × List ByteArray))) × (List (ByteArray × ByteArray × Int)) × Int) =>
          letJ (fun (x13 : Int × Int × ByteArray × (List (ByteArray × Int × Int × Int × Int × Int × Int × Int × Int × Int × Int)) × (List (ByteArray × ByteArray × Int × Int × Int × Int)) × (List (ByteArray × (List ByteArray) × Int)) × (List (List (Bool × List ByteArray))) × (List (ByteArray × ByteArray × Int)) × Int) =>
            bif x13.1 == 0 then
              (ref07_foes n x13.2.2).bind fun y15 =>
              some y15
            else
            some (x13.1, x13.2.1)) fun J14 =>
          bif x10.1 == 0 then
            (ref07_rings n x10.2.2).bind fun y12 =>
            J14 (y12.1, y12.2, x10.2.2)
          else
          J14 x10) fun J11 =>
        bif x7.1 == 0 then
          (ref07_walks n x7.2.2).bind fun y9 =>
          J11 (y9.1, y9.2, x7.2.2)
        else
        J11 x7) fun J8 =>
      bif y5.1 == 0 then
        (ref07_phases n x3.2).bind fun y6 =>
        J8 (y6.1, y6.2, x3.2)
      else
      J8 (y5.1, y5.2, x3.2)) fun J4 =>
    bif ((x1.2.2.1.length : Nat) : Int) == 0 then
      J4 (true, x1.2)
    else
    bif ((x1.2.2.2.2.1.length : Nat) : Int) == 0 then
      J4 (true, x1.2)
    else
    J4 (((x1.2.2.2.2.2.1.length : Nat) : Int) == 0, x1.2)) fun J2 =>
  bif decide (16 < ((x0.2.1.length : Nat) : Int)) then
    J2 (true, x0)
  else
  bif decide (16 < ((x0.2.2.2.1.length : Nat) : Int)) then
    J2 (true, x0)
  else
  bif decide (8 < ((x0.2.2.1.length : Nat) : Int)) then
    J2 (true, x0)
  else
  bif decide (4 < ((x0.2.2.2.2.1.length : Nat) : Int)) then
    J2 (true, x0)
  else
  J2 (decide (64 < ((x0.2.2.2.2.2.1.length : Nat) : Int)), x0)
def p_ref07_node : Plan := .two (.leaf) (.two (.two (.join ⟨slotsOf 89 [(1, .c (.box 1 0)), (33, .c (.hole (.bool)))], [(1, 28, [.hole (.str), .hole (.sl 72), .hole (.sl 66), .hole (.sl 111), .hole (.sl 125), .hole (.sl 163), .hole (.int .i64)])], []⟩ (.leaf)) (.leaf)) (.two (.two (.join ⟨slotsOf 89 [(1, .c (.box 1 0)), (51, .c (.hole (.bool)))], [(1, 28, [.hole (.str), .hole (.sl 72), .hole (.sl 66), .hole (.sl 111), .hole (.sl 125), .hole (.sl 163), .hole (.int .i64)])], []⟩ (.leaf)) (.leaf)) (.two (.leaf) (.two (.join ⟨slotsOf 89 [(1, .c (.box 1 0)), (4, .c (.hole (.int .i64))), (5, .c (.hole (.int .i64)))], [(1, 28, [.hole (.str), .hole (.sl 72), .hole (.sl 66), .hole (.sl 111), .hole (.sl 125), .hole (.sl 163), .hole (.int .i64)])], []⟩ (.leaf)) (.two (.join ⟨slotsOf 89 [(1, .c (.box 1 0)), (4, .c (.hole (.int .i64))), (5, .c (.hole (.int .i64)))], [(1, 28, [.hole (.str), .hole (.sl 72), .hole (.sl 66), .hole (.sl 111), .hole (.sl 125), .hole (.sl 163), .hole (.int .i64)])], []⟩ (.leaf)) (.two (.join ⟨slotsOf 89 [(1, .c (.box 1 0)), (4, .c (.hole (.int .i64))), (5, .c (.hole (.int .i64)))], [(1, 28, [.hole (.str), .hole (.sl 72), .hole (.sl 66), .hole (.sl 111), .hole (.sl 125), .hole (.sl 163), .hole (.int .i64)])], []⟩ (.leaf)) (.leaf)))))))
noncomputable def c_ref07_node (n : Nat) : Cx := ⟨Go.Proofs.Tryz.prog, Θ, [191, 57], [(61, ⟨h_ref07_heads, o_ref07_heads, ref07_heads n⟩), (62, ⟨h_ref07_phases, o_ref07_phases, ref07_phases n⟩), (63, ⟨h_ref07_walks, o_ref07_walks, ref07_walks n⟩), (64, ⟨h_ref07_rings, o_ref07_rings, ref07_rings n⟩), (65, ⟨h_ref07_foes, o_ref07_foes, ref07_foes n⟩)], [], []⟩
theorem d_ref07_node (n : Nat) (x : h_ref07_node.X T) : denF (c_ref07_node n) n Go.Proofs.Tryz.f30 p_ref07_node h_ref07_node o_ref07_node x = ref07_node n x := by kernel_rfl
theorem s_ref07_node (n : Nat) : PCalls Go.Proofs.Tryz.prog Θ 30 ⟨h_ref07_node, o_ref07_node, ref07_node n⟩ :=
  func_ok' (C := c_ref07_node n) (n := n) (p := p_ref07_node) (ok_of mixed eqsOk ⟨s_ref07_heads n, s_ref07_phases n, s_ref07_walks n, s_ref07_rings n, s_ref07_foes n, trivial⟩ trivial trivial) Go.Proofs.Tryz.func30 (by kernel_rfl) (by kernel_rfl) (d_ref07_node n) (by kernel_rfl)

end Go.Proofs.YtakkhnoelnpfdaaGreat.Fn
