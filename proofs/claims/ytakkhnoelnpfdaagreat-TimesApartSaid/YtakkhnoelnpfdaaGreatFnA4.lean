/- Functions of the program, each as a plain function, and that the machine does what it says. -/
import Derived.Test.YtakkhnoelnpfdaaGreatFnA3
namespace Go.Proofs.YtakkhnoelnpfdaaGreat.Fn
set_option linter.unusedVariables false
set_option maxRecDepth 100000
open Go Go.RowKit Go.Den
/-- slices.Clone[[]carrefour/circle.piece,carrefour/circle.piece] -/
def h_slices_Clone_piece : Shape := ⟨slotsOf 1 [(0, .c (.hole (.sl 191)))], [], []⟩
def o_slices_Clone_piece : List (Ex × Shape) := [(.ret, ⟨slotsOf 1 [(0, .c (.row 0))], [], [(0, 191)]⟩)]
noncomputable def slices_Clone_piece (n : Nat) (x0 : List (Int × Int)) : Option (List (Int × Int)) :=
  let e0 := fitB x0.length 16
  bif List.isEmpty x0 then
    both (
      some []) (
      bif e0 then
        some x0
      else
      none)
  else
    bif e0 then
      some x0
    else
    none
def p_slices_Clone_piece : Plan := .leaf
noncomputable def c_slices_Clone_piece (n : Nat) : Cx := ⟨Go.Proofs.Tryz.prog, Θ, [191, 57], [], [], []⟩
theorem d_slices_Clone_piece (n : Nat) (x : h_slices_Clone_piece.X T) : denF (c_slices_Clone_piece n) n Go.Proofs.Tryz.f118 p_slices_Clone_piece h_slices_Clone_piece o_slices_Clone_piece x = slices_Clone_piece n x := by kernel_rfl
theorem s_slices_Clone_piece (n : Nat) : PCalls Go.Proofs.Tryz.prog Θ 118 ⟨h_slices_Clone_piece, o_slices_Clone_piece, slices_Clone_piece n⟩ :=
  func_ok' (C := c_slices_Clone_piece n) (n := n) (p := p_slices_Clone_piece) (ok_of mixed eqsOk trivial trivial trivial) Go.Proofs.Tryz.func118 (by kernel_rfl) (by kernel_rfl) (d_slices_Clone_piece n) (by kernel_rfl)

/-- carrefour/circle.arcs -/
def h_circle_arcs : Shape := ⟨slotsOf 2 [(0, .c (.hole (.int .i64))), (1, .c (.hole (.sl 191)))], [], []⟩
def o_circle_arcs : List (Ex × Shape) := [(.ret, ⟨slotsOf 1 [(0, .c (.row 0))], [], [(0, 57)]⟩)]
noncomputable def circle_arcs (n : Nat) (x0 : Int × List (Int × Int)) : Option (List (Int × Int)) :=
  let e0 := x0.2.length
  let e1 := ((e0 : Nat) : Int)
  let e2 := wrap64 (e1 - 1)
  bif e1 == 0 then
    some []
  else
  letJ (fun (x4 : List (Int × Int)) =>
    (iterL (Y := (List (Int × Int))) n (fun (x7 : (List (Int × Int)) × Int × Int × List (Int × Int)) =>
      let e3 := atI (0, 0) x7.1 x7.2.2.1
      let e4 := e3.1
      let e5 := (e4, wrap64 (e3.2 - e4)) :: []
      bif decide (x7.2.2.1 < x7.2.1) then
        bif inB x7.2.2.1 x7.1.length then
          bif fitB (x7.2.2.2.length + e5.length) 16 then
            some (.inl (x7.1, x7.2.1, wrap64 (x7.2.2.1 + 1), x7.2.2.2 ++ e5))
          else
          none
        else
        none
      else
      some (.inr x7.2.2.2)) (x4, ((x4.length : Nat) : Int), 0, [])).bind fun (z8 : List (Int × Int)) =>
      some z8) fun J5 =>
  letJ (fun (x1 : Int × (List (Int × Int)) × Int × Bool) =>
    let e6 := x1.2.1.length
    let e7 := ((atI (0, 0) x1.2.1 x1.2.2.1).1, wrap64 (x1.1 + (atI (0, 0) x1.2.1 0).2)) :: []
    bif x1.2.2.2 then
      bif cutOk (some 1) (some x1.2.2.1) e6 then
        (slices_Clone_piece n (cutList (some 1) (some x1.2.2.1) x1.2.1)).bind fun y3 =>
        bif inB x1.2.2.1 e6 then
          bif inB 0 e6 then
            bif fitB (y3.length + e7.length) 16 then
              J5 (y3 ++ e7)
            else
            none
          else
          none
        else
        none
      else
      none
    else
    J5 x1.2.1) fun J2 =>
  bif decide (0 < e2) then
    bif inB 0 e0 then
      bif (atI (0, 0) x0.2 0).1 == 0 then
        bif inB e2 e0 then
          J2 (x0.1, x0.2, e2, (atI (0, 0) x0.2 e2).2 == x0.1)
        else
        none
      else
      J2 (x0.1, x0.2, e2, false)
    else
    none
  else
  J2 (x0.1, x0.2, e2, false)
def p_circle_arcs : Plan := .two (.leaf) (.two (.leaf) (.two (.leaf) (.two (.join ⟨slotsOf 70 [(1, .c (.hole (.sl 191)))], [], []⟩ (.two (.join ⟨slotsOf 70 [(0, .c (.hole (.int .i64))), (1, .c (.hole (.sl 191))), (5, .c (.hole (.int .i64))), (32, .c (.hole (.bool)))], [], []⟩ (.leaf)) (.leaf))) (.two (.leaf) (.two (.two (.leaf) (.one (.loop ⟨slotsOf 70 [(6, .c (.row 67)), (51, .c (.hole (.sl 191))), (52, .c (.hole (.int .i64))), (53, .c (.hole (.int .i64)))], [], [(67, 57)]⟩ [(.exit 0, ⟨slotsOf 70 [(6, .c (.row 67))], [], [(67, 57)]⟩)] (.leaf)))) (.leaf))))))
noncomputable def c_circle_arcs (n : Nat) : Cx := ⟨Go.Proofs.Tryz.prog, Θ, [191, 57], [(118, ⟨h_slices_Clone_piece, o_slices_Clone_piece, slices_Clone_piece n⟩)], [], []⟩
theorem d_circle_arcs (n : Nat) (x : h_circle_arcs.X T) : denF (c_circle_arcs n) n Go.Proofs.Tryz.f109 p_circle_arcs h_circle_arcs o_circle_arcs x = circle_arcs n x := by kernel_rfl
theorem s_circle_arcs (n : Nat) : PCalls Go.Proofs.Tryz.prog Θ 109 ⟨h_circle_arcs, o_circle_arcs, circle_arcs n⟩ :=
  func_ok' (C := c_circle_arcs n) (n := n) (p := p_circle_arcs) (ok_of mixed eqsOk ⟨s_slices_Clone_piece n, trivial⟩ trivial trivial) Go.Proofs.Tryz.func109 (by kernel_rfl) (by kernel_rfl) (d_circle_arcs n) (by kernel_rfl)

/-- carrefour/circle.Set -/
def h_circle_Set : Shape := ⟨slotsOf 2 [(0, .c (.hole (.int .i64))), (1, .c (.hole (.sl 57)))], [], []⟩
def o_circle_Set : List (Ex × Shape) := [(.ret, ⟨slotsOf 1 [(0, .c (.row 0))], [], [(0, 57)]⟩)]
noncomputable def circle_Set (n : Nat) (x0 : Int × List (Int × Int)) : Option (List (Int × Int)) :=
  (circle_pieces n x0).bind fun y1 =>
  (circle_arcs n (x0.1, y1)).bind fun y2 =>
  some y2
def p_circle_Set : Plan := .leaf
noncomputable def c_circle_Set (n : Nat) : Cx := ⟨Go.Proofs.Tryz.prog, Θ, [191, 57], [(110, ⟨h_circle_pieces, o_circle_pieces, circle_pieces n⟩), (109, ⟨h_circle_arcs, o_circle_arcs, circle_arcs n⟩)], [], []⟩
theorem d_circle_Set (n : Nat) (x : h_circle_Set.X T) : denF (c_circle_Set n) n Go.Proofs.Tryz.f92 p_circle_Set h_circle_Set o_circle_Set x = circle_Set n x := by kernel_rfl
theorem s_circle_Set (n : Nat) : PCalls Go.Proofs.Tryz.prog Θ 92 ⟨h_circle_Set, o_circle_Set, circle_Set n⟩ :=
  func_ok' (C := c_circle_Set n) (n := n) (p := p_circle_Set) (ok_of mixed eqsOk ⟨s_circle_pieces n, s_circle_arcs n, trivial⟩ trivial trivial) Go.Proofs.Tryz.func92 (by kernel_rfl) (by kernel_rfl) (d_circle_Set n) (by kernel_rfl)

/-- carrefour/circle.Gap -/
def h_circle_Gap : Shape := ⟨slotsOf 3 [(0, .c (.hole (.int .i64))), (1, .agg [.hole (.int .i64), .hole (.int .i64)]), (2, .agg [.hole (.int .i64), .hole (.int .i64)])], [], []⟩
def o_circle_Gap : List (Ex × Shape) := [(.ret, ⟨slotsOf 1 [(0, .c (.hole (.int .i64)))], [], []⟩)]
def circle_Gap (n : Nat) (x0 : Int × Int × Int × Int × Int) : Option (Int) :=
  (circle_Norm n (x0.1, x0.2.1, x0.2.2.1)).bind fun y1 =>
  (circle_Norm n (x0.1, x0.2.2.2)).bind fun y2 =>
  letJ (fun (x3 : Int × Bool × Int × Int × Int × Int) =>
    bif x3.2.1 then
      some 0
    else
    (circle_modulo n (wrap64 ((wrap64 (x3.2.2.2.2.1 - x3.2.2.1)) - x3.2.2.2.1), x3.1)).bind fun y5 =>
    some y5) fun J4 =>
  bif y1.2 == 0 then
    J4 (x0.1, true, y1.1, y1.2, y2)
  else
  bif y2.2 == 0 then
    J4 (x0.1, true, y1.1, y1.2, y2)
  else
  bif y1.2 == x0.1 then
    J4 (x0.1, true, y1.1, y1.2, y2)
  else
  J4 (x0.1, y2.2 == x0.1, y1.1, y1.2, y2)
def p_circle_Gap : Plan := .two (.leaf) (.two (.leaf) (.two (.two (.join ⟨slotsOf 43 [(0, .c (.hole (.int .i64))), (4, .c (.box 4 0)), (5, .c (.box 5 0)), (32, .c (.hole (.bool)))], [(4, 57, [.hole (.int .i64), .hole (.int .i64)]), (5, 57, [.hole (.int .i64), .hole (.int .i64)])], []⟩ (.leaf)) (.leaf)) (.leaf)))
noncomputable def c_circle_Gap (n : Nat) : Cx := ⟨Go.Proofs.Tryz.prog, Θ, [191, 57], [(104, ⟨h_circle_modulo, o_circle_modulo, circle_modulo n⟩), (77, ⟨h_circle_Norm, o_circle_Norm, circle_Norm n⟩)], [], []⟩
theorem d_circle_Gap (n : Nat) (x : h_circle_Gap.X T) : denF (c_circle_Gap n) n Go.Proofs.Tryz.f93 p_circle_Gap h_circle_Gap o_circle_Gap x = circle_Gap n x := by kernel_rfl
theorem s_circle_Gap (n : Nat) : PCalls Go.Proofs.Tryz.prog Θ 93 ⟨h_circle_Gap, o_circle_Gap, circle_Gap n⟩ :=
  func_ok' (C := c_circle_Gap n) (n := n) (p := p_circle_Gap) (ok_of mixed eqsOk ⟨s_circle_modulo n, s_circle_Norm n, trivial⟩ trivial trivial) Go.Proofs.Tryz.func93 (by kernel_rfl) (by kernel_rfl) (d_circle_Gap n) (by kernel_rfl)

/-- carrefour/times.Busy -/
def h_times_Busy : Shape := ⟨slotsOf 2 [(0, .c (.hole (.int .i64))), (1, .agg [.hole (.str), .hole (.int .i64), .hole (.int .i64), .hole (.int .i64), .hole (.int .i64)])], [], []⟩
def o_times_Busy : List (Ex × Shape) := [(.ret, ⟨slotsOf 1 [(0, .agg [.hole (.int .i64), .hole (.int .i64)])], [], []⟩)]
noncomputable def times_Busy (n : Nat) (x0 : Int × ByteArray × Int × Int × Int × Int) : Option (Int × Int) :=
  (circle_Norm n (x0.1, x0.2.2.1, x0.2.2.2.1)).bind fun y1 =>
  (circle_Norm n (x0.1, x0.2.2.2.2)).bind fun y2 =>
  (circle_Set n (x0.1, y1 :: (y2 :: []))).bind fun y3 =>
  let e0 := y3.length
  let e1 := ((e0 : Nat) : Int)
  bif e1 == 1 then
    bif inB 0 e0 then
      some (atI (0, 0) y3 0)
    else
    none
  else
    bif e1 == 0 then
      some (0, 0)
    else
    (circle_Gap n (x0.1, y1.1, y1.2, y2)).bind fun y4 =>
    (circle_Norm n (x0.1, y1.1, wrap64 ((wrap64 (y1.2 + y4)) + y2.2))).bind fun y5 =>
    some y5
def p_times_Busy : Plan := .leaf
noncomputable def c_times_Busy (n : Nat) : Cx := ⟨Go.Proofs.Tryz.prog, Θ, [191, 57], [(77, ⟨h_circle_Norm, o_circle_Norm, circle_Norm n⟩), (92, ⟨h_circle_Set, o_circle_Set, circle_Set n⟩), (93, ⟨h_circle_Gap, o_circle_Gap, circle_Gap n⟩)], [], []⟩
theorem d_times_Busy (n : Nat) (x : h_times_Busy.X T) : denF (c_times_Busy n) n Go.Proofs.Tryz.f52 p_times_Busy h_times_Busy o_times_Busy x = times_Busy n x := by kernel_rfl
theorem s_times_Busy (n : Nat) : PCalls Go.Proofs.Tryz.prog Θ 52 ⟨h_times_Busy, o_times_Busy, times_Busy n⟩ :=
  func_ok' (C := c_times_Busy n) (n := n) (p := p_times_Busy) (ok_of mixed eqsOk ⟨s_circle_Norm n, s_circle_Set n, s_circle_Gap n, trivial⟩ trivial trivial) Go.Proofs.Tryz.func52 (by kernel_rfl) (by kernel_rfl) (d_times_Busy n) (by kernel_rfl)

/-- carrefour/carrefourlaw18.awake -/
def h_law18_awake : Shape := ⟨slotsOf 0 [], [], []⟩
def o_law18_awake : List (Ex × Shape) := [(.ret, ⟨slotsOf 1 [(0, .c (.hole (.bool)))], [], []⟩)]
noncomputable def law18_awake (n : Nat) (x0 : Unit) : Option (Bool) :=
  (law18_two n ()).bind fun y1 =>
  (times_Heads n (y1.1, y1.2.1, [], y1.2.2.1, y1.2.2.2.1, [], y1.2.2.2.2, ByteArray.mk #[], 5, (((ByteArray.mk #[112], 10, 3, 2, []) :: ((ByteArray.mk #[113], 20, 3, 2, []) :: [])) :: []) :: [], 0, 0)).bind fun y2 =>
  letJ (fun (x6 : Bool × List (ByteArray × Int × Int × Int × Int)) =>
    let e0 := x6.2.length
    let e1 := inB 0 e0
    let e2 := inB 1 e0
    let e3 := atI (ByteArray.mk #[], 0, 0, 0, 0) x6.2 1
    let e4 := e3.2
    let e5 := e3.2.2
    let e6 := e3.2.2.2
    let e7 := (atI (ByteArray.mk #[], 0, 0, 0, 0) x6.2 0).2
    let e8 := (atI (ByteArray.mk #[], 0, 0, 0, 0) x6.2 0).2.2
    let e9 := (atI (ByteArray.mk #[], 0, 0, 0, 0) x6.2 0).2.2.2
    bif x6.1 then
      some false
    else
    letJ (fun (x9 : Bool) =>
      some x9) fun J10 =>
    bif e1 then
      bif ((atI (ByteArray.mk #[], 0, 0, 0, 0) x6.2 0).2.1 == 5) && (((atI (ByteArray.mk #[], 0, 0, 0, 0) x6.2 0).2.2.1 == 5) && true) then
        bif e1 then
          bif ((atI (ByteArray.mk #[], 0, 0, 0, 0) x6.2 0).2.2.2.1 == 10) && (((atI (ByteArray.mk #[], 0, 0, 0, 0) x6.2 0).2.2.2.2 == 3) && true) then
            bif e2 then
              bif (e3.2.1 == 15) && ((e3.2.2.1 == 15) && true) then
                bif e2 then
                  bif (e3.2.2.2.1 == 0) && ((e3.2.2.2.2 == 3) && true) then
                    bif e2 then
                      (times_Busy n (30, e3)).bind fun y8 =>
                      J10 ((y8.1 == 15) && ((y8.2 == 18) && true))
                    else
                    none
                  else
                  J10 false
                else
                none
              else
              J10 false
            else
            none
          else
          J10 false
        else
        none
      else
      J10 false
    else
    none) fun J7 =>
  bif !(y2.1 == 0) then
    J7 (true, y2.2)
  else
  bif !(((y2.2.length : Nat) : Int) == 2) then
    J7 (true, y2.2)
  else
  (law18_two n ()).bind fun y3 =>
  (times_Fits n (y3.1, y3.2.1, [], y3.2.2.1, y3.2.2.2.1, [], y3.2.2.2.2, ByteArray.mk #[], 5, (((ByteArray.mk #[112], 10, 3, 2, []) :: ((ByteArray.mk #[113], 20, 3, 2, []) :: [])) :: []) :: [], 0, 0)).bind fun y4 =>
  bif !y4 then
    J7 (true, y2.2)
  else
  (times_Length n (ByteArray.mk #[], 5, (((ByteArray.mk #[112], 10, 3, 2, []) :: ((ByteArray.mk #[113], 20, 3, 2, []) :: [])) :: []) :: [], 0, 0)).bind fun y5 =>
  J7 (!(y5 == 30), y2.2)
def p_law18_awake : Plan := .two (.leaf) (.two (.leaf) (.two (.leaf) (.two (.two (.join ⟨slotsOf 73 [(2, .c (.row 11400)), (34, .c (.hole (.bool)))], [], [(11400, 59)]⟩ (.leaf)) (.leaf)) (.two (.join ⟨slotsOf 73 [(0, .c (.hole (.bool)))], [], []⟩ (.leaf)) (.leaf)))))
noncomputable def c_law18_awake (n : Nat) : Cx := ⟨Go.Proofs.Tryz.prog, Θ, [191, 57], [(51, ⟨h_law18_two, o_law18_two, law18_two n⟩), (13, ⟨h_times_Length, o_times_Length, times_Length n⟩), (32, ⟨h_times_Fits, o_times_Fits, times_Fits n⟩), (10, ⟨h_times_Heads, o_times_Heads, times_Heads n⟩), (52, ⟨h_times_Busy, o_times_Busy, times_Busy n⟩)], [], []⟩
theorem d_law18_awake (n : Nat) (x : h_law18_awake.X T) : denF (c_law18_awake n) n Go.Proofs.Tryz.f17 p_law18_awake h_law18_awake o_law18_awake x = law18_awake n x := by kernel_rfl
theorem s_law18_awake (n : Nat) : PCalls Go.Proofs.Tryz.prog Θ 17 ⟨h_law18_awake, o_law18_awake, law18_awake n⟩ :=
  func_ok' (C := c_law18_awake n) (n := n) (p := p_law18_awake) (ok_of mixed eqsOk ⟨s_law18_two n, s_times_Length n, s_times_Fits n, s_times_Heads n, s_times_Busy n, trivial⟩ trivial trivial) Go.Proofs.Tryz.func17 (by kernel_rfl) (by kernel_rfl) (d_law18_awake n) (by kernel_rfl)

/-- carrefour/carrefourlaw18.phase -/
def h_law18_phase : Shape := ⟨slotsOf 2 [(0, .agg [.hole (.str), .hole (.sl 72), .hole (.sl 66), .hole (.sl 111), .hole (.sl 125), .hole (.sl 163), .hole (.int .i64)]), (1, .c (.hole (.str)))], [], []⟩
def o_law18_phase : List (Ex × Shape) := [(.ret, ⟨slotsOf 2 [(0, .c (.hole (.int .i64))), (1, .c (.hole (.int .i64)))], [], []⟩)]
def law18_phase (n : Nat) (x0 : ByteArray × (List (ByteArray × Int × Int × Int × Int × Int × Int × Int × Int × Int × Int)) × (List (ByteArray × ByteArray × Int × Int × Int × Int)) × (List (ByteArray × (List ByteArray) × Int)) × (List (List (Bool × List ByteArray))) × (List (ByteArray × ByteArray × Int)) × Int × ByteArray) : Option (Int × Int) :=
  (ref07_Home n x0).bind fun y1 =>
  (iterL (Y := (Int × Int) ⊕ (Unit)) n (fun (x2 : Int × Int × ByteArray × (List (ByteArray × Int × Int × Int × Int × Int × Int × Int × Int × Int × Int)) × (List (ByteArray × ByteArray × Int × Int × Int × Int)) × (List (ByteArray × (List ByteArray) × Int)) × (List (List (Bool × List ByteArray))) × (List (ByteArray × ByteArray × Int)) × Int) =>
    letJ (fun (x3 : Int × Int × Bool × ByteArray × (List (ByteArray × Int × Int × Int × Int × Int × Int × Int × Int × Int × Int)) × (List (ByteArray × ByteArray × Int × Int × Int × Int)) × (List (ByteArray × (List ByteArray) × Int)) × (List (List (Bool × List ByteArray))) × (List (ByteArray × ByteArray × Int)) × Int) =>
      bif x3.2.2.1 then
        (iterL (Y := (Int × Int) ⊕ (Int × Int × ByteArray × (List (ByteArray × Int × Int × Int × Int × Int × Int × Int × Int × Int × Int)) × (List (ByteArray × ByteArray × Int × Int × Int × Int)) × (List (ByteArray × (List ByteArray) × Int)) × (List (List (Bool × List ByteArray))) × (List (ByteArray × ByteArray × Int)) × Int)) n (fun (x5 : Int × Int × Int × ByteArray × (List (ByteArray × Int × Int × Int × Int × Int × Int × Int × Int × Int × Int)) × (List (ByteArray × ByteArray × Int × Int × Int × Int)) × (List (ByteArray × (List ByteArray) × Int)) × (List (List (Bool × List ByteArray))) × (List (ByteArray × ByteArray × Int)) × Int) =>
          bif inB x5.2.1 x5.2.2.2.2.2.2.2.1.length then
            bif decide (x5.2.2.1 < ((List.length (atI [] x5.2.2.2.2.2.2.2.1 x5.2.1) : Nat) : Int)) then
              (iterL (Y := (Int × Int) ⊕ (Int × Int × Int × ByteArray × (List (ByteArray × Int × Int × Int × Int × Int × Int × Int × Int × Int × Int)) × (List (ByteArray × ByteArray × Int × Int × Int × Int)) × (List (ByteArray × (List ByteArray) × Int)) × (List (List (Bool × List ByteArray))) × (List (ByteArray × ByteArray × Int)) × Int)) n (fun (x6 : Int × Int × Int × Int × ByteArray × (List (ByteArray × Int × Int × Int × Int × Int × Int × Int × Int × Int × Int)) × (List (ByteArray × ByteArray × Int × Int × Int × Int)) × (List (ByteArray × (List ByteArray) × Int)) × (List (List (Bool × List ByteArray))) × (List (ByteArray × ByteArray × Int)) × Int) =>
                let e0 := inB x6.2.1 x6.2.2.2.2.2.2.2.2.1.length
                let e1 := atI [] x6.2.2.2.2.2.2.2.2.1 x6.2.1
                let e2 := inB x6.2.2.1 e1.length
                let e3 := (atI (false, []) e1 x6.2.2.1).2
                let e4 := e3.length
                bif e0 then
                  bif e2 then
                    bif decide (x6.2.2.2.1 < ((e4 : Nat) : Int)) then
                      bif e0 then
                        bif e2 then
                          bif inB x6.2.2.2.1 e4 then
                            bif inB x6.1 x6.2.2.2.2.2.2.2.1.length then
                              bif strEq (atI (ByteArray.mk #[]) e3 x6.2.2.2.1) (atI (ByteArray.mk #[], [], 0) x6.2.2.2.2.2.2.2.1 x6.1).1 then
                                some (.inr (.inl (x6.2.1, x6.2.2.1)))
                              else
                              some (.inl (x6.1, x6.2.1, x6.2.2.1, wrap64 (x6.2.2.2.1 + 1), x6.2.2.2.2))
                            else
                            none
                          else
                          none
                        else
                        none
                      else
                      none
                    else
                    some (.inr (.inr (x6.1, x6.2.1, x6.2.2.1, x6.2.2.2.2)))
                  else
                  none
                else
                none) (x5.1, x5.2.1, x5.2.2.1, 0, x5.2.2.2)).bind (Sum.elim (fun (z7 : Int × Int) =>
                some (.inr (.inl z7))) (fun (z8 : Int × Int × Int × ByteArray × (List (ByteArray × Int × Int × Int × Int × Int × Int × Int × Int × Int × Int)) × (List (ByteArray × ByteArray × Int × Int × Int × Int)) × (List (ByteArray × (List ByteArray) × Int)) × (List (List (Bool × List ByteArray))) × (List (ByteArray × ByteArray × Int)) × Int) =>
                some (.inl (z8.1, z8.2.1, wrap64 (z8.2.2.1 + 1), z8.2.2.2))))
            else
            some (.inr (.inr (x5.1, x5.2.1, x5.2.2.2)))
          else
          none) (x3.1, x3.2.1, 0, x3.2.2.2)).bind (Sum.elim (fun (z9 : Int × Int) =>
          some (.inr (.inl z9))) (fun (z10 : Int × Int × ByteArray × (List (ByteArray × Int × Int × Int × Int × Int × Int × Int × Int × Int × Int)) × (List (ByteArray × ByteArray × Int × Int × Int × Int)) × (List (ByteArray × (List ByteArray) × Int)) × (List (List (Bool × List ByteArray))) × (List (ByteArray × ByteArray × Int)) × Int) =>
          some (.inl (z10.1, wrap64 (z10.2.1 + 1), z10.2.2))))
      else
      some (.inr (.inr ()))) fun J4 =>
    bif decide (x2.2.1 < ((x2.2.2.2.2.2.2.1.length : Nat) : Int)) then
      J4 (x2.1, x2.2.1, decide (0 ≤ x2.1), x2.2.2)
    else
    J4 (x2.1, x2.2.1, false, x2.2.2)) (y1, 0, x0.1, x0.2.1, x0.2.2.1, x0.2.2.2.1, x0.2.2.2.2.1, x0.2.2.2.2.2.1, x0.2.2.2.2.2.2.1)).bind (Sum.elim (fun (z11 : Int × Int) =>
    some z11) (fun (z12 : Unit) =>
    some ((-1), (-1))))
def p_law18_phase : Plan := .two (.leaf) (.two (.leaf) (.two (.two (.leaf) (.one (.loop ⟨slotsOf 72 [(2, .c (.box 2 0)), (6, .c (.hole (.int .i64))), (7, .c (.hole (.int .i64)))], [(2, 28, [.hole (.str), .hole (.sl 72), .hole (.sl 66), .hole (.sl 111), .hole (.sl 125), .hole (.sl 163), .hole (.int .i64)])], []⟩ [(.ret, ⟨slotsOf 72 [(4, .c (.hole (.int .i64))), (5, .c (.hole (.int .i64)))], [], []⟩), (.exit 0, ⟨slotsOf 72 [], [], []⟩)] (.two (.two (.join ⟨slotsOf 72 [(2, .c (.box 2 0)), (6, .c (.hole (.int .i64))), (7, .c (.hole (.int .i64))), (21, .c (.hole (.bool)))], [(2, 28, [.hole (.str), .hole (.sl 72), .hole (.sl 66), .hole (.sl 111), .hole (.sl 125), .hole (.sl 163), .hole (.int .i64)])], []⟩ (.leaf)) (.leaf)) (.two (.one (.two (.leaf) (.one (.loop ⟨slotsOf 72 [(2, .c (.box 2 0)), (6, .c (.hole (.int .i64))), (7, .c (.hole (.int .i64))), (8, .c (.hole (.int .i64)))], [(2, 28, [.hole (.str), .hole (.sl 72), .hole (.sl 66), .hole (.sl 111), .hole (.sl 125), .hole (.sl 163), .hole (.int .i64)])], []⟩ [(.ret, ⟨slotsOf 72 [(4, .c (.hole (.int .i64))), (5, .c (.hole (.int .i64)))], [], []⟩), (.exit 2, ⟨slotsOf 72 [(2, .c (.box 2 0)), (6, .c (.hole (.int .i64))), (7, .c (.hole (.int .i64)))], [(2, 28, [.hole (.str), .hole (.sl 72), .hole (.sl 66), .hole (.sl 111), .hole (.sl 125), .hole (.sl 163), .hole (.int .i64)])], []⟩)] (.two (.leaf) (.two (.one (.two (.leaf) (.one (.loop ⟨slotsOf 72 [(2, .c (.box 2 0)), (6, .c (.hole (.int .i64))), (7, .c (.hole (.int .i64))), (8, .c (.hole (.int .i64))), (9, .c (.hole (.int .i64)))], [(2, 28, [.hole (.str), .hole (.sl 72), .hole (.sl 66), .hole (.sl 111), .hole (.sl 125), .hole (.sl 163), .hole (.int .i64)])], []⟩ [(.ret, ⟨slotsOf 72 [(4, .c (.hole (.int .i64))), (5, .c (.hole (.int .i64)))], [], []⟩), (.exit 4, ⟨slotsOf 72 [(2, .c (.box 2 0)), (6, .c (.hole (.int .i64))), (7, .c (.hole (.int .i64))), (8, .c (.hole (.int .i64)))], [(2, 28, [.hole (.str), .hole (.sl 72), .hole (.sl 66), .hole (.sl 111), .hole (.sl 125), .hole (.sl 163), .hole (.int .i64)])], []⟩)] (.leaf))))) (.leaf))))))) (.leaf)))))) (.leaf)))
noncomputable def c_law18_phase (n : Nat) : Cx := ⟨Go.Proofs.Tryz.prog, Θ, [191, 57], [(19, ⟨h_ref07_Home, o_ref07_Home, ref07_Home n⟩)], [], []⟩
theorem d_law18_phase (n : Nat) (x : h_law18_phase.X T) : denF (c_law18_phase n) n Go.Proofs.Tryz.f18 p_law18_phase h_law18_phase o_law18_phase x = law18_phase n x := by kernel_rfl
theorem s_law18_phase (n : Nat) : PCalls Go.Proofs.Tryz.prog Θ 18 ⟨h_law18_phase, o_law18_phase, law18_phase n⟩ :=
  func_ok' (C := c_law18_phase n) (n := n) (p := p_law18_phase) (ok_of mixed eqsOk ⟨s_ref07_Home n, trivial⟩ trivial trivial) Go.Proofs.Tryz.func18 (by kernel_rfl) (by kernel_rfl) (d_law18_phase n) (by kernel_rfl)

/-- carrefour/carrefourref03.Cycle -/
def h_ref03_Cycle : Shape := ⟨slotsOf 1 [(0, .c (.hole (.int .i64)))], [], []⟩
def o_ref03_Cycle : List (Ex × Shape) := [(.ret, ⟨slotsOf 1 [(0, .c (.hole (.bool)))], [], []⟩)]
def ref03_Cycle (n : Nat) (x0 : Int) : Option (Bool) :=
  bif decide (1 ≤ x0) then
    some (decide (x0 ≤ 6000))
  else
  some false
def p_ref03_Cycle : Plan := .leaf
noncomputable def c_ref03_Cycle (n : Nat) : Cx := ⟨Go.Proofs.Tryz.prog, Θ, [191, 57], [], [], []⟩
theorem d_ref03_Cycle (n : Nat) (x : h_ref03_Cycle.X T) : denF (c_ref03_Cycle n) n Go.Proofs.Tryz.f89 p_ref03_Cycle h_ref03_Cycle o_ref03_Cycle x = ref03_Cycle n x := by kernel_rfl
theorem s_ref03_Cycle (n : Nat) : PCalls Go.Proofs.Tryz.prog Θ 89 ⟨h_ref03_Cycle, o_ref03_Cycle, ref03_Cycle n⟩ :=
  func_ok' (C := c_ref03_Cycle n) (n := n) (p := p_ref03_Cycle) (ok_of mixed eqsOk trivial trivial trivial) Go.Proofs.Tryz.func89 (by kernel_rfl) (by kernel_rfl) (d_ref03_Cycle n) (by kernel_rfl)

/-- carrefour/carrefourref03.Mod -/
def h_ref03_Mod : Shape := ⟨slotsOf 2 [(0, .c (.hole (.int .i64))), (1, .c (.hole (.int .i64)))], [], []⟩
def o_ref03_Mod : List (Ex × Shape) := [(.ret, ⟨slotsOf 1 [(0, .c (.hole (.int .i64)))], [], []⟩)]
def ref03_Mod (n : Nat) (x0 : Int × Int) : Option (Int) :=
  let e0 := Int.tmod x0.1 x0.2
  bif !(x0.2 == 0) then
    bif decide (e0 < 0) then
      some (wrap64 (e0 + x0.2))
    else
    some e0
  else
  none
def p_ref03_Mod : Plan := .leaf
noncomputable def c_ref03_Mod (n : Nat) : Cx := ⟨Go.Proofs.Tryz.prog, Θ, [191, 57], [], [], []⟩
theorem d_ref03_Mod (n : Nat) (x : h_ref03_Mod.X T) : denF (c_ref03_Mod n) n Go.Proofs.Tryz.f90 p_ref03_Mod h_ref03_Mod o_ref03_Mod x = ref03_Mod n x := by kernel_rfl
theorem s_ref03_Mod (n : Nat) : PCalls Go.Proofs.Tryz.prog Θ 90 ⟨h_ref03_Mod, o_ref03_Mod, ref03_Mod n⟩ :=
  func_ok' (C := c_ref03_Mod n) (n := n) (p := p_ref03_Mod) (ok_of mixed eqsOk trivial trivial trivial) Go.Proofs.Tryz.func90 (by kernel_rfl) (by kernel_rfl) (d_ref03_Mod n) (by kernel_rfl)

/-- carrefour/carrefourref03.Ticks -/
def h_ref03_Ticks : Shape := ⟨slotsOf 2 [(0, .c (.hole (.int .i64))), (1, .c (.hole (.sl 57)))], [], []⟩
def o_ref03_Ticks : List (Ex × Shape) := [(.ret, ⟨slotsOf 1 [(0, .c (.row 0))], [], [(0, 4)]⟩)]
def ref03_Ticks (n : Nat) (x0 : Int × List (Int × Int)) : Option (List Bool) :=
  (ref03_Cycle n x0.1).bind fun y1 =>
  bif !y1 then
    some []
  else
  bif x0.1 == x0.1 && decide (0 ≤ x0.1) && decide (x0.1 * 1 ≤ 281474976710656) then
    (iterL (Y := (List Bool)) n (fun (x2 : Int × (List (Int × Int)) × Int × List Bool) =>
      let e0 := x2.2.1.length
      let e1 := inB x2.2.2.1 e0
      let e2 := atI (0, 0) x2.2.1 x2.2.2.1
      bif decide (x2.2.2.1 < ((e0 : Nat) : Int)) then
        bif e1 then
          bif e1 then
            (ref03_Mod n (e2.1, x2.1)).bind fun y3 =>
            (iterL (Y := (Int × (List (Int × Int)) × Int × List Bool)) n (fun (x4 : Int × (List (Int × Int)) × Int × Int × Int × Int × List Bool) =>
              let e3 := Int.tmod (wrap64 (x4.2.2.2.2.1 + x4.2.2.2.2.2.1)) x4.1
              bif decide (x4.2.2.2.2.2.1 < x4.2.2.2.1) then
                bif !(x4.1 == 0) then
                  bif inB e3 x4.2.2.2.2.2.2.length then
                    some (.inl (x4.1, x4.2.1, x4.2.2.1, x4.2.2.2.1, x4.2.2.2.2.1, wrap64 (x4.2.2.2.2.2.1 + 1), List.set x4.2.2.2.2.2.2 (Int.toNat e3) true))
                  else
                  none
                else
                none
              else
              some (.inr (x4.1, x4.2.1, x4.2.2.1, x4.2.2.2.2.2.2))) (x2.1, x2.2.1, x2.2.2.1, mn e2.2 x2.1, y3, 0, x2.2.2.2)).bind fun (z5 : Int × (List (Int × Int)) × Int × List Bool) =>
              some (.inl (z5.1, z5.2.1, wrap64 (z5.2.2.1 + 1), z5.2.2.2))
          else
          none
        else
        none
      else
      some (.inr x2.2.2.2)) (x0.1, x0.2, 0, List.replicate (Int.toNat x0.1) false)).bind fun (z6 : List Bool) =>
      some z6
  else
  none
def p_ref03_Ticks : Plan := .two (.leaf) (.two (.leaf) (.two (.leaf) (.two (.two (.leaf) (.one (.loop ⟨slotsOf 48 [(0, .c (.hole (.int .i64))), (1, .c (.hole (.sl 57))), (5, .c (.row 14)), (6, .c (.hole (.int .i64)))], [], [(14, 4)]⟩ [(.exit 0, ⟨slotsOf 48 [(5, .c (.row 14))], [], [(14, 4)]⟩)] (.two (.leaf) (.two (.one (.two (.leaf) (.two (.leaf) (.two (.leaf) (.one (.loop ⟨slotsOf 48 [(0, .c (.hole (.int .i64))), (1, .c (.hole (.sl 57))), (5, .c (.row 14)), (6, .c (.hole (.int .i64))), (7, .c (.hole (.int .i64))), (8, .c (.hole (.int .i64))), (9, .c (.hole (.int .i64)))], [], [(14, 4)]⟩ [(.exit 2, ⟨slotsOf 48 [(0, .c (.hole (.int .i64))), (1, .c (.hole (.sl 57))), (5, .c (.row 14)), (6, .c (.hole (.int .i64)))], [], [(14, 4)]⟩)] (.leaf))))))) (.leaf)))))) (.leaf))))
noncomputable def c_ref03_Ticks (n : Nat) : Cx := ⟨Go.Proofs.Tryz.prog, Θ, [191, 57], [(89, ⟨h_ref03_Cycle, o_ref03_Cycle, ref03_Cycle n⟩), (90, ⟨h_ref03_Mod, o_ref03_Mod, ref03_Mod n⟩)], [], []⟩
theorem d_ref03_Ticks (n : Nat) (x : h_ref03_Ticks.X T) : denF (c_ref03_Ticks n) n Go.Proofs.Tryz.f94 p_ref03_Ticks h_ref03_Ticks o_ref03_Ticks x = ref03_Ticks n x := by kernel_rfl
theorem s_ref03_Ticks (n : Nat) : PCalls Go.Proofs.Tryz.prog Θ 94 ⟨h_ref03_Ticks, o_ref03_Ticks, ref03_Ticks n⟩ :=
  func_ok' (C := c_ref03_Ticks n) (n := n) (p := p_ref03_Ticks) (ok_of mixed eqsOk ⟨s_ref03_Cycle n, s_ref03_Mod n, trivial⟩ trivial trivial) Go.Proofs.Tryz.func94 (by kernel_rfl) (by kernel_rfl) (d_ref03_Ticks n) (by kernel_rfl)

/-- carrefour/carrefourref03.Form -/
def h_ref03_Form : Shape := ⟨slotsOf 1 [(0, .c (.hole (.sl 4)))], [], []⟩
def o_ref03_Form : List (Ex × Shape) := [(.ret, ⟨slotsOf 1 [(0, .c (.hole (.sl 57)))], [], []⟩)]
def ref03_Form (n : Nat) (x0 : List Bool) : Option (List (Int × Int)) :=
  (iterL (Y := ((List Bool) × Int × Int)) n (fun (x1 : (List Bool) × Int × Int × Int) =>
    let e0 := wrap64 (x1.2.2.2 + 1)
    bif decide (x1.2.2.2 < x1.2.1) then
      bif inB x1.2.2.2 x1.1.length then
        bif atI false x1.1 x1.2.2.2 then
          some (.inl (x1.1, x1.2.1, wrap64 (x1.2.2.1 + 1), e0))
        else
        some (.inl (x1.1, x1.2.1, x1.2.2.1, e0))
      else
      none
    else
    some (.inr (x1.1, x1.2.1, x1.2.2.1))) (x0, ((x0.length : Nat) : Int), 0, 0)).bind fun (z2 : (List Bool) × Int × Int) =>
    letJ (fun (x3 : (List Bool) × Int × Bool) =>
      bif x3.2.2 then
        some ((0, x3.2.1) :: [])
      else
      (iterL (Y := (List (Int × Int))) n (fun (x10 : (List Bool) × Int × Int × List (Int × Int)) =>
        let e1 := x10.1.length
        let e2 := Int.tmod (wrap64 ((wrap64 (x10.2.2.1 + x10.2.1)) - 1)) x10.2.1
        bif decide (x10.2.2.1 < x10.2.1) then
          letJ (fun (x11 : (List Bool) × Int × Int × Bool × List (Int × Int)) =>
            bif x11.2.2.2.1 then
              some (.inl (x11.1, x11.2.1, wrap64 (x11.2.2.1 + 1), x11.2.2.2.2))
            else
            (iterL (Y := ((List Bool) × Int × Int × Int × List (Int × Int))) n (fun (x13 : (List Bool) × Int × Int × Int × List (Int × Int)) =>
              let e3 := Int.tmod (wrap64 (x13.2.2.1 + x13.2.2.2.1)) x13.2.1
              bif !(x13.2.1 == 0) then
                bif inB e3 x13.1.length then
                  bif atI false x13.1 e3 then
                    some (.inl (x13.1, x13.2.1, x13.2.2.1, wrap64 (x13.2.2.2.1 + 1), x13.2.2.2.2))
                  else
                  some (.inr x13)
                else
                none
              else
              none) (x11.1, x11.2.1, x11.2.2.1, 0, x11.2.2.2.2)).bind fun (z14 : (List Bool) × Int × Int × Int × List (Int × Int)) =>
              let e4 := (z14.2.2.1, z14.2.2.2.1) :: []
              bif fitB (z14.2.2.2.2.length + e4.length) 16 then
                some (.inl (z14.1, z14.2.1, wrap64 (z14.2.2.1 + 1), z14.2.2.2.2 ++ e4))
              else
              none) fun J12 =>
          bif inB x10.2.2.1 e1 then
            bif !(atI false x10.1 x10.2.2.1) then
              J12 (x10.1, x10.2.1, x10.2.2.1, true, x10.2.2.2)
            else
            bif !(x10.2.1 == 0) then
              bif inB e2 e1 then
                J12 (x10.1, x10.2.1, x10.2.2.1, atI false x10.1 e2, x10.2.2.2)
              else
              none
            else
            none
          else
          none
        else
        some (.inr x10.2.2.2)) (x3.1, x3.2.1, 0, [])).bind fun (z15 : List (Int × Int)) =>
        some z15) fun J4 =>
    bif z2.2.2 == z2.2.1 then
      J4 (z2.1, z2.2.1, decide (0 < z2.2.1))
    else
    J4 (z2.1, z2.2.1, false)
def p_ref03_Form : Plan := .two (.leaf) (.two (.leaf) (.two (.leaf) (.two (.two (.leaf) (.one (.loop ⟨slotsOf 70 [(0, .c (.hole (.sl 4))), (3, .c (.hole (.int .i64))), (4, .c (.hole (.int .i64))), (5, .c (.hole (.int .i64)))], [], []⟩ [(.exit 0, ⟨slotsOf 70 [(0, .c (.hole (.sl 4))), (3, .c (.hole (.int .i64))), (4, .c (.hole (.int .i64)))], [], []⟩)] (.leaf)))) (.two (.two (.join ⟨slotsOf 70 [(0, .c (.hole (.sl 4))), (3, .c (.hole (.int .i64))), (28, .c (.hole (.bool)))], [], []⟩ (.leaf)) (.leaf)) (.two (.leaf) (.two (.two (.leaf) (.one (.loop ⟨slotsOf 70 [(0, .c (.hole (.sl 4))), (3, .c (.hole (.int .i64))), (6, .c (.row 68)), (7, .c (.hole (.int .i64)))], [], [(68, 57)]⟩ [(.exit 2, ⟨slotsOf 70 [(6, .c (.row 68))], [], [(68, 57)]⟩)] (.two (.leaf) (.two (.one (.two (.two (.join ⟨slotsOf 70 [(0, .c (.hole (.sl 4))), (3, .c (.hole (.int .i64))), (6, .c (.row 68)), (7, .c (.hole (.int .i64))), (52, .c (.hole (.bool)))], [], [(68, 57)]⟩ (.leaf)) (.leaf)) (.two (.leaf) (.two (.one (.loop ⟨slotsOf 70 [(0, .c (.hole (.sl 4))), (3, .c (.hole (.int .i64))), (6, .c (.row 68)), (7, .c (.hole (.int .i64))), (8, .c (.hole (.int .i64)))], [], [(68, 57)]⟩ [(.exit 4, ⟨slotsOf 70 [(0, .c (.hole (.sl 4))), (3, .c (.hole (.int .i64))), (6, .c (.row 68)), (7, .c (.hole (.int .i64))), (8, .c (.hole (.int .i64)))], [], [(68, 57)]⟩)] (.leaf))) (.leaf))))) (.leaf)))))) (.leaf)))))))
noncomputable def c_ref03_Form (n : Nat) : Cx := ⟨Go.Proofs.Tryz.prog, Θ, [191, 57], [], [], []⟩
theorem d_ref03_Form (n : Nat) (x : h_ref03_Form.X T) : denF (c_ref03_Form n) n Go.Proofs.Tryz.f95 p_ref03_Form h_ref03_Form o_ref03_Form x = ref03_Form n x := by kernel_rfl
theorem s_ref03_Form (n : Nat) : PCalls Go.Proofs.Tryz.prog Θ 95 ⟨h_ref03_Form, o_ref03_Form, ref03_Form n⟩ :=
  func_ok' (C := c_ref03_Form n) (n := n) (p := p_ref03_Form) (ok_of mixed eqsOk trivial trivial trivial) Go.Proofs.Tryz.func95 (by kernel_rfl) (by kernel_rfl) (d_ref03_Form n) (by kernel_rfl)

/-- carrefour/carrefourref03.Meet -/
def h_ref03_Meet : Shape := ⟨slotsOf 3 [(0, .c (.hole (.int .i64))), (1, .c (.hole (.sl 57))), (2, .c (.hole (.sl 57)))], [], []⟩
def o_ref03_Meet : List (Ex × Shape) := [(.ret, ⟨slotsOf 1 [(0, .c (.hole (.sl 57)))], [], []⟩)]
def ref03_Meet (n : Nat) (x0 : Int × (List (Int × Int)) × List (Int × Int)) : Option (List (Int × Int)) :=
  let e0 := false :: []
  (ref03_Ticks n (x0.1, x0.2.1)).bind fun y1 =>
  (ref03_Ticks n (x0.1, x0.2.2)).bind fun y2 =>
  (iterL (Y := (List Bool)) n (fun (x4 : Int × (List Bool) × (List Bool) × List Bool) =>
    let e1 := x4.2.1.length
    let e2 := x4.2.2.2.length
    let e3 := (atI false x4.2.2.1 x4.1) :: []
    let e4 := wrap64 (x4.1 + 1)
    bif decide (x4.1 < ((e1 : Nat) : Int)) then
      bif inB x4.1 e1 then
        bif atI false x4.2.1 x4.1 then
          bif inB x4.1 x4.2.2.1.length then
            bif fitB (e2 + e3.length) 1 then
              some (.inl (e4, x4.2.1, x4.2.2.1, x4.2.2.2 ++ e3))
            else
            none
          else
          none
        else
          bif fitB (e2 + e0.length) 1 then
            some (.inl (e4, x4.2.1, x4.2.2.1, x4.2.2.2 ++ e0))
          else
          none
      else
      none
    else
    some (.inr x4.2.2.2)) (0, y1, y2, [])).bind fun (z5 : List Bool) =>
    (ref03_Form n z5).bind fun y6 =>
    some y6
def p_ref03_Meet : Plan := .two (.leaf) (.two (.leaf) (.two (.leaf) (.two (.leaf) (.two (.two (.leaf) (.one (.loop ⟨slotsOf 38 [(7, .c (.row 11300)), (8, .c (.row 11600)), (9, .c (.row 35)), (10, .c (.hole (.int .i64)))], [], [(11300, 4), (11600, 4), (35, 4)]⟩ [(.exit 0, ⟨slotsOf 38 [(9, .c (.row 35))], [], [(35, 4)]⟩)] (.leaf)))) (.leaf)))))
noncomputable def c_ref03_Meet (n : Nat) : Cx := ⟨Go.Proofs.Tryz.prog, Θ, [191, 57], [(94, ⟨h_ref03_Ticks, o_ref03_Ticks, ref03_Ticks n⟩), (95, ⟨h_ref03_Form, o_ref03_Form, ref03_Form n⟩)], [], []⟩
theorem d_ref03_Meet (n : Nat) (x : h_ref03_Meet.X T) : denF (c_ref03_Meet n) n Go.Proofs.Tryz.f55 p_ref03_Meet h_ref03_Meet o_ref03_Meet x = ref03_Meet n x := by kernel_rfl
theorem s_ref03_Meet (n : Nat) : PCalls Go.Proofs.Tryz.prog Θ 55 ⟨h_ref03_Meet, o_ref03_Meet, ref03_Meet n⟩ :=
  func_ok' (C := c_ref03_Meet n) (n := n) (p := p_ref03_Meet) (ok_of mixed eqsOk ⟨s_ref03_Ticks n, s_ref03_Form n, trivial⟩ trivial trivial) Go.Proofs.Tryz.func55 (by kernel_rfl) (by kernel_rfl) (d_ref03_Meet n) (by kernel_rfl)

/-- carrefour/carrefourref03.Total -/
def h_ref03_Total : Shape := ⟨slotsOf 2 [(0, .c (.hole (.int .i64))), (1, .c (.hole (.sl 57)))], [], []⟩
def o_ref03_Total : List (Ex × Shape) := [(.ret, ⟨slotsOf 1 [(0, .c (.hole (.int .i64)))], [], []⟩)]
def ref03_Total (n : Nat) (x0 : Int × List (Int × Int)) : Option (Int) :=
  (ref03_Ticks n x0).bind fun y1 =>
  (iterL (Y := (Int)) n (fun (x2 : Int × Int × List Bool) =>
    let e0 := x2.2.2.length
    bif decide (x2.2.1 < ((e0 : Nat) : Int)) then
      bif inB x2.2.1 e0 then
        bif atI false x2.2.2 x2.2.1 then
          some (.inl (wrap64 (x2.1 + 1), wrap64 (x2.2.1 + 1), x2.2.2))
        else
        some (.inl (x2.1, wrap64 (x2.2.1 + 1), x2.2.2))
      else
      none
    else
    some (.inr x2.1)) (0, 0, y1)).bind fun (z3 : Int) =>
    some z3
def p_ref03_Total : Plan := .two (.leaf) (.two (.leaf) (.two (.leaf) (.two (.two (.leaf) (.one (.loop ⟨slotsOf 24 [(5, .c (.row 11000)), (6, .c (.hole (.int .i64))), (7, .c (.hole (.int .i64)))], [], [(11000, 4)]⟩ [(.exit 0, ⟨slotsOf 24 [(6, .c (.hole (.int .i64)))], [], []⟩)] (.leaf)))) (.leaf))))
noncomputable def c_ref03_Total (n : Nat) : Cx := ⟨Go.Proofs.Tryz.prog, Θ, [191, 57], [(94, ⟨h_ref03_Ticks, o_ref03_Ticks, ref03_Ticks n⟩)], [], []⟩
theorem d_ref03_Total (n : Nat) (x : h_ref03_Total.X T) : denF (c_ref03_Total n) n Go.Proofs.Tryz.f54 p_ref03_Total h_ref03_Total o_ref03_Total x = ref03_Total n x := by kernel_rfl
theorem s_ref03_Total (n : Nat) : PCalls Go.Proofs.Tryz.prog Θ 54 ⟨h_ref03_Total, o_ref03_Total, ref03_Total n⟩ :=
  func_ok' (C := c_ref03_Total n) (n := n) (p := p_ref03_Total) (ok_of mixed eqsOk ⟨s_ref03_Ticks n, trivial⟩ trivial trivial) Go.Proofs.Tryz.func54 (by kernel_rfl) (by kernel_rfl) (d_ref03_Total n) (by kernel_rfl)

/-- carrefour/carrefourlaw18.meet -/
def h_law18_meet : Shape := ⟨slotsOf 3 [(0, .c (.hole (.int .i64))), (1, .agg [.hole (.str), .hole (.int .i64), .hole (.int .i64), .hole (.int .i64), .hole (.int .i64)]), (2, .agg [.hole (.str), .hole (.int .i64), .hole (.int .i64), .hole (.int .i64), .hole (.int .i64)])], [], []⟩
def o_law18_meet : List (Ex × Shape) := [(.ret, ⟨slotsOf 1 [(0, .c (.hole (.bool)))], [], []⟩)]
def law18_meet (n : Nat) (x0 : Int × ByteArray × Int × Int × Int × Int × ByteArray × Int × Int × Int × Int) : Option (Bool) :=
  (ref03_Meet n (x0.1, (x0.2.2.1, x0.2.2.2.1) :: ((x0.2.2.2.2.1, x0.2.2.2.2.2.1) :: []), (x0.2.2.2.2.2.2.2.1, x0.2.2.2.2.2.2.2.2.1) :: (x0.2.2.2.2.2.2.2.2.2 :: []))).bind fun y1 =>
  (ref03_Total n (x0.1, y1)).bind fun y2 =>
  some (decide (0 < y2))
def p_law18_meet : Plan := .leaf
noncomputable def c_law18_meet (n : Nat) : Cx := ⟨Go.Proofs.Tryz.prog, Θ, [191, 57], [(55, ⟨h_ref03_Meet, o_ref03_Meet, ref03_Meet n⟩), (54, ⟨h_ref03_Total, o_ref03_Total, ref03_Total n⟩)], [], []⟩
theorem d_law18_meet (n : Nat) (x : h_law18_meet.X T) : denF (c_law18_meet n) n Go.Proofs.Tryz.f20 p_law18_meet h_law18_meet o_law18_meet x = law18_meet n x := by kernel_rfl
theorem s_law18_meet (n : Nat) : PCalls Go.Proofs.Tryz.prog Θ 20 ⟨h_law18_meet, o_law18_meet, law18_meet n⟩ :=
  func_ok' (C := c_law18_meet n) (n := n) (p := p_law18_meet) (ok_of mixed eqsOk ⟨s_ref03_Meet n, s_ref03_Total n, trivial⟩ trivial trivial) Go.Proofs.Tryz.func20 (by kernel_rfl) (by kernel_rfl) (d_law18_meet n) (by kernel_rfl)

/-- carrefour/carrefourlaw18.TimesApart -/
def h_law18_TimesApart : Shape := ⟨slotsOf 2 [(0, .agg [.hole (.int .i64), .hole (.int .i64), .hole (.int .i64), .hole (.int .i64), .hole (.int .i64), .hole (.sl 28), .hole (.sl 121), .hole (.int .i64), .hole (.int .i64)]), (1, .agg [.hole (.str), .hole (.int .i64), .hole (.sl 85), .hole (.int .i64), .hole (.int .i64)])], [], []⟩
def o_law18_TimesApart : List (Ex × Shape) := [(.ret, ⟨slotsOf 1 [(0, .c (.hole (.bool)))], [], []⟩)]
noncomputable def law18_TimesApart (n : Nat) (x0 : Int × Int × Int × Int × Int × (List (ByteArray × (List (ByteArray × Int × Int × Int × Int × Int × Int × Int × Int × Int × Int)) × (List (ByteArray × ByteArray × Int × Int × Int × Int)) × (List (ByteArray × (List ByteArray) × Int)) × (List (List (Bool × List ByteArray))) × (List (ByteArray × ByteArray × Int)) × Int)) × (List (ByteArray × ByteArray × ByteArray × Int × Int × Int)) × Int × Int × ByteArray × Int × (List (List (List (ByteArray × Int × Int × Int × List (ByteArray × Int × Int))))) × Int × Int) : Option (Bool) :=
  let e0 := atI (ByteArray.mk #[], [], [], [], [], [], 0) x0.2.2.2.2.2.1 0
  let e1 := e0.2
  let e2 := e0.2.2
  let e3 := e0.2.2.2
  let e4 := e0.2.2.2.2
  let e5 := e0.2.2.2.2.2
  (ref07_Check n (x0.1, x0.2.1, x0.2.2.1, x0.2.2.2.1, x0.2.2.2.2.1, x0.2.2.2.2.2.1, x0.2.2.2.2.2.2.1, x0.2.2.2.2.2.2.2.1, x0.2.2.2.2.2.2.2.2.1)).bind fun y1 =>
  letJ (fun (x4 : Bool × Int × Int × Int × Int × Int × (List (ByteArray × (List (ByteArray × Int × Int × Int × Int × Int × Int × Int × Int × Int × Int)) × (List (ByteArray × ByteArray × Int × Int × Int × Int)) × (List (ByteArray × (List ByteArray) × Int)) × (List (List (Bool × List ByteArray))) × (List (ByteArray × ByteArray × Int)) × Int)) × (List (ByteArray × ByteArray × ByteArray × Int × Int × Int)) × Int × Int × ByteArray × Int × (List (List (List (ByteArray × Int × Int × Int × List (ByteArray × Int × Int))))) × Int × Int) =>
    let e6 := atI (ByteArray.mk #[], [], [], [], [], [], 0) x4.2.2.2.2.2.2.1 0
    let e7 := e6.1
    let e8 := e6.2
    let e9 := e6.2.1
    let e10 := e6.2.2
    let e11 := e6.2.2.1
    let e12 := e6.2.2.2
    let e13 := e6.2.2.2.1
    let e14 := e6.2.2.2.2
    let e15 := e6.2.2.2.2.1
    let e16 := e6.2.2.2.2.2
    let e17 := e6.2.2.2.2.2.1
    let e18 := e6.2.2.2.2.2.2
    bif x4.1 then
      (law18_awake n ()).bind fun y6 =>
      some y6
    else
      bif inB 0 x4.2.2.2.2.2.2.1.length then
        (times_Heads n (e7, e9, e11, e13, e15, e17, e18, x4.2.2.2.2.2.2.2.2.2.2)).bind fun y7 =>
        bif !(y7.1 == 0) then
          (law18_awake n ()).bind fun y8 =>
          some y8
        else
          (times_Length n x4.2.2.2.2.2.2.2.2.2.2).bind fun y9 =>
          bif !(((y7.2.length : Nat) : Int) == ((e9.length : Nat) : Int)) then
            some false
          else
          (iterL (Y := (Bool) ⊕ (Unit)) n (fun (x10 : Int × Int × ByteArray × (List (ByteArray × Int × Int × Int × Int × Int × Int × Int × Int × Int × Int)) × (List (ByteArray × ByteArray × Int × Int × Int × Int)) × (List (ByteArray × (List ByteArray) × Int)) × (List (List (Bool × List ByteArray))) × (List (ByteArray × ByteArray × Int)) × Int × List (ByteArray × Int × Int × Int × Int)) =>
            let e19 := x10.2.2.2.2.2.2.2.2.2.length
            let e20 := inB x10.2.1 e19
            let e21 := (atI (ByteArray.mk #[], 0, 0, 0, 0) x10.2.2.2.2.2.2.2.2.2 x10.2.1).2.2
            let e22 := (atI (ByteArray.mk #[], 0, 0, 0, 0) x10.2.2.2.2.2.2.2.2.2 x10.2.1).2.2.1
            bif decide (x10.2.1 < ((e19 : Nat) : Int)) then
              letJ (fun (x11 : Int × Int × Bool × ByteArray × (List (ByteArray × Int × Int × Int × Int × Int × Int × Int × Int × Int × Int)) × (List (ByteArray × ByteArray × Int × Int × Int × Int)) × (List (ByteArray × (List ByteArray) × Int)) × (List (List (Bool × List ByteArray))) × (List (ByteArray × ByteArray × Int)) × Int × List (ByteArray × Int × Int × Int × Int)) =>
                bif x11.2.2.1 then
                  some (.inr (.inl false))
                else
                (iterL (Y := (Bool) ⊕ (Int × Int × ByteArray × (List (ByteArray × Int × Int × Int × Int × Int × Int × Int × Int × Int × Int)) × (List (ByteArray × ByteArray × Int × Int × Int × Int)) × (List (ByteArray × (List ByteArray) × Int)) × (List (List (Bool × List ByteArray))) × (List (ByteArray × ByteArray × Int)) × Int × List (ByteArray × Int × Int × Int × Int))) n (fun (x13 : Int × Int × Int × ByteArray × (List (ByteArray × Int × Int × Int × Int × Int × Int × Int × Int × Int × Int)) × (List (ByteArray × ByteArray × Int × Int × Int × Int)) × (List (ByteArray × (List ByteArray) × Int)) × (List (List (Bool × List ByteArray))) × (List (ByteArray × ByteArray × Int)) × Int × List (ByteArray × Int × Int × Int × Int)) =>
                  let e23 := x13.2.2.2.2.1.length
                  let e24 := inB x13.2.1 e23
                  let e25 := inB x13.2.2.1 e23
                  let e26 := x13.2.2.2.2.2.2.2.2.2.2.length
                  let e27 := inB x13.2.1 e26
                  let e28 := inB x13.2.2.1 e26
                  let e29 := atI (ByteArray.mk #[], 0, 0, 0, 0) x13.2.2.2.2.2.2.2.2.2.2 x13.2.1
                  let e30 := e29.2
                  let e31 := e29.2.1
                  let e32 := e29.2.2
                  let e33 := e29.2.2.1
                  let e34 := e29.2.2.2
                  let e35 := e29.2.2.2.1
                  let e36 := e29.2.2.2.2
                  let e37 := atI (ByteArray.mk #[], 0, 0, 0, 0) x13.2.2.2.2.2.2.2.2.2.2 x13.2.2.1
                  let e38 := e37.2
                  let e39 := e37.2.2
                  let e40 := e37.2.2.2
                  bif decide (x13.2.2.1 < x13.2.1) then
                    bif e24 then
                      (law18_phase n (x13.2.2.2.1, x13.2.2.2.2.1, x13.2.2.2.2.2.1, x13.2.2.2.2.2.2.1, x13.2.2.2.2.2.2.2.1, x13.2.2.2.2.2.2.2.2.1, x13.2.2.2.2.2.2.2.2.2.1, (atI (ByteArray.mk #[], 0, 0, 0, 0, 0, 0, 0, 0, 0, 0) x13.2.2.2.2.1 x13.2.1).1)).bind fun y14 =>
                      bif e25 then
                        (law18_phase n (x13.2.2.2.1, x13.2.2.2.2.1, x13.2.2.2.2.2.1, x13.2.2.2.2.2.2.1, x13.2.2.2.2.2.2.2.1, x13.2.2.2.2.2.2.2.2.1, x13.2.2.2.2.2.2.2.2.2.1, (atI (ByteArray.mk #[], 0, 0, 0, 0, 0, 0, 0, 0, 0, 0) x13.2.2.2.2.1 x13.2.2.1).1)).bind fun y15 =>
                        let e41 := y14.2 == y15.2
                        bif e24 then
                          (ref07_Home n (x13.2.2.2.1, x13.2.2.2.2.1, x13.2.2.2.2.2.1, x13.2.2.2.2.2.2.1, x13.2.2.2.2.2.2.2.1, x13.2.2.2.2.2.2.2.2.1, x13.2.2.2.2.2.2.2.2.2.1, (atI (ByteArray.mk #[], 0, 0, 0, 0, 0, 0, 0, 0, 0, 0) x13.2.2.2.2.1 x13.2.1).1)).bind fun y16 =>
                          bif e25 then
                            (ref07_Home n (x13.2.2.2.1, x13.2.2.2.2.1, x13.2.2.2.2.2.1, x13.2.2.2.2.2.2.1, x13.2.2.2.2.2.2.2.1, x13.2.2.2.2.2.2.2.2.1, x13.2.2.2.2.2.2.2.2.2.1, (atI (ByteArray.mk #[], 0, 0, 0, 0, 0, 0, 0, 0, 0, 0) x13.2.2.2.2.1 x13.2.2.1).1)).bind fun y17 =>
                            let e42 := y16 == y17
                            letJ (fun (x22 : Int × Int × Int × Bool × ByteArray × (List (ByteArray × Int × Int × Int × Int × Int × Int × Int × Int × Int × Int)) × (List (ByteArray × ByteArray × Int × Int × Int × Int)) × (List (ByteArray × (List ByteArray) × Int)) × (List (List (Bool × List ByteArray))) × (List (ByteArray × ByteArray × Int)) × Int × List (ByteArray × Int × Int × Int × Int)) =>
                              bif x22.2.2.2.1 then
                                some (.inr (.inl false))
                              else
                              some (.inl (x22.1, x22.2.1, wrap64 (x22.2.2.1 + 1), x22.2.2.2.2))) fun J23 =>
                            bif e42 then
                              bif e27 then
                                bif e28 then
                                  bif !((e31 == e37.2.1) && ((e33 == e37.2.2.1) && true)) then
                                    J23 (x13.1, x13.2.1, x13.2.2.1, true, x13.2.2.2)
                                  else
                                  bif e27 then
                                    bif e28 then
                                      bif !((e35 == e37.2.2.2.1) && ((e36 == e37.2.2.2.2) && true)) then
                                        J23 (x13.1, x13.2.1, x13.2.2.1, true, x13.2.2.2)
                                      else
                                      bif !e42 then
                                        bif !(y14.1 == y15.1) then
                                          bif e27 then
                                            bif e28 then
                                              (law18_meet n (x13.1, e29.1, e31, e33, e35, e36, e37)).bind fun y18 =>
                                              J23 (x13.1, x13.2.1, x13.2.2.1, y18, x13.2.2.2)
                                            else
                                            none
                                          else
                                          none
                                        else
                                          bif e41 then
                                            bif e27 then
                                              bif e28 then
                                                (law18_meet n (x13.1, e29.1, e31, e33, e35, e36, e37)).bind fun y19 =>
                                                J23 (x13.1, x13.2.1, x13.2.2.1, y19, x13.2.2.2)
                                              else
                                              none
                                            else
                                            none
                                          else
                                          J23 (x13.1, x13.2.1, x13.2.2.1, false, x13.2.2.2)
                                      else
                                      J23 (x13.1, x13.2.1, x13.2.2.1, false, x13.2.2.2)
                                    else
                                    none
                                  else
                                  none
                                else
                                none
                              else
                              none
                            else
                              bif !e42 then
                                bif !(y14.1 == y15.1) then
                                  bif e27 then
                                    bif e28 then
                                      (law18_meet n (x13.1, e29.1, e31, e33, e35, e36, e37)).bind fun y20 =>
                                      J23 (x13.1, x13.2.1, x13.2.2.1, y20, x13.2.2.2)
                                    else
                                    none
                                  else
                                  none
                                else
                                  bif e41 then
                                    bif e27 then
                                      bif e28 then
                                        (law18_meet n (x13.1, e29.1, e31, e33, e35, e36, e37)).bind fun y21 =>
                                        J23 (x13.1, x13.2.1, x13.2.2.1, y21, x13.2.2.2)
                                      else
                                      none
                                    else
                                    none
                                  else
                                  J23 (x13.1, x13.2.1, x13.2.2.1, false, x13.2.2.2)
                              else
                              J23 (x13.1, x13.2.1, x13.2.2.1, false, x13.2.2.2)
                          else
                          none
                        else
                        none
                      else
                      none
                    else
                    none
                  else
                  some (.inr (.inr (x13.1, x13.2.1, x13.2.2.2)))) (x11.1, x11.2.1, 0, x11.2.2.2)).bind (Sum.elim (fun (z24 : Bool) =>
                  some (.inr (.inl z24))) (fun (z25 : Int × Int × ByteArray × (List (ByteArray × Int × Int × Int × Int × Int × Int × Int × Int × Int × Int)) × (List (ByteArray × ByteArray × Int × Int × Int × Int)) × (List (ByteArray × (List ByteArray) × Int)) × (List (List (Bool × List ByteArray))) × (List (ByteArray × ByteArray × Int)) × Int × List (ByteArray × Int × Int × Int × Int)) =>
                  some (.inl (z25.1, wrap64 (z25.2.1 + 1), z25.2.2))))) fun J12 =>
              bif e20 then
                bif decide (e22 < 1) then
                  J12 (x10.1, x10.2.1, true, x10.2.2)
                else
                bif e20 then
                  bif e20 then
                    J12 (x10.1, x10.2.1, decide (x10.1 < wrap64 (e22 + (atI (ByteArray.mk #[], 0, 0, 0, 0) x10.2.2.2.2.2.2.2.2.2 x10.2.1).2.2.2.2)), x10.2.2)
                  else
                  none
                else
                none
              else
              none
            else
            some (.inr (.inr ()))) (y9, 0, e7, e9, e11, e13, e15, e17, e18, y7.2)).bind (Sum.elim (fun (z26 : Bool) =>
            some z26) (fun (z27 : Unit) =>
            (law18_awake n ()).bind fun y28 =>
            some y28))
      else
      none) fun J5 =>
  (law06_Few n (x0.1, x0.2.1, x0.2.2.1, x0.2.2.2.1, x0.2.2.2.2.1, x0.2.2.2.2.2.1, x0.2.2.2.2.2.2.1, x0.2.2.2.2.2.2.2.1, x0.2.2.2.2.2.2.2.2.1)).bind fun y2 =>
  bif !y2 then
    J5 (true, x0)
  else
  bif !(y1.1 == 0) then
    J5 (true, x0)
  else
  bif inB 0 x0.2.2.2.2.2.1.length then
    (law18_Few n (e0.1, e0.2.1, e0.2.2.1, e0.2.2.2.1, e0.2.2.2.2.1, e0.2.2.2.2.2.1, e0.2.2.2.2.2.2, x0.2.2.2.2.2.2.2.2.2)).bind fun y3 =>
    J5 (!y3, x0)
  else
  none
def p_law18_TimesApart : Plan := .two (.leaf) (.two (.leaf) (.two (.two (.join ⟨slotsOf 189 [(2, .c (.box 2 0)), (3, .c (.box 3 0)), (38, .c (.hole (.bool)))], [(2, 42, [.hole (.int .i64), .hole (.int .i64), .hole (.int .i64), .hole (.int .i64), .hole (.int .i64), .hole (.sl 28), .hole (.sl 121), .hole (.int .i64), .hole (.int .i64)]), (3, 33, [.hole (.str), .hole (.int .i64), .hole (.sl 85), .hole (.int .i64), .hole (.int .i64)])], []⟩ (.leaf)) (.leaf)) (.two (.leaf) (.two (.leaf) (.two (.leaf) (.two (.leaf) (.two (.leaf) (.two (.two (.leaf) (.one (.loop ⟨slotsOf 189 [(7, .c (.box 7 0)), (8, .c (.row 14700)), (10, .c (.hole (.int .i64))), (11, .c (.hole (.int .i64)))], [(7, 28, [.hole (.str), .hole (.sl 72), .hole (.sl 66), .hole (.sl 111), .hole (.sl 125), .hole (.sl 163), .hole (.int .i64)])], [(14700, 59)]⟩ [(.ret, ⟨slotsOf 189 [(4, .c (.hole (.bool)))], [], []⟩), (.exit 0, ⟨slotsOf 189 [], [], []⟩)] (.two (.leaf) (.two (.one (.two (.two (.join ⟨slotsOf 189 [(7, .c (.box 7 0)), (8, .c (.row 14700)), (10, .c (.hole (.int .i64))), (11, .c (.hole (.int .i64))), (90, .c (.hole (.bool)))], [(7, 28, [.hole (.str), .hole (.sl 72), .hole (.sl 66), .hole (.sl 111), .hole (.sl 125), .hole (.sl 163), .hole (.int .i64)])], [(14700, 59)]⟩ (.leaf)) (.leaf)) (.two (.leaf) (.one (.loop ⟨slotsOf 189 [(7, .c (.box 7 0)), (8, .c (.row 14700)), (10, .c (.hole (.int .i64))), (11, .c (.hole (.int .i64))), (12, .c (.hole (.int .i64)))], [(7, 28, [.hole (.str), .hole (.sl 72), .hole (.sl 66), .hole (.sl 111), .hole (.sl 125), .hole (.sl 163), .hole (.int .i64)])], [(14700, 59)]⟩ [(.ret, ⟨slotsOf 189 [(4, .c (.hole (.bool)))], [], []⟩), (.exit 2, ⟨slotsOf 189 [(7, .c (.box 7 0)), (8, .c (.row 14700)), (10, .c (.hole (.int .i64))), (11, .c (.hole (.int .i64)))], [(7, 28, [.hole (.str), .hole (.sl 72), .hole (.sl 66), .hole (.sl 111), .hole (.sl 125), .hole (.sl 163), .hole (.int .i64)])], [(14700, 59)]⟩)] (.two (.leaf) (.two (.one (.two (.leaf) (.two (.leaf) (.two (.leaf) (.two (.join ⟨slotsOf 189 [(7, .c (.box 7 0)), (8, .c (.row 14700)), (10, .c (.hole (.int .i64))), (11, .c (.hole (.int .i64))), (12, .c (.hole (.int .i64))), (187, .c (.hole (.bool)))], [(7, 28, [.hole (.str), .hole (.sl 72), .hole (.sl 66), .hole (.sl 111), .hole (.sl 125), .hole (.sl 163), .hole (.int .i64)])], [(14700, 59)]⟩ (.leaf)) (.leaf)))))) (.leaf)))))))) (.leaf)))))) (.leaf)))))))))
noncomputable def c_law18_TimesApart (n : Nat) : Cx := ⟨Go.Proofs.Tryz.prog, Θ, [191, 57], [(19, ⟨h_ref07_Home, o_ref07_Home, ref07_Home n⟩), (7, ⟨h_ref07_Check, o_ref07_Check, ref07_Check n⟩), (16, ⟨h_law06_Few, o_law06_Few, law06_Few n⟩), (5, ⟨h_law18_Few, o_law18_Few, law18_Few n⟩), (13, ⟨h_times_Length, o_times_Length, times_Length n⟩), (10, ⟨h_times_Heads, o_times_Heads, times_Heads n⟩), (17, ⟨h_law18_awake, o_law18_awake, law18_awake n⟩), (18, ⟨h_law18_phase, o_law18_phase, law18_phase n⟩), (20, ⟨h_law18_meet, o_law18_meet, law18_meet n⟩)], [], []⟩
theorem d_law18_TimesApart (n : Nat) (x : h_law18_TimesApart.X T) : denF (c_law18_TimesApart n) n Go.Proofs.Tryz.f4 p_law18_TimesApart h_law18_TimesApart o_law18_TimesApart x = law18_TimesApart n x := by kernel_rfl
theorem s_law18_TimesApart (n : Nat) : PCalls Go.Proofs.Tryz.prog Θ 4 ⟨h_law18_TimesApart, o_law18_TimesApart, law18_TimesApart n⟩ :=
  func_ok' (C := c_law18_TimesApart n) (n := n) (p := p_law18_TimesApart) (ok_of mixed eqsOk ⟨s_ref07_Home n, s_ref07_Check n, s_law06_Few n, s_law18_Few n, s_times_Length n, s_times_Heads n, s_law18_awake n, s_law18_phase n, s_law18_meet n, trivial⟩ trivial trivial) Go.Proofs.Tryz.func4 (by kernel_rfl) (by kernel_rfl) (d_law18_TimesApart n) (by kernel_rfl)

end Go.Proofs.YtakkhnoelnpfdaaGreat.Fn
