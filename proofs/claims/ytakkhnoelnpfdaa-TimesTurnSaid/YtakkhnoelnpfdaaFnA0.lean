/- Functions of the program, each as a plain function, and that the machine does what it says. -/
import Derived.Test.YtakkhnoelnpfdaaGiven
namespace Go.Proofs.Ytakkhnoelnpfdaa.Fn
set_option linter.unusedVariables false
set_option maxRecDepth 100000
open Go Go.RowKit Go.Den
/-- slices.SortFunc[[]carrefour/circle.piece,carrefour/circle.piece] -/
def h_slices_SortFunc : Shape := ⟨slotsOf 2 [(0, .c (.row 1000000)), (1, .c (.fn 152 []))], [], [(1000000, 219)]⟩
def o_slices_SortFunc : List (Ex × Shape) := [(.ret, ⟨slotsOf 0 [], [], [(1000000, 219)]⟩)]
def slices_SortFunc (n : Nat) (x : List (Int × Int)) : Option (List (Int × Int)) := sortF (0, 0) (fun a b : Int × Int => Go.Lib.compareInt a.1 b.1) x
theorem s_slices_SortFunc (n : Nat) : PCalls Go.Proofs.Try.prog Θ 151 ⟨h_slices_SortFunc, o_slices_SortFunc, slices_SortFunc n⟩ := sortPc_calls

/-- slices.DeleteFunc[[]string,string] -/
def h_slices_DeleteFunc : Shape := ⟨slotsOf 2 [(0, .c (.row 1000000)), (1, .c (.fn 146 [1000000]))], [(1000000, 121, [.hole (.str), .hole (.int .i64), .hole (.int .i64), .hole (.int .i64), .hole (.sl 143)])], [(1000000, 9)]⟩
def o_slices_DeleteFunc : List (Ex × Shape) := [(.ret, ⟨slotsOf 1 [(0, .c (.row 2000000))], [(1000000, 121, [.hole (.str), .hole (.int .i64), .hole (.int .i64), .hole (.int .i64), .hole (.sl 143)])], [(2000000, 9)]⟩)]
def slices_DeleteFunc (n : Nat) (x : ByteArray × Int × Int × Int × List (ByteArray × Int × Int) × List ByteArray) : Option (ByteArray × Int × Int × Int × List (ByteArray × Int × Int) × List ByteArray) := delF (fun s y => strEq y s) x
theorem s_slices_DeleteFunc (n : Nat) : PCalls Go.Proofs.Try.prog Θ 145 ⟨h_slices_DeleteFunc, o_slices_DeleteFunc, slices_DeleteFunc n⟩ := delStr_calls

/-- carrefour/circle.cycle -/
def h_circle_cycle : Shape := ⟨slotsOf 1 [(0, .c (.hole (.int .i64)))], [], []⟩
def o_circle_cycle : List (Ex × Shape) := [(.ret, ⟨slotsOf 1 [(0, .c (.hole (.bool)))], [], []⟩)]
def circle_cycle (n : Nat) (x0 : Int) : Option (Bool) :=
  bif decide (1 ≤ x0) then
    some (decide (x0 ≤ 6000))
  else
  some false
def p_circle_cycle : Plan := .leaf
noncomputable def c_circle_cycle (n : Nat) : Cx := ⟨Go.Proofs.Try.prog, Θ, [219, 74], [], [], []⟩
theorem d_circle_cycle (n : Nat) (x : h_circle_cycle.X T) : denF (c_circle_cycle n) n Go.Proofs.Try.f125 p_circle_cycle h_circle_cycle o_circle_cycle x = circle_cycle n x := by kernel_rfl
theorem s_circle_cycle (n : Nat) : PCalls Go.Proofs.Try.prog Θ 125 ⟨h_circle_cycle, o_circle_cycle, circle_cycle n⟩ :=
  func_ok' (C := c_circle_cycle n) (n := n) (p := p_circle_cycle) (ok_of mixed eqsOk trivial trivial trivial) Go.Proofs.Try.func125 (by kernel_rfl) (by kernel_rfl) (d_circle_cycle n) (by kernel_rfl)

/-- carrefour/whole.Mod -/
def h_whole_Mod : Shape := ⟨slotsOf 2 [(0, .c (.hole (.int .i64))), (1, .c (.hole (.int .i64)))], [], []⟩
def o_whole_Mod : List (Ex × Shape) := [(.ret, ⟨slotsOf 2 [(0, .c (.hole (.int .i64))), (1, .c (.hole (.int .i64)))], [], []⟩)]
def whole_Mod (n : Nat) (x0 : Int × Int) : Option (Int × Int) :=
  let e0 := Int.tmod x0.1 x0.2
  bif decide (x0.2 < 1) then
    some (0, 1)
  else
  bif !(x0.2 == 0) then
    bif decide (e0 < 0) then
      some (wrap64 (e0 + x0.2), 0)
    else
    some (e0, 0)
  else
  none
def p_whole_Mod : Plan := .leaf
noncomputable def c_whole_Mod (n : Nat) : Cx := ⟨Go.Proofs.Try.prog, Θ, [219, 74], [], [], []⟩
theorem d_whole_Mod (n : Nat) (x : h_whole_Mod.X T) : denF (c_whole_Mod n) n Go.Proofs.Try.f148 p_whole_Mod h_whole_Mod o_whole_Mod x = whole_Mod n x := by kernel_rfl
theorem s_whole_Mod (n : Nat) : PCalls Go.Proofs.Try.prog Θ 148 ⟨h_whole_Mod, o_whole_Mod, whole_Mod n⟩ :=
  func_ok' (C := c_whole_Mod n) (n := n) (p := p_whole_Mod) (ok_of mixed eqsOk trivial trivial trivial) Go.Proofs.Try.func148 (by kernel_rfl) (by kernel_rfl) (d_whole_Mod n) (by kernel_rfl)

/-- carrefour/circle.modulo -/
def h_circle_modulo : Shape := ⟨slotsOf 2 [(0, .c (.hole (.int .i64))), (1, .c (.hole (.int .i64)))], [], []⟩
def o_circle_modulo : List (Ex × Shape) := [(.ret, ⟨slotsOf 1 [(0, .c (.hole (.int .i64)))], [], []⟩)]
def circle_modulo (n : Nat) (x0 : Int × Int) : Option (Int) :=
  (whole_Mod n x0).bind fun y1 =>
  some y1.1
def p_circle_modulo : Plan := .leaf
noncomputable def c_circle_modulo (n : Nat) : Cx := ⟨Go.Proofs.Try.prog, Θ, [219, 74], [(148, ⟨h_whole_Mod, o_whole_Mod, whole_Mod n⟩)], [], []⟩
theorem d_circle_modulo (n : Nat) (x : h_circle_modulo.X T) : denF (c_circle_modulo n) n Go.Proofs.Try.f126 p_circle_modulo h_circle_modulo o_circle_modulo x = circle_modulo n x := by kernel_rfl
theorem s_circle_modulo (n : Nat) : PCalls Go.Proofs.Try.prog Θ 126 ⟨h_circle_modulo, o_circle_modulo, circle_modulo n⟩ :=
  func_ok' (C := c_circle_modulo n) (n := n) (p := p_circle_modulo) (ok_of mixed eqsOk ⟨s_whole_Mod n, trivial⟩ trivial trivial) Go.Proofs.Try.func126 (by kernel_rfl) (by kernel_rfl) (d_circle_modulo n) (by kernel_rfl)

/-- carrefour/circle.Norm -/
def h_circle_Norm : Shape := ⟨slotsOf 2 [(0, .c (.hole (.int .i64))), (1, .agg [.hole (.int .i64), .hole (.int .i64)])], [], []⟩
def o_circle_Norm : List (Ex × Shape) := [(.ret, ⟨slotsOf 1 [(0, .agg [.hole (.int .i64), .hole (.int .i64)])], [], []⟩)]
def circle_Norm (n : Nat) (x0 : Int × Int × Int) : Option (Int × Int) :=
  letJ (fun (x2 : Int × Bool × Int × Int × Int × Int) =>
    bif x2.2.1 then
      some (0, 0)
    else
    bif decide (x2.1 ≤ x2.2.2.2.1) then
      some (0, x2.1)
    else
    (circle_modulo n (x2.2.2.1, x2.1)).bind fun y4 =>
    some (y4, x2.2.2.2.1)) fun J3 =>
  (circle_cycle n x0.1).bind fun y1 =>
  bif !y1 then
    J3 (x0.1, true, x0.2.1, x0.2.2, 0, 0)
  else
  J3 (x0.1, decide (x0.2.2 < 1), x0.2.1, x0.2.2, 0, 0)
def p_circle_Norm : Plan := .two (.leaf) (.two (.one (.two (.join ⟨slotsOf 29 [(0, .c (.hole (.int .i64))), (3, .c (.box 3 0)), (4, .c (.box 4 0)), (5, .c (.hole (.bool)))], [(3, 74, [.hole (.int .i64), .hole (.int .i64)]), (4, 74, [.hole (.int .i64), .hole (.int .i64)])], []⟩ (.leaf)) (.leaf))) (.leaf))
noncomputable def c_circle_Norm (n : Nat) : Cx := ⟨Go.Proofs.Try.prog, Θ, [219, 74], [(125, ⟨h_circle_cycle, o_circle_cycle, circle_cycle n⟩), (126, ⟨h_circle_modulo, o_circle_modulo, circle_modulo n⟩)], [], []⟩
theorem d_circle_Norm (n : Nat) (x : h_circle_Norm.X T) : denF (c_circle_Norm n) n Go.Proofs.Try.f81 p_circle_Norm h_circle_Norm o_circle_Norm x = circle_Norm n x := by kernel_rfl
theorem s_circle_Norm (n : Nat) : PCalls Go.Proofs.Try.prog Θ 81 ⟨h_circle_Norm, o_circle_Norm, circle_Norm n⟩ :=
  func_ok' (C := c_circle_Norm n) (n := n) (p := p_circle_Norm) (ok_of mixed eqsOk ⟨s_circle_cycle n, s_circle_modulo n, trivial⟩ trivial trivial) Go.Proofs.Try.func81 (by kernel_rfl) (by kernel_rfl) (d_circle_Norm n) (by kernel_rfl)

/-- carrefour/circle.cut -/
def h_circle_cut : Shape := ⟨slotsOf 2 [(0, .c (.hole (.int .i64))), (1, .c (.hole (.sl 74)))], [], []⟩
def o_circle_cut : List (Ex × Shape) := [(.ret, ⟨slotsOf 1 [(0, .c (.fn 168 [0, 1]))], [(0, 82, [.hole (.sl 74)]), (1, 2, [.hole (.int .i64)])], []⟩)]
def circle_cut (n : Nat) (x0 : Int × List (Int × Int)) : Option ((List (Int × Int)) × Int) :=
  some (x0.2, x0.1)
def p_circle_cut : Plan := .leaf
noncomputable def c_circle_cut (n : Nat) : Cx := ⟨Go.Proofs.Try.prog, Θ, [219, 74], [], [], []⟩
theorem d_circle_cut (n : Nat) (x : h_circle_cut.X T) : denF (c_circle_cut n) n Go.Proofs.Try.f150 p_circle_cut h_circle_cut o_circle_cut x = circle_cut n x := by kernel_rfl
theorem s_circle_cut (n : Nat) : PCalls Go.Proofs.Try.prog Θ 150 ⟨h_circle_cut, o_circle_cut, circle_cut n⟩ :=
  func_ok' (C := c_circle_cut n) (n := n) (p := p_circle_cut) (ok_of mixed eqsOk trivial trivial trivial) Go.Proofs.Try.func150 (by kernel_rfl) (by kernel_rfl) (d_circle_cut n) (by kernel_rfl)

/-- carrefour/circle.pieces_round -/
def h_circle_pieces_round : Shape := ⟨slotsOf 2 [(0, .agg [.hole (.int .i64), .hole (.int .i64)]), (1, .c (.box 1000000 0))], [(1000000, 190, [.row 1000000])], [(1000000, 219)]⟩
def o_circle_pieces_round : List (Ex × Shape) := [(.ret, ⟨slotsOf 1 [(0, .c (.hole (.bool)))], [(1000000, 190, [.row 2000000])], [(2000000, 219)]⟩)]
noncomputable def R_1280 : Rng := rng Go.Proofs.Try.f128 0 [5]
def yok_1280 : Prop := Θ.Y 1280 = some R_1280
def circle_pieces_round (n : Nat) (x0 : Int × Int × List (Int × Int)) : Option (Bool × List (Int × Int)) :=
  let e0 := (x0.1, x0.2.1) :: []
  bif fitB (x0.2.2.length + e0.length) 16 then
    some (true, x0.2.2 ++ e0)
  else
  none
def p_circle_pieces_round : Plan := .leaf
noncomputable def c_circle_pieces_round (n : Nat) : Cx := ⟨Go.Proofs.Try.prog, Θ, [219, 74], [], [], []⟩
theorem d_circle_pieces_round (n : Nat) (x : h_circle_pieces_round.X T) : denY (c_circle_pieces_round n) n R_1280 p_circle_pieces_round h_circle_pieces_round o_circle_pieces_round x = circle_pieces_round n x := by kernel_rfl
theorem yokT_1280 : yok_1280 := by unfold yok_1280; kernel_rfl
theorem s_circle_pieces_round (n : Nat) : PYields Go.Proofs.Try.prog Θ 1280 ⟨h_circle_pieces_round, o_circle_pieces_round, circle_pieces_round n⟩ :=
  yield_ok (C := c_circle_pieces_round n) (n := n) (R := R_1280) (p := p_circle_pieces_round) (ok_of mixed eqsOk trivial trivial trivial) yokT_1280 (by kernel_rfl) (by kernel_rfl) (by kernel_rfl) (by kernel_rfl) (d_circle_pieces_round n)

/-- carrefour/circle.cut$1 -/
def h_circle_cut_1 : Shape := ⟨slotsOf 3 [(0, .yld 1280 [.c (.box 1000000 0)]), (1, .c (.box 1000001 0)), (2, .c (.box 1000002 0))], [(1000000, 190, [.row 1000000]), (1000001, 82, [.hole (.sl 74)]), (1000002, 2, [.hole (.int .i64)])], [(1000000, 219)]⟩
def o_circle_cut_1 : List (Ex × Shape) := [(.ret, ⟨slotsOf 0 [], [(1000000, 190, [.row 2000000]), (1000001, 82, [.hole (.sl 74)]), (1000002, 2, [.hole (.int .i64)])], [(2000000, 219)]⟩)]
def circle_cut_1 (n : Nat) (x0 : (List (Int × Int)) × Int × List (Int × Int)) : Option ((List (Int × Int)) × Int × List (Int × Int)) :=
  (iterL (Y := ((List (Int × Int)) × Int × List (Int × Int)) ⊕ ((List (Int × Int)) × Int × List (Int × Int))) n (fun (x7 : (List (Int × Int)) × Int × Int × (List (Int × Int)) × Int × List (Int × Int)) =>
    bif decide (x7.2.2.1 < x7.2.1) then
      bif inB x7.2.2.1 x7.1.length then
        (circle_Norm n (x7.2.2.2.2.1, atI (0, 0) x7.1 x7.2.2.1)).bind fun y8 =>
        let e0 := wrap64 (y8.1 + y8.2)
        bif y8.2 == 0 then
          some (.inl (x7.1, x7.2.1, wrap64 (x7.2.2.1 + 1), x7.2.2.2))
        else
        letJ (fun (x11 : (List (Int × Int)) × Int × Int × Bool × (List (Int × Int)) × Int × List (Int × Int)) =>
          bif x11.2.2.2.1 then
            some (.inr (.inl x11.2.2.2.2))
          else
          some (.inl (x11.1, x11.2.1, wrap64 (x11.2.2.1 + 1), x11.2.2.2.2))) fun J12 =>
        (circle_pieces_round n (y8.1, mn e0 x7.2.2.2.2.1, x7.2.2.2.2.2)).bind fun y9 =>
        bif !y9.1 then
          J12 (x7.1, x7.2.1, x7.2.2.1, true, x7.2.2.2.1, x7.2.2.2.2.1, y9.2)
        else
        bif decide (x7.2.2.2.2.1 < e0) then
          (circle_pieces_round n (0, wrap64 (e0 - x7.2.2.2.2.1), y9.2)).bind fun y10 =>
          J12 (x7.1, x7.2.1, x7.2.2.1, !y10.1, x7.2.2.2.1, x7.2.2.2.2.1, y10.2)
        else
        J12 (x7.1, x7.2.1, x7.2.2.1, false, x7.2.2.2.1, x7.2.2.2.2.1, y9.2)
      else
      none
    else
    some (.inr (.inr x7.2.2.2))) (x0.1, ((x0.1.length : Nat) : Int), 0, x0)).bind (Sum.elim (fun (z13 : (List (Int × Int)) × Int × List (Int × Int)) =>
    some z13) (fun (z14 : (List (Int × Int)) × Int × List (Int × Int)) =>
    some z14))
def p_circle_cut_1 : Plan := .two (.leaf) (.one (.loop ⟨slotsOf 48 [(0, .yld 1280 [.c (.box 1000000 0)]), (2, .c (.box 1000002 0)), (7, .c (.hole (.sl 74))), (8, .c (.hole (.int .i64))), (9, .c (.hole (.int .i64)))], [(1000000, 190, [.row 2000000]), (1000001, 82, [.hole (.sl 74)]), (1000002, 2, [.hole (.int .i64)])], [(2000000, 219)]⟩ [(.ret, ⟨slotsOf 48 [], [(1000000, 190, [.row 2000000]), (1000001, 82, [.hole (.sl 74)]), (1000002, 2, [.hole (.int .i64)])], [(2000000, 219)]⟩), (.exit 0, ⟨slotsOf 48 [], [(1000000, 190, [.row 2000000]), (1000001, 82, [.hole (.sl 74)]), (1000002, 2, [.hole (.int .i64)])], [(2000000, 219)]⟩)] (.two (.leaf) (.two (.leaf) (.two (.one (.two (.leaf) (.two (.leaf) (.two (.leaf) (.two (.leaf) (.two (.join ⟨slotsOf 48 [(0, .yld 1280 [.c (.box 1000000 0)]), (2, .c (.box 1000002 0)), (7, .c (.hole (.sl 74))), (8, .c (.hole (.int .i64))), (9, .c (.hole (.int .i64))), (46, .c (.hole (.bool)))], [(1000000, 190, [.row 2000000]), (1000001, 82, [.hole (.sl 74)]), (1000002, 2, [.hole (.int .i64)])], [(2000000, 219)]⟩ (.leaf)) (.leaf))))))) (.leaf))))))
noncomputable def c_circle_cut_1 (n : Nat) : Cx := ⟨Go.Proofs.Try.prog, Θ, [219, 74], [(81, ⟨h_circle_Norm, o_circle_Norm, circle_Norm n⟩)], [(1280, ⟨h_circle_pieces_round, o_circle_pieces_round, circle_pieces_round n⟩)], []⟩
theorem d_circle_cut_1 (n : Nat) (x : h_circle_cut_1.X T) : denF (c_circle_cut_1 n) n Go.Proofs.Try.f168 p_circle_cut_1 h_circle_cut_1 o_circle_cut_1 x = circle_cut_1 n x := by kernel_rfl
theorem s_circle_cut_1 (n : Nat) : PCalls Go.Proofs.Try.prog Θ 168 ⟨h_circle_cut_1, o_circle_cut_1, circle_cut_1 n⟩ :=
  func_ok' (C := c_circle_cut_1 n) (n := n) (p := p_circle_cut_1) (ok_of mixed eqsOk ⟨s_circle_Norm n, trivial⟩ ⟨s_circle_pieces_round n, trivial⟩ trivial) Go.Proofs.Try.func168 (by kernel_rfl) (by kernel_rfl) (d_circle_cut_1 n) (by kernel_rfl)

/-- carrefour/circle.pieces -/
def h_circle_pieces : Shape := ⟨slotsOf 2 [(0, .c (.hole (.int .i64))), (1, .c (.hole (.sl 74)))], [], []⟩
def o_circle_pieces : List (Ex × Shape) := [(.ret, ⟨slotsOf 1 [(0, .c (.row 0))], [], [(0, 219)]⟩)]
noncomputable def circle_pieces (n : Nat) (x0 : Int × List (Int × Int)) : Option (List (Int × Int)) :=
  (circle_cut n x0).bind fun y1 =>
  ifY yok_1280 (
    (circle_cut_1 n (y1.1, y1.2, [])).bind fun y2 =>
    (slices_SortFunc n y2.2.2).bind fun y3 =>
    (iterL (Y := (List (Int × Int))) n (fun (x5 : Int × Int × (List (Int × Int)) × List (Int × Int)) =>
      bif decide (x5.2.1 < x5.1) then
        bif inB x5.2.1 x5.2.2.2.length then
          letJ (fun (x6 : Int × Int × Int × Bool × Int × Int × (List (Int × Int)) × List (Int × Int)) =>
            bif x6.2.2.2.1 then
              bif inB (wrap64 (x6.1 - 1)) x6.2.2.2.2.2.2.1.length then
                bif inB (wrap64 (x6.1 - 1)) x6.2.2.2.2.2.2.1.length then
                  some (.inl (x6.2.1, wrap64 (x6.2.2.1 + 1), List.set x6.2.2.2.2.2.2.1 (Int.toNat (wrap64 (x6.1 - 1))) ((atI (0, 0) x6.2.2.2.2.2.2.1 (wrap64 (x6.1 - 1))).1, mx (atI (0, 0) x6.2.2.2.2.2.2.1 (wrap64 (x6.1 - 1))).2 x6.2.2.2.2.2.1), x6.2.2.2.2.2.2.2))
                else
                none
              else
              none
            else
              bif fitB (x6.2.2.2.2.2.2.1.length + (List.length ((x6.2.2.2.2.1, x6.2.2.2.2.2.1) :: []))) 16 then
                some (.inl (x6.2.1, wrap64 (x6.2.2.1 + 1), x6.2.2.2.2.2.2.1 ++ ((x6.2.2.2.2.1, x6.2.2.2.2.2.1) :: []), x6.2.2.2.2.2.2.2))
              else
              none) fun J7 =>
          bif decide (0 < ((x5.2.2.1.length : Nat) : Int)) then
            bif inB (wrap64 (((x5.2.2.1.length : Nat) : Int) - 1)) x5.2.2.1.length then
              J7 (((x5.2.2.1.length : Nat) : Int), x5.1, x5.2.1, decide ((atI (0, 0) x5.2.2.2 x5.2.1).1 ≤ (atI (0, 0) x5.2.2.1 (wrap64 (((x5.2.2.1.length : Nat) : Int) - 1))).2), (atI (0, 0) x5.2.2.2 x5.2.1).1, (atI (0, 0) x5.2.2.2 x5.2.1).2, x5.2.2)
            else
            none
          else
          J7 (((x5.2.2.1.length : Nat) : Int), x5.1, x5.2.1, false, (atI (0, 0) x5.2.2.2 x5.2.1).1, (atI (0, 0) x5.2.2.2 x5.2.1).2, x5.2.2)
        else
        none
      else
      some (.inr x5.2.2.1)) (((y3.length : Nat) : Int), 0, [], y3)).bind fun (z8 : List (Int × Int)) =>
      some z8)
def p_circle_pieces : Plan := .two (.leaf) (.two (.leaf) (.two (.two (.leaf) (.one (.range 1280 [5]))) (.two (.leaf) (.two (.leaf) (.two (.two (.leaf) (.one (.loop ⟨slotsOf 62 [(7, .c (.row 59)), (21, .c (.row 910500)), (22, .c (.hole (.int .i64))), (23, .c (.hole (.int .i64)))], [], [(59, 219), (910500, 219)]⟩ [(.exit 2, ⟨slotsOf 62 [(7, .c (.row 59))], [], [(59, 219)]⟩)] (.two (.leaf) (.two (.leaf) (.two (.one (.two (.leaf) (.two (.two (.leaf) (.two (.join ⟨slotsOf 62 [(7, .c (.row 59)), (9, .c (.box 9 0)), (10, .c (.hole (.int .i64))), (21, .c (.row 910500)), (22, .c (.hole (.int .i64))), (23, .c (.hole (.int .i64))), (41, .c (.hole (.bool)))], [(9, 219, [.hole (.int .i64), .hole (.int .i64)])], [(59, 219), (910500, 219)]⟩ (.leaf)) (.leaf))) (.leaf)))) (.leaf))))))) (.leaf))))))
noncomputable def c_circle_pieces (n : Nat) : Cx := ⟨Go.Proofs.Try.prog, Θ, [219, 74], [(151, ⟨h_slices_SortFunc, o_slices_SortFunc, slices_SortFunc n⟩), (150, ⟨h_circle_cut, o_circle_cut, circle_cut n⟩), (168, ⟨h_circle_cut_1, o_circle_cut_1, circle_cut_1 n⟩)], [], []⟩
theorem d_circle_pieces (n : Nat) (x : h_circle_pieces.X T) : denF (c_circle_pieces n) n Go.Proofs.Try.f128 p_circle_pieces h_circle_pieces o_circle_pieces x = circle_pieces n x := by kernel_rfl
theorem s_circle_pieces (n : Nat) : PCalls Go.Proofs.Try.prog Θ 128 ⟨h_circle_pieces, o_circle_pieces, circle_pieces n⟩ :=
  func_ok' (C := c_circle_pieces n) (n := n) (p := p_circle_pieces) (ok_of mixed eqsOk ⟨s_slices_SortFunc n, s_circle_cut n, s_circle_cut_1 n, trivial⟩ trivial trivial) Go.Proofs.Try.func128 (by kernel_rfl) (by kernel_rfl) (d_circle_pieces n) (by kernel_rfl)

/-- slices.Clone[[]carrefour/circle.piece,carrefour/circle.piece] -/
def h_slices_Clone : Shape := ⟨slotsOf 1 [(0, .c (.hole (.sl 219)))], [], []⟩
def o_slices_Clone : List (Ex × Shape) := [(.ret, ⟨slotsOf 1 [(0, .c (.row 0))], [], [(0, 219)]⟩)]
noncomputable def slices_Clone (n : Nat) (x0 : List (Int × Int)) : Option (List (Int × Int)) :=
  let e0 := fitB x0.length 16
  bif List.isEmpty x0 then
    both (
      some []) (
      bif e0 then
        some x0
      else
      none)
  else
    bif e0 then
      some x0
    else
    none
def p_slices_Clone : Plan := .leaf
noncomputable def c_slices_Clone (n : Nat) : Cx := ⟨Go.Proofs.Try.prog, Θ, [219, 74], [], [], []⟩
theorem d_slices_Clone (n : Nat) (x : h_slices_Clone.X T) : denF (c_slices_Clone n) n Go.Proofs.Try.f149 p_slices_Clone h_slices_Clone o_slices_Clone x = slices_Clone n x := by kernel_rfl
theorem s_slices_Clone (n : Nat) : PCalls Go.Proofs.Try.prog Θ 149 ⟨h_slices_Clone, o_slices_Clone, slices_Clone n⟩ :=
  func_ok' (C := c_slices_Clone n) (n := n) (p := p_slices_Clone) (ok_of mixed eqsOk trivial trivial trivial) Go.Proofs.Try.func149 (by kernel_rfl) (by kernel_rfl) (d_slices_Clone n) (by kernel_rfl)

/-- carrefour/circle.arcs -/
def h_circle_arcs : Shape := ⟨slotsOf 2 [(0, .c (.hole (.int .i64))), (1, .c (.hole (.sl 219)))], [], []⟩
def o_circle_arcs : List (Ex × Shape) := [(.ret, ⟨slotsOf 1 [(0, .c (.row 0))], [], [(0, 74)]⟩)]
noncomputable def circle_arcs (n : Nat) (x0 : Int × List (Int × Int)) : Option (List (Int × Int)) :=
  let e0 := x0.2.length
  let e1 := ((e0 : Nat) : Int)
  let e2 := wrap64 (e1 - 1)
  bif e1 == 0 then
    some []
  else
  letJ (fun (x4 : List (Int × Int)) =>
    (iterL (Y := (List (Int × Int))) n (fun (x7 : (List (Int × Int)) × Int × Int × List (Int × Int)) =>
      let e3 := atI (0, 0) x7.1 x7.2.2.1
      let e4 := e3.1
      let e5 := (e4, wrap64 (e3.2 - e4)) :: []
      bif decide (x7.2.2.1 < x7.2.1) then
        bif inB x7.2.2.1 x7.1.length then
          bif fitB (x7.2.2.2.length + e5.length) 16 then
            some (.inl (x7.1, x7.2.1, wrap64 (x7.2.2.1 + 1), x7.2.2.2 ++ e5))
          else
          none
        else
        none
      else
      some (.inr x7.2.2.2)) (x4, ((x4.length : Nat) : Int), 0, [])).bind fun (z8 : List (Int × Int)) =>
      some z8) fun J5 =>
  letJ (fun (x1 : Int × (List (Int × Int)) × Int × Bool) =>
    let e6 := x1.2.1.length
    let e7 := ((atI (0, 0) x1.2.1 x1.2.2.1).1, wrap64 (x1.1 + (atI (0, 0) x1.2.1 0).2)) :: []
    bif x1.2.2.2 then
      bif cutOk (some 1) (some x1.2.2.1) e6 then
        (slices_Clone n (cutList (some 1) (some x1.2.2.1) x1.2.1)).bind fun y3 =>
        bif inB x1.2.2.1 e6 then
          bif inB 0 e6 then
            bif fitB (y3.length + e7.length) 16 then
              J5 (y3 ++ e7)
            else
            none
          else
          none
        else
        none
      else
      none
    else
    J5 x1.2.1) fun J2 =>
  bif decide (0 < e2) then
    bif inB 0 e0 then
      bif (atI (0, 0) x0.2 0).1 == 0 then
        bif inB e2 e0 then
          J2 (x0.1, x0.2, e2, (atI (0, 0) x0.2 e2).2 == x0.1)
        else
        none
      else
      J2 (x0.1, x0.2, e2, false)
    else
    none
  else
  J2 (x0.1, x0.2, e2, false)
def p_circle_arcs : Plan := .two (.leaf) (.two (.leaf) (.two (.leaf) (.two (.join ⟨slotsOf 70 [(1, .c (.hole (.sl 219)))], [], []⟩ (.two (.join ⟨slotsOf 70 [(0, .c (.hole (.int .i64))), (1, .c (.hole (.sl 219))), (5, .c (.hole (.int .i64))), (32, .c (.hole (.bool)))], [], []⟩ (.leaf)) (.leaf))) (.two (.leaf) (.two (.two (.leaf) (.one (.loop ⟨slotsOf 70 [(6, .c (.row 67)), (51, .c (.hole (.sl 219))), (52, .c (.hole (.int .i64))), (53, .c (.hole (.int .i64)))], [], [(67, 74)]⟩ [(.exit 0, ⟨slotsOf 70 [(6, .c (.row 67))], [], [(67, 74)]⟩)] (.leaf)))) (.leaf))))))
noncomputable def c_circle_arcs (n : Nat) : Cx := ⟨Go.Proofs.Try.prog, Θ, [219, 74], [(149, ⟨h_slices_Clone, o_slices_Clone, slices_Clone n⟩)], [], []⟩
theorem d_circle_arcs (n : Nat) (x : h_circle_arcs.X T) : denF (c_circle_arcs n) n Go.Proofs.Try.f127 p_circle_arcs h_circle_arcs o_circle_arcs x = circle_arcs n x := by kernel_rfl
theorem s_circle_arcs (n : Nat) : PCalls Go.Proofs.Try.prog Θ 127 ⟨h_circle_arcs, o_circle_arcs, circle_arcs n⟩ :=
  func_ok' (C := c_circle_arcs n) (n := n) (p := p_circle_arcs) (ok_of mixed eqsOk ⟨s_slices_Clone n, trivial⟩ trivial trivial) Go.Proofs.Try.func127 (by kernel_rfl) (by kernel_rfl) (d_circle_arcs n) (by kernel_rfl)

/-- carrefour/circle.Set -/
def h_circle_Set : Shape := ⟨slotsOf 2 [(0, .c (.hole (.int .i64))), (1, .c (.hole (.sl 74)))], [], []⟩
def o_circle_Set : List (Ex × Shape) := [(.ret, ⟨slotsOf 1 [(0, .c (.row 0))], [], [(0, 74)]⟩)]
noncomputable def circle_Set (n : Nat) (x0 : Int × List (Int × Int)) : Option (List (Int × Int)) :=
  (circle_pieces n x0).bind fun y1 =>
  (circle_arcs n (x0.1, y1)).bind fun y2 =>
  some y2
def p_circle_Set : Plan := .leaf
noncomputable def c_circle_Set (n : Nat) : Cx := ⟨Go.Proofs.Try.prog, Θ, [219, 74], [(128, ⟨h_circle_pieces, o_circle_pieces, circle_pieces n⟩), (127, ⟨h_circle_arcs, o_circle_arcs, circle_arcs n⟩)], [], []⟩
theorem d_circle_Set (n : Nat) (x : h_circle_Set.X T) : denF (c_circle_Set n) n Go.Proofs.Try.f82 p_circle_Set h_circle_Set o_circle_Set x = circle_Set n x := by kernel_rfl
theorem s_circle_Set (n : Nat) : PCalls Go.Proofs.Try.prog Θ 82 ⟨h_circle_Set, o_circle_Set, circle_Set n⟩ :=
  func_ok' (C := c_circle_Set n) (n := n) (p := p_circle_Set) (ok_of mixed eqsOk ⟨s_circle_pieces n, s_circle_arcs n, trivial⟩ trivial trivial) Go.Proofs.Try.func82 (by kernel_rfl) (by kernel_rfl) (d_circle_Set n) (by kernel_rfl)

/-- carrefour/circle.Gap -/
def h_circle_Gap : Shape := ⟨slotsOf 3 [(0, .c (.hole (.int .i64))), (1, .agg [.hole (.int .i64), .hole (.int .i64)]), (2, .agg [.hole (.int .i64), .hole (.int .i64)])], [], []⟩
def o_circle_Gap : List (Ex × Shape) := [(.ret, ⟨slotsOf 1 [(0, .c (.hole (.int .i64)))], [], []⟩)]
def circle_Gap (n : Nat) (x0 : Int × Int × Int × Int × Int) : Option (Int) :=
  (circle_Norm n (x0.1, x0.2.1, x0.2.2.1)).bind fun y1 =>
  (circle_Norm n (x0.1, x0.2.2.2)).bind fun y2 =>
  letJ (fun (x3 : Int × Bool × Int × Int × Int × Int) =>
    bif x3.2.1 then
      some 0
    else
    (circle_modulo n (wrap64 ((wrap64 (x3.2.2.2.2.1 - x3.2.2.1)) - x3.2.2.2.1), x3.1)).bind fun y5 =>
    some y5) fun J4 =>
  bif y1.2 == 0 then
    J4 (x0.1, true, y1.1, y1.2, y2)
  else
  bif y2.2 == 0 then
    J4 (x0.1, true, y1.1, y1.2, y2)
  else
  bif y1.2 == x0.1 then
    J4 (x0.1, true, y1.1, y1.2, y2)
  else
  J4 (x0.1, y2.2 == x0.1, y1.1, y1.2, y2)
def p_circle_Gap : Plan := .two (.leaf) (.two (.leaf) (.two (.two (.join ⟨slotsOf 43 [(0, .c (.hole (.int .i64))), (4, .c (.box 4 0)), (5, .c (.box 5 0)), (32, .c (.hole (.bool)))], [(4, 74, [.hole (.int .i64), .hole (.int .i64)]), (5, 74, [.hole (.int .i64), .hole (.int .i64)])], []⟩ (.leaf)) (.leaf)) (.leaf)))
noncomputable def c_circle_Gap (n : Nat) : Cx := ⟨Go.Proofs.Try.prog, Θ, [219, 74], [(126, ⟨h_circle_modulo, o_circle_modulo, circle_modulo n⟩), (81, ⟨h_circle_Norm, o_circle_Norm, circle_Norm n⟩)], [], []⟩
theorem d_circle_Gap (n : Nat) (x : h_circle_Gap.X T) : denF (c_circle_Gap n) n Go.Proofs.Try.f83 p_circle_Gap h_circle_Gap o_circle_Gap x = circle_Gap n x := by kernel_rfl
theorem s_circle_Gap (n : Nat) : PCalls Go.Proofs.Try.prog Θ 83 ⟨h_circle_Gap, o_circle_Gap, circle_Gap n⟩ :=
  func_ok' (C := c_circle_Gap n) (n := n) (p := p_circle_Gap) (ok_of mixed eqsOk ⟨s_circle_modulo n, s_circle_Norm n, trivial⟩ trivial trivial) Go.Proofs.Try.func83 (by kernel_rfl) (by kernel_rfl) (d_circle_Gap n) (by kernel_rfl)

/-- carrefour/times.Busy -/
def h_times_Busy : Shape := ⟨slotsOf 2 [(0, .c (.hole (.int .i64))), (1, .agg [.hole (.str), .hole (.int .i64), .hole (.int .i64), .hole (.int .i64), .hole (.int .i64)])], [], []⟩
def o_times_Busy : List (Ex × Shape) := [(.ret, ⟨slotsOf 1 [(0, .agg [.hole (.int .i64), .hole (.int .i64)])], [], []⟩)]
noncomputable def times_Busy (n : Nat) (x0 : Int × ByteArray × Int × Int × Int × Int) : Option (Int × Int) :=
  (circle_Norm n (x0.1, x0.2.2.1, x0.2.2.2.1)).bind fun y1 =>
  (circle_Norm n (x0.1, x0.2.2.2.2)).bind fun y2 =>
  (circle_Set n (x0.1, y1 :: (y2 :: []))).bind fun y3 =>
  let e0 := y3.length
  let e1 := ((e0 : Nat) : Int)
  bif e1 == 1 then
    bif inB 0 e0 then
      some (atI (0, 0) y3 0)
    else
    none
  else
    bif e1 == 0 then
      some (0, 0)
    else
    (circle_Gap n (x0.1, y1.1, y1.2, y2)).bind fun y4 =>
    (circle_Norm n (x0.1, y1.1, wrap64 ((wrap64 (y1.2 + y4)) + y2.2))).bind fun y5 =>
    some y5
def p_times_Busy : Plan := .leaf
noncomputable def c_times_Busy (n : Nat) : Cx := ⟨Go.Proofs.Try.prog, Θ, [219, 74], [(81, ⟨h_circle_Norm, o_circle_Norm, circle_Norm n⟩), (82, ⟨h_circle_Set, o_circle_Set, circle_Set n⟩), (83, ⟨h_circle_Gap, o_circle_Gap, circle_Gap n⟩)], [], []⟩
theorem d_times_Busy (n : Nat) (x : h_times_Busy.X T) : denF (c_times_Busy n) n Go.Proofs.Try.f36 p_times_Busy h_times_Busy o_times_Busy x = times_Busy n x := by kernel_rfl
theorem s_times_Busy (n : Nat) : PCalls Go.Proofs.Try.prog Θ 36 ⟨h_times_Busy, o_times_Busy, times_Busy n⟩ :=
  func_ok' (C := c_times_Busy n) (n := n) (p := p_times_Busy) (ok_of mixed eqsOk ⟨s_circle_Norm n, s_circle_Set n, s_circle_Gap n, trivial⟩ trivial trivial) Go.Proofs.Try.func36 (by kernel_rfl) (by kernel_rfl) (d_times_Busy n) (by kernel_rfl)

/-- carrefour/carrefourref03.Cycle -/
def h_ref03_Cycle : Shape := ⟨slotsOf 1 [(0, .c (.hole (.int .i64)))], [], []⟩
def o_ref03_Cycle : List (Ex × Shape) := [(.ret, ⟨slotsOf 1 [(0, .c (.hole (.bool)))], [], []⟩)]
def ref03_Cycle (n : Nat) (x0 : Int) : Option (Bool) :=
  bif decide (1 ≤ x0) then
    some (decide (x0 ≤ 6000))
  else
  some false
def p_ref03_Cycle : Plan := .leaf
noncomputable def c_ref03_Cycle (n : Nat) : Cx := ⟨Go.Proofs.Try.prog, Θ, [219, 74], [], [], []⟩
theorem d_ref03_Cycle (n : Nat) (x : h_ref03_Cycle.X T) : denF (c_ref03_Cycle n) n Go.Proofs.Try.f85 p_ref03_Cycle h_ref03_Cycle o_ref03_Cycle x = ref03_Cycle n x := by kernel_rfl
theorem s_ref03_Cycle (n : Nat) : PCalls Go.Proofs.Try.prog Θ 85 ⟨h_ref03_Cycle, o_ref03_Cycle, ref03_Cycle n⟩ :=
  func_ok' (C := c_ref03_Cycle n) (n := n) (p := p_ref03_Cycle) (ok_of mixed eqsOk trivial trivial trivial) Go.Proofs.Try.func85 (by kernel_rfl) (by kernel_rfl) (d_ref03_Cycle n) (by kernel_rfl)

/-- carrefour/carrefourref03.Mod -/
def h_ref03_Mod : Shape := ⟨slotsOf 2 [(0, .c (.hole (.int .i64))), (1, .c (.hole (.int .i64)))], [], []⟩
def o_ref03_Mod : List (Ex × Shape) := [(.ret, ⟨slotsOf 1 [(0, .c (.hole (.int .i64)))], [], []⟩)]
def ref03_Mod (n : Nat) (x0 : Int × Int) : Option (Int) :=
  let e0 := Int.tmod x0.1 x0.2
  bif !(x0.2 == 0) then
    bif decide (e0 < 0) then
      some (wrap64 (e0 + x0.2))
    else
    some e0
  else
  none
def p_ref03_Mod : Plan := .leaf
noncomputable def c_ref03_Mod (n : Nat) : Cx := ⟨Go.Proofs.Try.prog, Θ, [219, 74], [], [], []⟩
theorem d_ref03_Mod (n : Nat) (x : h_ref03_Mod.X T) : denF (c_ref03_Mod n) n Go.Proofs.Try.f86 p_ref03_Mod h_ref03_Mod o_ref03_Mod x = ref03_Mod n x := by kernel_rfl
theorem s_ref03_Mod (n : Nat) : PCalls Go.Proofs.Try.prog Θ 86 ⟨h_ref03_Mod, o_ref03_Mod, ref03_Mod n⟩ :=
  func_ok' (C := c_ref03_Mod n) (n := n) (p := p_ref03_Mod) (ok_of mixed eqsOk trivial trivial trivial) Go.Proofs.Try.func86 (by kernel_rfl) (by kernel_rfl) (d_ref03_Mod n) (by kernel_rfl)

/-- carrefour/carrefourref03.Ticks -/
def h_ref03_Ticks : Shape := ⟨slotsOf 2 [(0, .c (.hole (.int .i64))), (1, .c (.hole (.sl 74)))], [], []⟩
def o_ref03_Ticks : List (Ex × Shape) := [(.ret, ⟨slotsOf 1 [(0, .c (.row 0))], [], [(0, 4)]⟩)]
def ref03_Ticks (n : Nat) (x0 : Int × List (Int × Int)) : Option (List Bool) :=
  (ref03_Cycle n x0.1).bind fun y1 =>
  bif !y1 then
    some []
  else
  bif x0.1 == x0.1 && decide (0 ≤ x0.1) && decide (x0.1 * 1 ≤ 281474976710656) then
    (iterL (Y := (List Bool)) n (fun (x2 : Int × (List (Int × Int)) × Int × List Bool) =>
      let e0 := x2.2.1.length
      let e1 := inB x2.2.2.1 e0
      let e2 := atI (0, 0) x2.2.1 x2.2.2.1
      bif decide (x2.2.2.1 < ((e0 : Nat) : Int)) then
        bif e1 then
          bif e1 then
            (ref03_Mod n (e2.1, x2.1)).bind fun y3 =>
            (iterL (Y := (Int × (List (Int × Int)) × Int × List Bool)) n (fun (x4 : Int × (List (Int × Int)) × Int × Int × Int × Int × List Bool) =>
              let e3 := Int.tmod (wrap64 (x4.2.2.2.2.1 + x4.2.2.2.2.2.1)) x4.1
              bif decide (x4.2.2.2.2.2.1 < x4.2.2.2.1) then
                bif !(x4.1 == 0) then
                  bif inB e3 x4.2.2.2.2.2.2.length then
                    some (.inl (x4.1, x4.2.1, x4.2.2.1, x4.2.2.2.1, x4.2.2.2.2.1, wrap64 (x4.2.2.2.2.2.1 + 1), List.set x4.2.2.2.2.2.2 (Int.toNat e3) true))
                  else
                  none
                else
                none
              else
              some (.inr (x4.1, x4.2.1, x4.2.2.1, x4.2.2.2.2.2.2))) (x2.1, x2.2.1, x2.2.2.1, mn e2.2 x2.1, y3, 0, x2.2.2.2)).bind fun (z5 : Int × (List (Int × Int)) × Int × List Bool) =>
              some (.inl (z5.1, z5.2.1, wrap64 (z5.2.2.1 + 1), z5.2.2.2))
          else
          none
        else
        none
      else
      some (.inr x2.2.2.2)) (x0.1, x0.2, 0, List.replicate (Int.toNat x0.1) false)).bind fun (z6 : List Bool) =>
      some z6
  else
  none
def p_ref03_Ticks : Plan := .two (.leaf) (.two (.leaf) (.two (.leaf) (.two (.two (.leaf) (.one (.loop ⟨slotsOf 48 [(0, .c (.hole (.int .i64))), (1, .c (.hole (.sl 74))), (5, .c (.row 14)), (6, .c (.hole (.int .i64)))], [], [(14, 4)]⟩ [(.exit 0, ⟨slotsOf 48 [(5, .c (.row 14))], [], [(14, 4)]⟩)] (.two (.leaf) (.two (.one (.two (.leaf) (.two (.leaf) (.two (.leaf) (.one (.loop ⟨slotsOf 48 [(0, .c (.hole (.int .i64))), (1, .c (.hole (.sl 74))), (5, .c (.row 14)), (6, .c (.hole (.int .i64))), (7, .c (.hole (.int .i64))), (8, .c (.hole (.int .i64))), (9, .c (.hole (.int .i64)))], [], [(14, 4)]⟩ [(.exit 2, ⟨slotsOf 48 [(0, .c (.hole (.int .i64))), (1, .c (.hole (.sl 74))), (5, .c (.row 14)), (6, .c (.hole (.int .i64)))], [], [(14, 4)]⟩)] (.leaf))))))) (.leaf)))))) (.leaf))))
noncomputable def c_ref03_Ticks (n : Nat) : Cx := ⟨Go.Proofs.Try.prog, Θ, [219, 74], [(85, ⟨h_ref03_Cycle, o_ref03_Cycle, ref03_Cycle n⟩), (86, ⟨h_ref03_Mod, o_ref03_Mod, ref03_Mod n⟩)], [], []⟩
theorem d_ref03_Ticks (n : Nat) (x : h_ref03_Ticks.X T) : denF (c_ref03_Ticks n) n Go.Proofs.Try.f93 p_ref03_Ticks h_ref03_Ticks o_ref03_Ticks x = ref03_Ticks n x := by kernel_rfl
theorem s_ref03_Ticks (n : Nat) : PCalls Go.Proofs.Try.prog Θ 93 ⟨h_ref03_Ticks, o_ref03_Ticks, ref03_Ticks n⟩ :=
  func_ok' (C := c_ref03_Ticks n) (n := n) (p := p_ref03_Ticks) (ok_of mixed eqsOk ⟨s_ref03_Cycle n, s_ref03_Mod n, trivial⟩ trivial trivial) Go.Proofs.Try.func93 (by kernel_rfl) (by kernel_rfl) (d_ref03_Ticks n) (by kernel_rfl)

/-- carrefour/carrefourref03.Form -/
def h_ref03_Form : Shape := ⟨slotsOf 1 [(0, .c (.hole (.sl 4)))], [], []⟩
def o_ref03_Form : List (Ex × Shape) := [(.ret, ⟨slotsOf 1 [(0, .c (.hole (.sl 74)))], [], []⟩)]
def ref03_Form (n : Nat) (x0 : List Bool) : Option (List (Int × Int)) :=
  (iterL (Y := ((List Bool) × Int × Int)) n (fun (x1 : (List Bool) × Int × Int × Int) =>
    let e0 := wrap64 (x1.2.2.2 + 1)
    bif decide (x1.2.2.2 < x1.2.1) then
      bif inB x1.2.2.2 x1.1.length then
        bif atI false x1.1 x1.2.2.2 then
          some (.inl (x1.1, x1.2.1, wrap64 (x1.2.2.1 + 1), e0))
        else
        some (.inl (x1.1, x1.2.1, x1.2.2.1, e0))
      else
      none
    else
    some (.inr (x1.1, x1.2.1, x1.2.2.1))) (x0, ((x0.length : Nat) : Int), 0, 0)).bind fun (z2 : (List Bool) × Int × Int) =>
    letJ (fun (x3 : (List Bool) × Int × Bool) =>
      bif x3.2.2 then
        some ((0, x3.2.1) :: [])
      else
      (iterL (Y := (List (Int × Int))) n (fun (x10 : (List Bool) × Int × Int × List (Int × Int)) =>
        let e1 := x10.1.length
        let e2 := Int.tmod (wrap64 ((wrap64 (x10.2.2.1 + x10.2.1)) - 1)) x10.2.1
        bif decide (x10.2.2.1 < x10.2.1) then
          letJ (fun (x11 : (List Bool) × Int × Int × Bool × List (Int × Int)) =>
            bif x11.2.2.2.1 then
              some (.inl (x11.1, x11.2.1, wrap64 (x11.2.2.1 + 1), x11.2.2.2.2))
            else
            (iterL (Y := ((List Bool) × Int × Int × Int × List (Int × Int))) n (fun (x13 : (List Bool) × Int × Int × Int × List (Int × Int)) =>
              let e3 := Int.tmod (wrap64 (x13.2.2.1 + x13.2.2.2.1)) x13.2.1
              bif !(x13.2.1 == 0) then
                bif inB e3 x13.1.length then
                  bif atI false x13.1 e3 then
                    some (.inl (x13.1, x13.2.1, x13.2.2.1, wrap64 (x13.2.2.2.1 + 1), x13.2.2.2.2))
                  else
                  some (.inr x13)
                else
                none
              else
              none) (x11.1, x11.2.1, x11.2.2.1, 0, x11.2.2.2.2)).bind fun (z14 : (List Bool) × Int × Int × Int × List (Int × Int)) =>
              let e4 := (z14.2.2.1, z14.2.2.2.1) :: []
              bif fitB (z14.2.2.2.2.length + e4.length) 16 then
                some (.inl (z14.1, z14.2.1, wrap64 (z14.2.2.1 + 1), z14.2.2.2.2 ++ e4))
              else
              none) fun J12 =>
          bif inB x10.2.2.1 e1 then
            bif !(atI false x10.1 x10.2.2.1) then
              J12 (x10.1, x10.2.1, x10.2.2.1, true, x10.2.2.2)
            else
            bif !(x10.2.1 == 0) then
              bif inB e2 e1 then
                J12 (x10.1, x10.2.1, x10.2.2.1, atI false x10.1 e2, x10.2.2.2)
              else
              none
            else
            none
          else
          none
        else
        some (.inr x10.2.2.2)) (x3.1, x3.2.1, 0, [])).bind fun (z15 : List (Int × Int)) =>
        some z15) fun J4 =>
    bif z2.2.2 == z2.2.1 then
      J4 (z2.1, z2.2.1, decide (0 < z2.2.1))
    else
    J4 (z2.1, z2.2.1, false)
def p_ref03_Form : Plan := .two (.leaf) (.two (.leaf) (.two (.leaf) (.two (.two (.leaf) (.one (.loop ⟨slotsOf 70 [(0, .c (.hole (.sl 4))), (3, .c (.hole (.int .i64))), (4, .c (.hole (.int .i64))), (5, .c (.hole (.int .i64)))], [], []⟩ [(.exit 0, ⟨slotsOf 70 [(0, .c (.hole (.sl 4))), (3, .c (.hole (.int .i64))), (4, .c (.hole (.int .i64)))], [], []⟩)] (.leaf)))) (.two (.two (.join ⟨slotsOf 70 [(0, .c (.hole (.sl 4))), (3, .c (.hole (.int .i64))), (28, .c (.hole (.bool)))], [], []⟩ (.leaf)) (.leaf)) (.two (.leaf) (.two (.two (.leaf) (.one (.loop ⟨slotsOf 70 [(0, .c (.hole (.sl 4))), (3, .c (.hole (.int .i64))), (6, .c (.row 68)), (7, .c (.hole (.int .i64)))], [], [(68, 74)]⟩ [(.exit 2, ⟨slotsOf 70 [(6, .c (.row 68))], [], [(68, 74)]⟩)] (.two (.leaf) (.two (.one (.two (.two (.join ⟨slotsOf 70 [(0, .c (.hole (.sl 4))), (3, .c (.hole (.int .i64))), (6, .c (.row 68)), (7, .c (.hole (.int .i64))), (52, .c (.hole (.bool)))], [], [(68, 74)]⟩ (.leaf)) (.leaf)) (.two (.leaf) (.two (.one (.loop ⟨slotsOf 70 [(0, .c (.hole (.sl 4))), (3, .c (.hole (.int .i64))), (6, .c (.row 68)), (7, .c (.hole (.int .i64))), (8, .c (.hole (.int .i64)))], [], [(68, 74)]⟩ [(.exit 4, ⟨slotsOf 70 [(0, .c (.hole (.sl 4))), (3, .c (.hole (.int .i64))), (6, .c (.row 68)), (7, .c (.hole (.int .i64))), (8, .c (.hole (.int .i64)))], [], [(68, 74)]⟩)] (.leaf))) (.leaf))))) (.leaf)))))) (.leaf)))))))
noncomputable def c_ref03_Form (n : Nat) : Cx := ⟨Go.Proofs.Try.prog, Θ, [219, 74], [], [], []⟩
theorem d_ref03_Form (n : Nat) (x : h_ref03_Form.X T) : denF (c_ref03_Form n) n Go.Proofs.Try.f94 p_ref03_Form h_ref03_Form o_ref03_Form x = ref03_Form n x := by kernel_rfl
theorem s_ref03_Form (n : Nat) : PCalls Go.Proofs.Try.prog Θ 94 ⟨h_ref03_Form, o_ref03_Form, ref03_Form n⟩ :=
  func_ok' (C := c_ref03_Form n) (n := n) (p := p_ref03_Form) (ok_of mixed eqsOk trivial trivial trivial) Go.Proofs.Try.func94 (by kernel_rfl) (by kernel_rfl) (d_ref03_Form n) (by kernel_rfl)

/-- carrefour/carrefourref03.Set -/
def h_ref03_Set : Shape := ⟨slotsOf 2 [(0, .c (.hole (.int .i64))), (1, .c (.hole (.sl 74)))], [], []⟩
def o_ref03_Set : List (Ex × Shape) := [(.ret, ⟨slotsOf 1 [(0, .c (.hole (.sl 74)))], [], []⟩)]
def ref03_Set (n : Nat) (x0 : Int × List (Int × Int)) : Option (List (Int × Int)) :=
  (ref03_Ticks n x0).bind fun y1 =>
  (ref03_Form n y1).bind fun y2 =>
  some y2
def p_ref03_Set : Plan := .leaf
noncomputable def c_ref03_Set (n : Nat) : Cx := ⟨Go.Proofs.Try.prog, Θ, [219, 74], [(93, ⟨h_ref03_Ticks, o_ref03_Ticks, ref03_Ticks n⟩), (94, ⟨h_ref03_Form, o_ref03_Form, ref03_Form n⟩)], [], []⟩
theorem d_ref03_Set (n : Nat) (x : h_ref03_Set.X T) : denF (c_ref03_Set n) n Go.Proofs.Try.f43 p_ref03_Set h_ref03_Set o_ref03_Set x = ref03_Set n x := by kernel_rfl
theorem s_ref03_Set (n : Nat) : PCalls Go.Proofs.Try.prog Θ 43 ⟨h_ref03_Set, o_ref03_Set, ref03_Set n⟩ :=
  func_ok' (C := c_ref03_Set n) (n := n) (p := p_ref03_Set) (ok_of mixed eqsOk ⟨s_ref03_Ticks n, s_ref03_Form n, trivial⟩ trivial trivial) Go.Proofs.Try.func43 (by kernel_rfl) (by kernel_rfl) (d_ref03_Set n) (by kernel_rfl)

/-- carrefour/carrefourref03.Norm -/
def h_ref03_Norm : Shape := ⟨slotsOf 2 [(0, .c (.hole (.int .i64))), (1, .agg [.hole (.int .i64), .hole (.int .i64)])], [], []⟩
def o_ref03_Norm : List (Ex × Shape) := [(.ret, ⟨slotsOf 1 [(0, .agg [.hole (.int .i64), .hole (.int .i64)])], [], []⟩)]
def ref03_Norm (n : Nat) (x0 : Int × Int × Int) : Option (Int × Int) :=
  (ref03_Ticks n (x0.1, x0.2 :: [])).bind fun y1 =>
  (ref03_Form n y1).bind fun y2 =>
  let e0 := y2.length
  bif ((e0 : Nat) : Int) == 0 then
    some (0, 0)
  else
  bif inB 0 e0 then
    some (atI (0, 0) y2 0)
  else
  none
def p_ref03_Norm : Plan := .leaf
noncomputable def c_ref03_Norm (n : Nat) : Cx := ⟨Go.Proofs.Try.prog, Θ, [219, 74], [(93, ⟨h_ref03_Ticks, o_ref03_Ticks, ref03_Ticks n⟩), (94, ⟨h_ref03_Form, o_ref03_Form, ref03_Form n⟩)], [], []⟩
theorem d_ref03_Norm (n : Nat) (x : h_ref03_Norm.X T) : denF (c_ref03_Norm n) n Go.Proofs.Try.f84 p_ref03_Norm h_ref03_Norm o_ref03_Norm x = ref03_Norm n x := by kernel_rfl
theorem s_ref03_Norm (n : Nat) : PCalls Go.Proofs.Try.prog Θ 84 ⟨h_ref03_Norm, o_ref03_Norm, ref03_Norm n⟩ :=
  func_ok' (C := c_ref03_Norm n) (n := n) (p := p_ref03_Norm) (ok_of mixed eqsOk ⟨s_ref03_Ticks n, s_ref03_Form n, trivial⟩ trivial trivial) Go.Proofs.Try.func84 (by kernel_rfl) (by kernel_rfl) (d_ref03_Norm n) (by kernel_rfl)

/-- carrefour/carrefourref18.Busy -/
def h_ref18_Busy : Shape := ⟨slotsOf 2 [(0, .c (.hole (.int .i64))), (1, .agg [.hole (.str), .hole (.int .i64), .hole (.int .i64), .hole (.int .i64), .hole (.int .i64)])], [], []⟩
def o_ref18_Busy : List (Ex × Shape) := [(.ret, ⟨slotsOf 1 [(0, .agg [.hole (.int .i64), .hole (.int .i64)])], [], []⟩)]
def ref18_Busy (n : Nat) (x0 : Int × ByteArray × Int × Int × Int × Int) : Option (Int × Int) :=
  (ref03_Set n (x0.1, (x0.2.2.1, x0.2.2.2.1) :: (x0.2.2.2.2 :: []))).bind fun y1 =>
  let e0 := y1.length
  bif ((e0 : Nat) : Int) == 1 then
    bif inB 0 e0 then
      some (atI (0, 0) y1 0)
    else
    none
  else
    bif decide (x0.2.2.2.1 < 1) then
      (ref03_Norm n (x0.1, x0.2.2.2.2)).bind fun y2 =>
      some y2
    else
      letJ (fun (x4 : Int × Bool × ByteArray × Int × Int × Int × Int × Int × Int) =>
        bif x4.2.1 then
          (ref03_Norm n (x4.1, x4.2.2.2.1, x4.2.2.2.2.1)).bind fun y6 =>
          some y6
        else
          (ref03_Norm n (x4.1, x4.2.2.2.1, x4.2.2.2.2.1)).bind fun y7 =>
          (ref03_Norm n (x4.1, x4.2.2.2.2.2.1, x4.2.2.2.2.2.2.1)).bind fun y8 =>
          (iterL (Y := (Int × Int × Int × Int × Int × Int)) n (fun (x9 : Int × Int × Int × Int × Int × Int × Int × Int) =>
            letJ (fun (x12 : Int × Int × Bool × Int × Int × Int × Int × Int × Int) =>
              bif x12.2.2.1 then
                some (.inl (x12.1, wrap64 (x12.2.1 + 1), x12.2.2.2))
              else
              some (.inr (x12.1, x12.2.1, x12.2.2.2.1, x12.2.2.2.2.1, x12.2.2.2.2.2.1, x12.2.2.2.2.2.2.1))) fun J13 =>
            (ref03_Mod n (wrap64 (x9.2.2.2.2.1 + x9.2.1), x9.1)).bind fun y10 =>
            (ref03_Mod n (wrap64 (x9.2.2.2.2.2.2.1 + x9.2.2.2.2.2.2.2), x9.1)).bind fun y11 =>
            bif !(y10 == y11) then
              J13 (x9.1, x9.2.1, true, x9.2.2)
            else
            J13 (x9.1, x9.2.1, x9.2.1 == 0, x9.2.2)) (x4.1, 0, x4.2.2.2.2.2.2.2.1, x4.2.2.2.2.2.2.2.2, y7.1, y7.2, y8)).bind fun (z14 : Int × Int × Int × Int × Int × Int) =>
            (ref03_Norm n (z14.1, z14.2.2.2.2.1, z14.2.1)).bind fun y15 =>
            some y15) fun J5 =>
      bif decide (x0.2.2.2.2.2 < 1) then
        J5 (x0.1, true, x0.2.1, x0.2.2.1, x0.2.2.2.1, x0.2.2.2.2.1, x0.2.2.2.2.2, 0, 0)
      else
      (ref03_Cycle n x0.1).bind fun y3 =>
      J5 (x0.1, !y3, x0.2.1, x0.2.2.1, x0.2.2.2.1, x0.2.2.2.2.1, x0.2.2.2.2.2, 0, 0)
def p_ref18_Busy : Plan := .two (.leaf) (.two (.leaf) (.two (.leaf) (.two (.leaf) (.two (.two (.join ⟨slotsOf 77 [(0, .c (.hole (.int .i64))), (3, .c (.box 3 0)), (4, .c (.box 4 0)), (38, .c (.hole (.bool)))], [(3, 76, [.hole (.str), .hole (.int .i64), .hole (.int .i64), .hole (.int .i64), .hole (.int .i64)]), (4, 74, [.hole (.int .i64), .hole (.int .i64)])], []⟩ (.leaf)) (.leaf)) (.two (.leaf) (.two (.leaf) (.two (.leaf) (.two (.one (.loop ⟨slotsOf 77 [(0, .c (.hole (.int .i64))), (4, .c (.box 4 0)), (6, .c (.box 6 0)), (7, .c (.box 7 0)), (8, .c (.hole (.int .i64)))], [(4, 74, [.hole (.int .i64), .hole (.int .i64)]), (6, 74, [.hole (.int .i64), .hole (.int .i64)]), (7, 74, [.hole (.int .i64), .hole (.int .i64)])], []⟩ [(.exit 0, ⟨slotsOf 77 [(0, .c (.hole (.int .i64))), (4, .c (.box 4 0)), (6, .c (.box 6 0)), (8, .c (.hole (.int .i64)))], [(4, 74, [.hole (.int .i64), .hole (.int .i64)]), (6, 74, [.hole (.int .i64), .hole (.int .i64)])], []⟩)] (.two (.two (.join ⟨slotsOf 77 [(0, .c (.hole (.int .i64))), (4, .c (.box 4 0)), (6, .c (.box 6 0)), (7, .c (.box 7 0)), (8, .c (.hole (.int .i64))), (68, .c (.hole (.bool)))], [(4, 74, [.hole (.int .i64), .hole (.int .i64)]), (6, 74, [.hole (.int .i64), .hole (.int .i64)]), (7, 74, [.hole (.int .i64), .hole (.int .i64)])], []⟩ (.leaf)) (.leaf)) (.leaf)))) (.leaf)))))))))
noncomputable def c_ref18_Busy (n : Nat) : Cx := ⟨Go.Proofs.Try.prog, Θ, [219, 74], [(85, ⟨h_ref03_Cycle, o_ref03_Cycle, ref03_Cycle n⟩), (86, ⟨h_ref03_Mod, o_ref03_Mod, ref03_Mod n⟩), (43, ⟨h_ref03_Set, o_ref03_Set, ref03_Set n⟩), (84, ⟨h_ref03_Norm, o_ref03_Norm, ref03_Norm n⟩)], [], []⟩
theorem d_ref18_Busy (n : Nat) (x : h_ref18_Busy.X T) : denF (c_ref18_Busy n) n Go.Proofs.Try.f37 p_ref18_Busy h_ref18_Busy o_ref18_Busy x = ref18_Busy n x := by kernel_rfl
theorem s_ref18_Busy (n : Nat) : PCalls Go.Proofs.Try.prog Θ 37 ⟨h_ref18_Busy, o_ref18_Busy, ref18_Busy n⟩ :=
  func_ok' (C := c_ref18_Busy n) (n := n) (p := p_ref18_Busy) (ok_of mixed eqsOk ⟨s_ref03_Cycle n, s_ref03_Mod n, s_ref03_Set n, s_ref03_Norm n, trivial⟩ trivial trivial) Go.Proofs.Try.func37 (by kernel_rfl) (by kernel_rfl) (d_ref18_Busy n) (by kernel_rfl)

/-- carrefour/carrefourlaw18.two -/
def h_law18_two : Shape := ⟨slotsOf 0 [], [], []⟩
def o_law18_two : List (Ex × Shape) := [(.ret, ⟨slotsOf 1 [(0, .agg [.hole (.str), .hole (.sl 44), .nil, .hole (.sl 42), .hole (.sl 103), .nil, .hole (.int .i64)])], [], []⟩)]
def law18_two (n : Nat) (x0 : Unit) : Option (ByteArray × (List (ByteArray × Int × Int × Int × Int × Int × Int × Int × Int × Int × Int)) × (List (ByteArray × (List ByteArray) × Int)) × (List (List (Bool × List ByteArray))) × Int) :=
  some (ByteArray.mk #[], (ByteArray.mk #[97], 0, 0, 0, 0, 0, 0, 0, 0, 0, 0) :: ((ByteArray.mk #[98], 0, 0, 0, 0, 0, 0, 0, 0, 0, 0) :: []), (ByteArray.mk #[112], (ByteArray.mk #[97]) :: [], 0) :: ((ByteArray.mk #[113], (ByteArray.mk #[98]) :: [], 0) :: []), ((false, (ByteArray.mk #[112]) :: ((ByteArray.mk #[113]) :: [])) :: []) :: [], 0)
def p_law18_two : Plan := .leaf
noncomputable def c_law18_two (n : Nat) : Cx := ⟨Go.Proofs.Try.prog, Θ, [219, 74], [], [], []⟩
theorem d_law18_two (n : Nat) (x : h_law18_two.X T) : denF (c_law18_two n) n Go.Proofs.Try.f87 p_law18_two h_law18_two o_law18_two x = law18_two n x := by kernel_rfl
theorem s_law18_two (n : Nat) : PCalls Go.Proofs.Try.prog Θ 87 ⟨h_law18_two, o_law18_two, law18_two n⟩ :=
  func_ok' (C := c_law18_two n) (n := n) (p := p_law18_two) (ok_of mixed eqsOk trivial trivial trivial) Go.Proofs.Try.func87 (by kernel_rfl) (by kernel_rfl) (d_law18_two n) (by kernel_rfl)

/-- carrefour/times.times$1 -/
def h_times_times_1 : Shape := ⟨slotsOf 1 [(0, .c (.hole (.int .i64)))], [], []⟩
def o_times_times_1 : List (Ex × Shape) := [(.ret, ⟨slotsOf 1 [(0, .c (.hole (.bool)))], [], []⟩)]
def times_times_1 (n : Nat) (x0 : Int) : Option (Bool) :=
  bif decide (x0 < 0) then
    some true
  else
  some (decide (6000 < x0))
def p_times_times_1 : Plan := .leaf
noncomputable def c_times_times_1 (n : Nat) : Cx := ⟨Go.Proofs.Try.prog, Θ, [219, 74], [], [], []⟩
theorem d_times_times_1 (n : Nat) (x : h_times_times_1.X T) : denF (c_times_times_1 n) n Go.Proofs.Try.f172 p_times_times_1 h_times_times_1 o_times_times_1 x = times_times_1 n x := by kernel_rfl
theorem s_times_times_1 (n : Nat) : PCalls Go.Proofs.Try.prog Θ 172 ⟨h_times_times_1, o_times_times_1, times_times_1 n⟩ :=
  func_ok' (C := c_times_times_1 n) (n := n) (p := p_times_times_1) (ok_of mixed eqsOk trivial trivial trivial) Go.Proofs.Try.func172 (by kernel_rfl) (by kernel_rfl) (d_times_times_1 n) (by kernel_rfl)

/-- slices.IndexFunc[[]int64,int64] -/
def h_slices_IndexFunc : Shape := ⟨slotsOf 2 [(0, .c (.hole (.sl 2))), (1, .c (.fn 172 []))], [], []⟩
def o_slices_IndexFunc : List (Ex × Shape) := [(.ret, ⟨slotsOf 1 [(0, .c (.hole (.int .i64)))], [], []⟩)]
def slices_IndexFunc (n : Nat) (x0 : List Int) : Option (Int) :=
  (iterL (Y := (Int) ⊕ (Unit)) n (fun (x1 : (List Int) × Int × Int) =>
    bif decide (x1.2.2 < x1.2.1) then
      bif inB x1.2.2 x1.1.length then
        (times_times_1 n (atI 0 x1.1 x1.2.2)).bind fun y2 =>
        bif y2 then
          some (.inr (.inl x1.2.2))
        else
        some (.inl (x1.1, x1.2.1, wrap64 (x1.2.2 + 1)))
      else
      none
    else
    some (.inr (.inr ()))) (x0, ((x0.length : Nat) : Int), 0)).bind (Sum.elim (fun (z3 : Int) =>
    some z3) (fun (z4 : Unit) =>
    some (-1)))
def p_slices_IndexFunc : Plan := .two (.leaf) (.two (.two (.leaf) (.one (.loop ⟨slotsOf 19 [(0, .c (.hole (.sl 2))), (1, .c (.fn 172 [])), (7, .c (.hole (.int .i64))), (8, .c (.hole (.int .i64)))], [], []⟩ [(.ret, ⟨slotsOf 19 [(4, .c (.hole (.int .i64)))], [], []⟩), (.exit 0, ⟨slotsOf 19 [], [], []⟩)] (.leaf)))) (.leaf))
noncomputable def c_slices_IndexFunc (n : Nat) : Cx := ⟨Go.Proofs.Try.prog, Θ, [219, 74], [(172, ⟨h_times_times_1, o_times_times_1, times_times_1 n⟩)], [], []⟩
theorem d_slices_IndexFunc (n : Nat) (x : h_slices_IndexFunc.X T) : denF (c_slices_IndexFunc n) n Go.Proofs.Try.f133 p_slices_IndexFunc h_slices_IndexFunc o_slices_IndexFunc x = slices_IndexFunc n x := by kernel_rfl
theorem s_slices_IndexFunc (n : Nat) : PCalls Go.Proofs.Try.prog Θ 133 ⟨h_slices_IndexFunc, o_slices_IndexFunc, slices_IndexFunc n⟩ :=
  func_ok' (C := c_slices_IndexFunc n) (n := n) (p := p_slices_IndexFunc) (ok_of mixed eqsOk ⟨s_times_times_1 n, trivial⟩ trivial trivial) Go.Proofs.Try.func133 (by kernel_rfl) (by kernel_rfl) (d_slices_IndexFunc n) (by kernel_rfl)

/-- slices.ContainsFunc[[]int64,int64] -/
def h_slices_ContainsFunc : Shape := ⟨slotsOf 2 [(0, .c (.hole (.sl 2))), (1, .c (.fn 172 []))], [], []⟩
def o_slices_ContainsFunc : List (Ex × Shape) := [(.ret, ⟨slotsOf 1 [(0, .c (.hole (.bool)))], [], []⟩)]
def slices_ContainsFunc (n : Nat) (x0 : List Int) : Option (Bool) :=
  (slices_IndexFunc n x0).bind fun y1 =>
  some (decide (0 ≤ y1))
def p_slices_ContainsFunc : Plan := .leaf
noncomputable def c_slices_ContainsFunc (n : Nat) : Cx := ⟨Go.Proofs.Try.prog, Θ, [219, 74], [(133, ⟨h_slices_IndexFunc, o_slices_IndexFunc, slices_IndexFunc n⟩)], [], []⟩
theorem d_slices_ContainsFunc (n : Nat) (x : h_slices_ContainsFunc.X T) : denF (c_slices_ContainsFunc n) n Go.Proofs.Try.f95 p_slices_ContainsFunc h_slices_ContainsFunc o_slices_ContainsFunc x = slices_ContainsFunc n x := by kernel_rfl
theorem s_slices_ContainsFunc (n : Nat) : PCalls Go.Proofs.Try.prog Θ 95 ⟨h_slices_ContainsFunc, o_slices_ContainsFunc, slices_ContainsFunc n⟩ :=
  func_ok' (C := c_slices_ContainsFunc n) (n := n) (p := p_slices_ContainsFunc) (ok_of mixed eqsOk ⟨s_slices_IndexFunc n, trivial⟩ trivial trivial) Go.Proofs.Try.func95 (by kernel_rfl) (by kernel_rfl) (d_slices_ContainsFunc n) (by kernel_rfl)

/-- carrefour/times.times -/
def h_times_times : Shape := ⟨slotsOf 1 [(0, .c (.hole (.sl 2)))], [], []⟩
def o_times_times : List (Ex × Shape) := [(.ret, ⟨slotsOf 1 [(0, .c (.hole (.bool)))], [], []⟩)]
def times_times (n : Nat) (x0 : List Int) : Option (Bool) :=
  (slices_ContainsFunc n x0).bind fun y1 =>
  some (!y1)
def p_times_times : Plan := .leaf
noncomputable def c_times_times (n : Nat) : Cx := ⟨Go.Proofs.Try.prog, Θ, [219, 74], [(95, ⟨h_slices_ContainsFunc, o_slices_ContainsFunc, slices_ContainsFunc n⟩)], [], []⟩
theorem d_times_times (n : Nat) (x : h_times_times.X T) : denF (c_times_times n) n Go.Proofs.Try.f155 p_times_times h_times_times o_times_times x = times_times n x := by kernel_rfl
theorem s_times_times (n : Nat) : PCalls Go.Proofs.Try.prog Θ 155 ⟨h_times_times, o_times_times, times_times n⟩ :=
  func_ok' (C := c_times_times n) (n := n) (p := p_times_times) (ok_of mixed eqsOk ⟨s_slices_ContainsFunc n, trivial⟩ trivial trivial) Go.Proofs.Try.func155 (by kernel_rfl) (by kernel_rfl) (d_times_times n) (by kernel_rfl)

/-- carrefour/times.timed$1 -/
def h_times_timed_1 : Shape := ⟨slotsOf 1 [(0, .agg [.hole (.str), .hole (.int .i64), .hole (.int .i64)])], [], []⟩
def o_times_timed_1 : List (Ex × Shape) := [(.ret, ⟨slotsOf 1 [(0, .c (.hole (.bool)))], [], []⟩)]
def times_timed_1 (n : Nat) (x0 : ByteArray × Int × Int) : Option (Bool) :=
  (times_times n (x0.2.1 :: (x0.2.2 :: []))).bind fun y1 =>
  some (!y1)
def p_times_timed_1 : Plan := .leaf
noncomputable def c_times_timed_1 (n : Nat) : Cx := ⟨Go.Proofs.Try.prog, Θ, [219, 74], [(155, ⟨h_times_times, o_times_times, times_times n⟩)], [], []⟩
theorem d_times_timed_1 (n : Nat) (x : h_times_timed_1.X T) : denF (c_times_timed_1 n) n Go.Proofs.Try.f157 p_times_timed_1 h_times_timed_1 o_times_timed_1 x = times_timed_1 n x := by kernel_rfl
theorem s_times_timed_1 (n : Nat) : PCalls Go.Proofs.Try.prog Θ 157 ⟨h_times_timed_1, o_times_timed_1, times_timed_1 n⟩ :=
  func_ok' (C := c_times_timed_1 n) (n := n) (p := p_times_timed_1) (ok_of mixed eqsOk ⟨s_times_times n, trivial⟩ trivial trivial) Go.Proofs.Try.func157 (by kernel_rfl) (by kernel_rfl) (d_times_timed_1 n) (by kernel_rfl)

/-- slices.IndexFunc[[]carrefour/api.Walk,carrefour/api.Walk] -/
def h_slices_IndexFunc_1 : Shape := ⟨slotsOf 2 [(0, .c (.hole (.sl 143))), (1, .c (.fn 157 []))], [], []⟩
def o_slices_IndexFunc_1 : List (Ex × Shape) := [(.ret, ⟨slotsOf 1 [(0, .c (.hole (.int .i64)))], [], []⟩)]
def slices_IndexFunc_1 (n : Nat) (x0 : List (ByteArray × Int × Int)) : Option (Int) :=
  (iterL (Y := (Int) ⊕ (Unit)) n (fun (x1 : (List (ByteArray × Int × Int)) × Int × Int) =>
    bif decide (x1.2.2 < x1.2.1) then
      bif inB x1.2.2 x1.1.length then
        (times_timed_1 n (atI (ByteArray.mk #[], 0, 0) x1.1 x1.2.2)).bind fun y2 =>
        bif y2 then
          some (.inr (.inl x1.2.2))
        else
        some (.inl (x1.1, x1.2.1, wrap64 (x1.2.2 + 1)))
      else
      none
    else
    some (.inr (.inr ()))) (x0, ((x0.length : Nat) : Int), 0)).bind (Sum.elim (fun (z3 : Int) =>
    some z3) (fun (z4 : Unit) =>
    some (-1)))
def p_slices_IndexFunc_1 : Plan := .two (.leaf) (.two (.two (.leaf) (.one (.loop ⟨slotsOf 19 [(0, .c (.hole (.sl 143))), (1, .c (.fn 157 [])), (7, .c (.hole (.int .i64))), (8, .c (.hole (.int .i64)))], [], []⟩ [(.ret, ⟨slotsOf 19 [(4, .c (.hole (.int .i64)))], [], []⟩), (.exit 0, ⟨slotsOf 19 [], [], []⟩)] (.leaf)))) (.leaf))
noncomputable def c_slices_IndexFunc_1 (n : Nat) : Cx := ⟨Go.Proofs.Try.prog, Θ, [219, 74], [(157, ⟨h_times_timed_1, o_times_timed_1, times_timed_1 n⟩)], [], []⟩
theorem d_slices_IndexFunc_1 (n : Nat) (x : h_slices_IndexFunc_1.X T) : denF (c_slices_IndexFunc_1 n) n Go.Proofs.Try.f173 p_slices_IndexFunc_1 h_slices_IndexFunc_1 o_slices_IndexFunc_1 x = slices_IndexFunc_1 n x := by kernel_rfl
theorem s_slices_IndexFunc_1 (n : Nat) : PCalls Go.Proofs.Try.prog Θ 173 ⟨h_slices_IndexFunc_1, o_slices_IndexFunc_1, slices_IndexFunc_1 n⟩ :=
  func_ok' (C := c_slices_IndexFunc_1 n) (n := n) (p := p_slices_IndexFunc_1) (ok_of mixed eqsOk ⟨s_times_timed_1 n, trivial⟩ trivial trivial) Go.Proofs.Try.func173 (by kernel_rfl) (by kernel_rfl) (d_slices_IndexFunc_1 n) (by kernel_rfl)

/-- slices.ContainsFunc[[]carrefour/api.Walk,carrefour/api.Walk] -/
def h_slices_ContainsFunc_1 : Shape := ⟨slotsOf 2 [(0, .c (.hole (.sl 143))), (1, .c (.fn 157 []))], [], []⟩
def o_slices_ContainsFunc_1 : List (Ex × Shape) := [(.ret, ⟨slotsOf 1 [(0, .c (.hole (.bool)))], [], []⟩)]
def slices_ContainsFunc_1 (n : Nat) (x0 : List (ByteArray × Int × Int)) : Option (Bool) :=
  (slices_IndexFunc_1 n x0).bind fun y1 =>
  some (decide (0 ≤ y1))
def p_slices_ContainsFunc_1 : Plan := .leaf
noncomputable def c_slices_ContainsFunc_1 (n : Nat) : Cx := ⟨Go.Proofs.Try.prog, Θ, [219, 74], [(173, ⟨h_slices_IndexFunc_1, o_slices_IndexFunc_1, slices_IndexFunc_1 n⟩)], [], []⟩
theorem d_slices_ContainsFunc_1 (n : Nat) (x : h_slices_ContainsFunc_1.X T) : denF (c_slices_ContainsFunc_1 n) n Go.Proofs.Try.f156 p_slices_ContainsFunc_1 h_slices_ContainsFunc_1 o_slices_ContainsFunc_1 x = slices_ContainsFunc_1 n x := by kernel_rfl
theorem s_slices_ContainsFunc_1 (n : Nat) : PCalls Go.Proofs.Try.prog Θ 156 ⟨h_slices_ContainsFunc_1, o_slices_ContainsFunc_1, slices_ContainsFunc_1 n⟩ :=
  func_ok' (C := c_slices_ContainsFunc_1 n) (n := n) (p := p_slices_ContainsFunc_1) (ok_of mixed eqsOk ⟨s_slices_IndexFunc_1 n, trivial⟩ trivial trivial) Go.Proofs.Try.func156 (by kernel_rfl) (by kernel_rfl) (d_slices_ContainsFunc_1 n) (by kernel_rfl)

/-- carrefour/times.timed -/
def h_times_timed : Shape := ⟨slotsOf 1 [(0, .agg [.hole (.str), .hole (.int .i64), .hole (.int .i64), .hole (.int .i64), .hole (.sl 143)])], [], []⟩
def o_times_timed : List (Ex × Shape) := [(.ret, ⟨slotsOf 1 [(0, .c (.hole (.bool)))], [], []⟩)]
def times_timed (n : Nat) (x0 : ByteArray × Int × Int × Int × List (ByteArray × Int × Int)) : Option (Bool) :=
  (times_times n (x0.2.1 :: (x0.2.2.1 :: (x0.2.2.2.1 :: [])))).bind fun y1 =>
  bif y1 then
    (slices_ContainsFunc_1 n x0.2.2.2.2).bind fun y2 =>
    some (!y2)
  else
  some false
def p_times_timed : Plan := .leaf
noncomputable def c_times_timed (n : Nat) : Cx := ⟨Go.Proofs.Try.prog, Θ, [219, 74], [(155, ⟨h_times_times, o_times_times, times_times n⟩), (156, ⟨h_slices_ContainsFunc_1, o_slices_ContainsFunc_1, slices_ContainsFunc_1 n⟩)], [], []⟩
theorem d_times_timed (n : Nat) (x : h_times_timed.X T) : denF (c_times_timed n) n Go.Proofs.Try.f132 p_times_timed h_times_timed o_times_timed x = times_timed n x := by kernel_rfl
theorem s_times_timed (n : Nat) : PCalls Go.Proofs.Try.prog Θ 132 ⟨h_times_timed, o_times_timed, times_timed n⟩ :=
  func_ok' (C := c_times_timed n) (n := n) (p := p_times_timed) (ok_of mixed eqsOk ⟨s_times_times n, s_slices_ContainsFunc_1 n, trivial⟩ trivial trivial) Go.Proofs.Try.func132 (by kernel_rfl) (by kernel_rfl) (d_times_timed n) (by kernel_rfl)

/-- carrefour/times.sound$1 -/
def h_times_sound_1 : Shape := ⟨slotsOf 1 [(0, .agg [.hole (.str), .hole (.int .i64), .hole (.int .i64), .hole (.int .i64), .hole (.sl 143)])], [], []⟩
def o_times_sound_1 : List (Ex × Shape) := [(.ret, ⟨slotsOf 1 [(0, .c (.hole (.bool)))], [], []⟩)]
def times_sound_1 (n : Nat) (x0 : ByteArray × Int × Int × Int × List (ByteArray × Int × Int)) : Option (Bool) :=
  (times_timed n x0).bind fun y1 =>
  some (!y1)
def p_times_sound_1 : Plan := .leaf
noncomputable def c_times_sound_1 (n : Nat) : Cx := ⟨Go.Proofs.Try.prog, Θ, [219, 74], [(132, ⟨h_times_timed, o_times_timed, times_timed n⟩)], [], []⟩
theorem d_times_sound_1 (n : Nat) (x : h_times_sound_1.X T) : denF (c_times_sound_1 n) n Go.Proofs.Try.f131 p_times_sound_1 h_times_sound_1 o_times_sound_1 x = times_sound_1 n x := by kernel_rfl
theorem s_times_sound_1 (n : Nat) : PCalls Go.Proofs.Try.prog Θ 131 ⟨h_times_sound_1, o_times_sound_1, times_sound_1 n⟩ :=
  func_ok' (C := c_times_sound_1 n) (n := n) (p := p_times_sound_1) (ok_of mixed eqsOk ⟨s_times_timed n, trivial⟩ trivial trivial) Go.Proofs.Try.func131 (by kernel_rfl) (by kernel_rfl) (d_times_sound_1 n) (by kernel_rfl)

/-- slices.IndexFunc[[]carrefour/api.Slot,carrefour/api.Slot] -/
def h_slices_IndexFunc_2 : Shape := ⟨slotsOf 2 [(0, .c (.hole (.sl 121))), (1, .c (.fn 131 []))], [], []⟩
def o_slices_IndexFunc_2 : List (Ex × Shape) := [(.ret, ⟨slotsOf 1 [(0, .c (.hole (.int .i64)))], [], []⟩)]
def slices_IndexFunc_2 (n : Nat) (x0 : List (ByteArray × Int × Int × Int × List (ByteArray × Int × Int))) : Option (Int) :=
  (iterL (Y := (Int) ⊕ (Unit)) n (fun (x1 : (List (ByteArray × Int × Int × Int × List (ByteArray × Int × Int))) × Int × Int) =>
    bif decide (x1.2.2 < x1.2.1) then
      bif inB x1.2.2 x1.1.length then
        (times_sound_1 n (atI (ByteArray.mk #[], 0, 0, 0, []) x1.1 x1.2.2)).bind fun y2 =>
        bif y2 then
          some (.inr (.inl x1.2.2))
        else
        some (.inl (x1.1, x1.2.1, wrap64 (x1.2.2 + 1)))
      else
      none
    else
    some (.inr (.inr ()))) (x0, ((x0.length : Nat) : Int), 0)).bind (Sum.elim (fun (z3 : Int) =>
    some z3) (fun (z4 : Unit) =>
    some (-1)))
def p_slices_IndexFunc_2 : Plan := .two (.leaf) (.two (.two (.leaf) (.one (.loop ⟨slotsOf 19 [(0, .c (.hole (.sl 121))), (1, .c (.fn 131 [])), (7, .c (.hole (.int .i64))), (8, .c (.hole (.int .i64)))], [], []⟩ [(.ret, ⟨slotsOf 19 [(4, .c (.hole (.int .i64)))], [], []⟩), (.exit 0, ⟨slotsOf 19 [], [], []⟩)] (.leaf)))) (.leaf))
noncomputable def c_slices_IndexFunc_2 (n : Nat) : Cx := ⟨Go.Proofs.Try.prog, Θ, [219, 74], [(131, ⟨h_times_sound_1, o_times_sound_1, times_sound_1 n⟩)], [], []⟩
theorem d_slices_IndexFunc_2 (n : Nat) (x : h_slices_IndexFunc_2.X T) : denF (c_slices_IndexFunc_2 n) n Go.Proofs.Try.f154 p_slices_IndexFunc_2 h_slices_IndexFunc_2 o_slices_IndexFunc_2 x = slices_IndexFunc_2 n x := by kernel_rfl
theorem s_slices_IndexFunc_2 (n : Nat) : PCalls Go.Proofs.Try.prog Θ 154 ⟨h_slices_IndexFunc_2, o_slices_IndexFunc_2, slices_IndexFunc_2 n⟩ :=
  func_ok' (C := c_slices_IndexFunc_2 n) (n := n) (p := p_slices_IndexFunc_2) (ok_of mixed eqsOk ⟨s_times_sound_1 n, trivial⟩ trivial trivial) Go.Proofs.Try.func154 (by kernel_rfl) (by kernel_rfl) (d_slices_IndexFunc_2 n) (by kernel_rfl)

end Go.Proofs.Ytakkhnoelnpfdaa.Fn
