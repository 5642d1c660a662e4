/- Functions of the program, each as a plain function, and that the machine does what it says. -/
import Derived.Test.YtoafplpdjmiolaaGiven
namespace Go.Proofs.Ytoafplpdjmiolaa.Fn
set_option linter.unusedVariables false
set_option maxRecDepth 100000
open Go Go.RowKit Go.Den
/-- slices.SortFunc[[]carrefour/circle.piece,carrefour/circle.piece] -/
def h_slices_SortFunc_circle_pieces_1 : Shape := ⟨slotsOf 2 [(0, .c (.row 1000000)), (1, .c (.fn 46 []))], [], [(1000000, 82)]⟩
def o_slices_SortFunc_circle_pieces_1 : List (Ex × Shape) := [(.ret, ⟨slotsOf 0 [], [], [(1000000, 82)]⟩)]
def slices_SortFunc_circle_pieces_1 (n : Nat) (x : List (Int × Int)) : Option (List (Int × Int)) := sortF (0, 0) (fun a b : Int × Int => Go.Lib.compareInt a.1 b.1) x
theorem s_slices_SortFunc_circle_pieces_1 (n : Nat) : PCalls Go.Proofs.Try.prog Θ 45 ⟨h_slices_SortFunc_circle_pieces_1, o_slices_SortFunc_circle_pieces_1, slices_SortFunc_circle_pieces_1 n⟩ := sortPc_calls

/-- strings.Repeat -/
def h_strings_Repeat : Shape := ⟨slotsOf 2 [(0, .c (.hole (.str))), (1, .c (.hole (.int .i64)))], [], []⟩
def o_strings_Repeat : List (Ex × Shape) := [(.ret, ⟨slotsOf 1 [(0, .c (.hole (.str)))], [], []⟩)]
def strings_Repeat (n : Nat) (x : ByteArray × Int) : Option (ByteArray) := match n with
  | 0 => repF x
  | _ + 1 => repF x
theorem strings_Repeat_eq (n : Nat) (x : ByteArray × Int) : strings_Repeat n x = repF x := by cases n <;> rfl
theorem s_strings_Repeat (n : Nat) : PCalls Go.Proofs.Try.prog Θ 20 ⟨h_strings_Repeat, o_strings_Repeat, strings_Repeat n⟩ := by
  have e : strings_Repeat n = fun x => repF x := funext fun x => strings_Repeat_eq n x
  rw [e]
  exact repeat_calls

/-- (*strings.Builder).copyCheck -/
def h_strings_Builder_copyCheck : Shape := ⟨slotsOf 1 [(0, .c (.box 1000000 0))], [(1000000, 43, [.np, .row 1000000, .hole (.int .i64), .hole (.int .i64)])], [(1000000, 5)]⟩
def o_strings_Builder_copyCheck : List (Ex × Shape) := [(.ret, ⟨slotsOf 0 [], [(1000000, 43, [.box 1000000 0, .row 1000000, .hole (.int .i64), .hole (.int .i64)])], [(1000000, 5)]⟩)]
def strings_Builder_copyCheck (n : Nat) (x : Int × Int × List Int) : Option (Int × Int × List Int) := match n with
  | 0 => some x
  | _ + 1 => some x
theorem strings_Builder_copyCheck_eq (n : Nat) (x : Int × Int × List Int) : strings_Builder_copyCheck n x = some x := by cases n <;> rfl
theorem s_strings_Builder_copyCheck (n : Nat) : PCalls Go.Proofs.Try.prog Θ 37 ⟨h_strings_Builder_copyCheck, o_strings_Builder_copyCheck, strings_Builder_copyCheck n⟩ := by
  have e : strings_Builder_copyCheck n = fun x => some x := funext fun x => strings_Builder_copyCheck_eq n x
  rw [e]
  exact check_calls

/-- (*strings.Builder).String -/
def h_strings_Builder_String : Shape := ⟨slotsOf 1 [(0, .c (.box 1000000 0))], [(1000000, 43, [.box 1000000 0, .row 1000000, .hole (.int .i64), .hole (.int .i64)])], [(1000000, 5)]⟩
def o_strings_Builder_String : List (Ex × Shape) := [(.ret, ⟨slotsOf 1 [(0, .c (.hole (.str)))], [], []⟩)]
def strings_Builder_String (n : Nat) (x : Int × Int × List Int) : Option (ByteArray) := match n with
  | 0 => bstrF (fun y : Int => y) x
  | _ + 1 => bstrF (fun y : Int => y) x
theorem strings_Builder_String_eq (n : Nat) (x : Int × Int × List Int) : strings_Builder_String n x = bstrF (fun y : Int => y) x := by cases n <;> rfl
theorem s_strings_Builder_String (n : Nat) : PCalls Go.Proofs.Try.prog Θ 15 ⟨h_strings_Builder_String, o_strings_Builder_String, strings_Builder_String n⟩ := by
  have e : strings_Builder_String n = fun x => bstrF (fun y : Int => y) x := funext fun x => strings_Builder_String_eq n x
  rw [e]
  exact string_calls

/-- strings.Count -/
def h_strings_Count : Shape := ⟨slotsOf 2 [(0, .c (.hole (.str))), (1, .c (.hole (.str)))], [], []⟩
def o_strings_Count : List (Ex × Shape) := [(.ret, ⟨slotsOf 1 [(0, .c (.hole (.int .i64)))], [], []⟩)]
def strings_Count (n : Nat) (x : ByteArray × ByteArray) : Option (Int) := match n with
  | 0 => cntF x
  | _ + 1 => cntF x
theorem strings_Count_eq (n : Nat) (x : ByteArray × ByteArray) : strings_Count n x = cntF x := by cases n <;> rfl
theorem s_strings_Count (n : Nat) : PCalls Go.Proofs.Try.prog Θ 19 ⟨h_strings_Count, o_strings_Count, strings_Count n⟩ := by
  have e : strings_Count n = fun x => cntF x := funext fun x => strings_Count_eq n x
  rw [e]
  exact count_calls

/-- carrefour/chart.right -/
def h_chart_right : Shape := ⟨slotsOf 2 [(0, .c (.hole (.int .i64))), (1, .c (.hole (.int .i64)))], [], []⟩
def o_chart_right : List (Ex × Shape) := [(.ret, ⟨slotsOf 1 [(0, .c (.hole (.bool)))], [], []⟩)]
def chart_right (n : Nat) (x0 : Int × Int) : Option (Bool) :=
  letJ (fun (x1 : Bool) =>
    some x1) fun J2 =>
  bif decide (1 ≤ x0.1) then
    bif decide (x0.1 ≤ 6000) then
      bif decide (1 ≤ x0.2) then
        J2 (decide (x0.2 ≤ 6000))
      else
      J2 false
    else
    J2 false
  else
  J2 false
def p_chart_right : Plan := .two (.leaf) (.two (.join ⟨slotsOf 19 [(4, .c (.hole (.bool)))], [], []⟩ (.leaf)) (.leaf))
noncomputable def c_chart_right (n : Nat) : Cx := ⟨Go.Proofs.Try.prog, Θ, [24, 82], [], [], []⟩
theorem d_chart_right (n : Nat) (x : h_chart_right.X T) : denF (c_chart_right n) n Go.Proofs.Try.f13 p_chart_right h_chart_right o_chart_right x = chart_right n x := by kernel_rfl
theorem s_chart_right (n : Nat) : PCalls Go.Proofs.Try.prog Θ 13 ⟨h_chart_right, o_chart_right, chart_right n⟩ :=
  func_ok' (C := c_chart_right n) (n := n) (p := p_chart_right) (ok_of mixed eqsOk trivial trivial trivial) Go.Proofs.Try.func13 (by kernel_rfl) (by kernel_rfl) (d_chart_right n) (by kernel_rfl)

/-- carrefour/circle.cut -/
def h_circle_cut : Shape := ⟨slotsOf 2 [(0, .c (.hole (.int .i64))), (1, .c (.hole (.sl 24)))], [], []⟩
def o_circle_cut : List (Ex × Shape) := [(.ret, ⟨slotsOf 1 [(0, .c (.fn 54 [0, 1]))], [(0, 47, [.hole (.sl 24)]), (1, 2, [.hole (.int .i64)])], []⟩)]
def circle_cut (n : Nat) (x0 : Int × List (Int × Int)) : Option ((List (Int × Int)) × Int) :=
  some (x0.2, x0.1)
def p_circle_cut : Plan := .leaf
noncomputable def c_circle_cut (n : Nat) : Cx := ⟨Go.Proofs.Try.prog, Θ, [24, 82], [], [], []⟩
theorem d_circle_cut (n : Nat) (x : h_circle_cut.X T) : denF (c_circle_cut n) n Go.Proofs.Try.f44 p_circle_cut h_circle_cut o_circle_cut x = circle_cut n x := by kernel_rfl
theorem s_circle_cut (n : Nat) : PCalls Go.Proofs.Try.prog Θ 44 ⟨h_circle_cut, o_circle_cut, circle_cut n⟩ :=
  func_ok' (C := c_circle_cut n) (n := n) (p := p_circle_cut) (ok_of mixed eqsOk trivial trivial trivial) Go.Proofs.Try.func44 (by kernel_rfl) (by kernel_rfl) (d_circle_cut n) (by kernel_rfl)

/-- carrefour/circle.pieces_round -/
def h_circle_pieces_round : Shape := ⟨slotsOf 2 [(0, .agg [.hole (.int .i64), .hole (.int .i64)]), (1, .c (.box 1000000 0))], [(1000000, 71, [.row 1000000])], [(1000000, 82)]⟩
def o_circle_pieces_round : List (Ex × Shape) := [(.ret, ⟨slotsOf 1 [(0, .c (.hole (.bool)))], [(1000000, 71, [.row 2000000])], [(2000000, 82)]⟩)]
noncomputable def R_350 : Rng := rng Go.Proofs.Try.f35 0 [5]
def yok_350 : Prop := Θ.Y 350 = some R_350
def circle_pieces_round (n : Nat) (x0 : Int × Int × List (Int × Int)) : Option (Bool × List (Int × Int)) :=
  let e0 := (x0.1, x0.2.1) :: []
  bif fitB (x0.2.2.length + e0.length) 16 then
    some (true, x0.2.2 ++ e0)
  else
  none
def p_circle_pieces_round : Plan := .leaf
noncomputable def c_circle_pieces_round (n : Nat) : Cx := ⟨Go.Proofs.Try.prog, Θ, [24, 82], [], [], []⟩
theorem d_circle_pieces_round (n : Nat) (x : h_circle_pieces_round.X T) : denY (c_circle_pieces_round n) n R_350 p_circle_pieces_round h_circle_pieces_round o_circle_pieces_round x = circle_pieces_round n x := by kernel_rfl
theorem yokT_350 : yok_350 := by unfold yok_350; kernel_rfl
theorem s_circle_pieces_round (n : Nat) : PYields Go.Proofs.Try.prog Θ 350 ⟨h_circle_pieces_round, o_circle_pieces_round, circle_pieces_round n⟩ :=
  yield_ok (C := c_circle_pieces_round n) (n := n) (R := R_350) (p := p_circle_pieces_round) (ok_of mixed eqsOk trivial trivial trivial) yokT_350 (by kernel_rfl) (by kernel_rfl) (by kernel_rfl) (by kernel_rfl) (d_circle_pieces_round n)

/-- carrefour/circle.cycle -/
def h_circle_cycle : Shape := ⟨slotsOf 1 [(0, .c (.hole (.int .i64)))], [], []⟩
def o_circle_cycle : List (Ex × Shape) := [(.ret, ⟨slotsOf 1 [(0, .c (.hole (.bool)))], [], []⟩)]
def circle_cycle (n : Nat) (x0 : Int) : Option (Bool) :=
  bif decide (1 ≤ x0) then
    some (decide (x0 ≤ 6000))
  else
  some false
def p_circle_cycle : Plan := .leaf
noncomputable def c_circle_cycle (n : Nat) : Cx := ⟨Go.Proofs.Try.prog, Θ, [24, 82], [], [], []⟩
theorem d_circle_cycle (n : Nat) (x : h_circle_cycle.X T) : denF (c_circle_cycle n) n Go.Proofs.Try.f61 p_circle_cycle h_circle_cycle o_circle_cycle x = circle_cycle n x := by kernel_rfl
theorem s_circle_cycle (n : Nat) : PCalls Go.Proofs.Try.prog Θ 61 ⟨h_circle_cycle, o_circle_cycle, circle_cycle n⟩ :=
  func_ok' (C := c_circle_cycle n) (n := n) (p := p_circle_cycle) (ok_of mixed eqsOk trivial trivial trivial) Go.Proofs.Try.func61 (by kernel_rfl) (by kernel_rfl) (d_circle_cycle n) (by kernel_rfl)

/-- carrefour/whole.Mod -/
def h_whole_Mod : Shape := ⟨slotsOf 2 [(0, .c (.hole (.int .i64))), (1, .c (.hole (.int .i64)))], [], []⟩
def o_whole_Mod : List (Ex × Shape) := [(.ret, ⟨slotsOf 2 [(0, .c (.hole (.int .i64))), (1, .c (.hole (.int .i64)))], [], []⟩)]
def whole_Mod (n : Nat) (x0 : Int × Int) : Option (Int × Int) :=
  let e0 := Int.tmod x0.1 x0.2
  bif decide (x0.2 < 1) then
    some (0, 1)
  else
  bif !(x0.2 == 0) then
    bif decide (e0 < 0) then
      some (wrap64 (e0 + x0.2), 0)
    else
    some (e0, 0)
  else
  none
def p_whole_Mod : Plan := .leaf
noncomputable def c_whole_Mod (n : Nat) : Cx := ⟨Go.Proofs.Try.prog, Θ, [24, 82], [], [], []⟩
theorem d_whole_Mod (n : Nat) (x : h_whole_Mod.X T) : denF (c_whole_Mod n) n Go.Proofs.Try.f73 p_whole_Mod h_whole_Mod o_whole_Mod x = whole_Mod n x := by kernel_rfl
theorem s_whole_Mod (n : Nat) : PCalls Go.Proofs.Try.prog Θ 73 ⟨h_whole_Mod, o_whole_Mod, whole_Mod n⟩ :=
  func_ok' (C := c_whole_Mod n) (n := n) (p := p_whole_Mod) (ok_of mixed eqsOk trivial trivial trivial) Go.Proofs.Try.func73 (by kernel_rfl) (by kernel_rfl) (d_whole_Mod n) (by kernel_rfl)

/-- carrefour/circle.modulo -/
def h_circle_modulo : Shape := ⟨slotsOf 2 [(0, .c (.hole (.int .i64))), (1, .c (.hole (.int .i64)))], [], []⟩
def o_circle_modulo : List (Ex × Shape) := [(.ret, ⟨slotsOf 1 [(0, .c (.hole (.int .i64)))], [], []⟩)]
def circle_modulo (n : Nat) (x0 : Int × Int) : Option (Int) :=
  (whole_Mod n x0).bind fun y1 =>
  some y1.1
def p_circle_modulo : Plan := .leaf
noncomputable def c_circle_modulo (n : Nat) : Cx := ⟨Go.Proofs.Try.prog, Θ, [24, 82], [(73, ⟨h_whole_Mod, o_whole_Mod, whole_Mod n⟩)], [], []⟩
theorem d_circle_modulo (n : Nat) (x : h_circle_modulo.X T) : denF (c_circle_modulo n) n Go.Proofs.Try.f62 p_circle_modulo h_circle_modulo o_circle_modulo x = circle_modulo n x := by kernel_rfl
theorem s_circle_modulo (n : Nat) : PCalls Go.Proofs.Try.prog Θ 62 ⟨h_circle_modulo, o_circle_modulo, circle_modulo n⟩ :=
  func_ok' (C := c_circle_modulo n) (n := n) (p := p_circle_modulo) (ok_of mixed eqsOk ⟨s_whole_Mod n, trivial⟩ trivial trivial) Go.Proofs.Try.func62 (by kernel_rfl) (by kernel_rfl) (d_circle_modulo n) (by kernel_rfl)

/-- carrefour/circle.Norm -/
def h_circle_Norm : Shape := ⟨slotsOf 2 [(0, .c (.hole (.int .i64))), (1, .agg [.hole (.int .i64), .hole (.int .i64)])], [], []⟩
def o_circle_Norm : List (Ex × Shape) := [(.ret, ⟨slotsOf 1 [(0, .agg [.hole (.int .i64), .hole (.int .i64)])], [], []⟩)]
def circle_Norm (n : Nat) (x0 : Int × Int × Int) : Option (Int × Int) :=
  letJ (fun (x2 : Int × Bool × Int × Int × Int × Int) =>
    bif x2.2.1 then
      some (0, 0)
    else
    bif decide (x2.1 ≤ x2.2.2.2.1) then
      some (0, x2.1)
    else
    (circle_modulo n (x2.2.2.1, x2.1)).bind fun y4 =>
    some (y4, x2.2.2.2.1)) fun J3 =>
  (circle_cycle n x0.1).bind fun y1 =>
  bif !y1 then
    J3 (x0.1, true, x0.2.1, x0.2.2, 0, 0)
  else
  J3 (x0.1, decide (x0.2.2 < 1), x0.2.1, x0.2.2, 0, 0)
def p_circle_Norm : Plan := .two (.leaf) (.two (.one (.two (.join ⟨slotsOf 29 [(0, .c (.hole (.int .i64))), (3, .c (.box 3 0)), (4, .c (.box 4 0)), (5, .c (.hole (.bool)))], [(3, 24, [.hole (.int .i64), .hole (.int .i64)]), (4, 24, [.hole (.int .i64), .hole (.int .i64)])], []⟩ (.leaf)) (.leaf))) (.leaf))
noncomputable def c_circle_Norm (n : Nat) : Cx := ⟨Go.Proofs.Try.prog, Θ, [24, 82], [(61, ⟨h_circle_cycle, o_circle_cycle, circle_cycle n⟩), (62, ⟨h_circle_modulo, o_circle_modulo, circle_modulo n⟩)], [], []⟩
theorem d_circle_Norm (n : Nat) (x : h_circle_Norm.X T) : denF (c_circle_Norm n) n Go.Proofs.Try.f55 p_circle_Norm h_circle_Norm o_circle_Norm x = circle_Norm n x := by kernel_rfl
theorem s_circle_Norm (n : Nat) : PCalls Go.Proofs.Try.prog Θ 55 ⟨h_circle_Norm, o_circle_Norm, circle_Norm n⟩ :=
  func_ok' (C := c_circle_Norm n) (n := n) (p := p_circle_Norm) (ok_of mixed eqsOk ⟨s_circle_cycle n, s_circle_modulo n, trivial⟩ trivial trivial) Go.Proofs.Try.func55 (by kernel_rfl) (by kernel_rfl) (d_circle_Norm n) (by kernel_rfl)

/-- carrefour/circle.cut$1 -/
def h_circle_cut_1 : Shape := ⟨slotsOf 3 [(0, .yld 350 [.c (.box 1000000 0)]), (1, .c (.box 1000001 0)), (2, .c (.box 1000002 0))], [(1000000, 71, [.row 1000000]), (1000001, 47, [.hole (.sl 24)]), (1000002, 2, [.hole (.int .i64)])], [(1000000, 82)]⟩
def o_circle_cut_1 : List (Ex × Shape) := [(.ret, ⟨slotsOf 0 [], [(1000000, 71, [.row 2000000]), (1000001, 47, [.hole (.sl 24)]), (1000002, 2, [.hole (.int .i64)])], [(2000000, 82)]⟩)]
def circle_cut_1 (n : Nat) (x0 : (List (Int × Int)) × Int × List (Int × Int)) : Option ((List (Int × Int)) × Int × List (Int × Int)) :=
  (iterL (Y := ((List (Int × Int)) × Int × List (Int × Int)) ⊕ ((List (Int × Int)) × Int × List (Int × Int))) n (fun (x7 : (List (Int × Int)) × Int × Int × (List (Int × Int)) × Int × List (Int × Int)) =>
    bif decide (x7.2.2.1 < x7.2.1) then
      bif inB x7.2.2.1 x7.1.length then
        (circle_Norm n (x7.2.2.2.2.1, atI (0, 0) x7.1 x7.2.2.1)).bind fun y8 =>
        let e0 := wrap64 (y8.1 + y8.2)
        bif y8.2 == 0 then
          some (.inl (x7.1, x7.2.1, wrap64 (x7.2.2.1 + 1), x7.2.2.2))
        else
        letJ (fun (x11 : (List (Int × Int)) × Int × Int × Bool × (List (Int × Int)) × Int × List (Int × Int)) =>
          bif x11.2.2.2.1 then
            some (.inr (.inl x11.2.2.2.2))
          else
          some (.inl (x11.1, x11.2.1, wrap64 (x11.2.2.1 + 1), x11.2.2.2.2))) fun J12 =>
        (circle_pieces_round n (y8.1, mn e0 x7.2.2.2.2.1, x7.2.2.2.2.2)).bind fun y9 =>
        bif !y9.1 then
          J12 (x7.1, x7.2.1, x7.2.2.1, true, x7.2.2.2.1, x7.2.2.2.2.1, y9.2)
        else
        bif decide (x7.2.2.2.2.1 < e0) then
          (circle_pieces_round n (0, wrap64 (e0 - x7.2.2.2.2.1), y9.2)).bind fun y10 =>
          J12 (x7.1, x7.2.1, x7.2.2.1, !y10.1, x7.2.2.2.1, x7.2.2.2.2.1, y10.2)
        else
        J12 (x7.1, x7.2.1, x7.2.2.1, false, x7.2.2.2.1, x7.2.2.2.2.1, y9.2)
      else
      none
    else
    some (.inr (.inr x7.2.2.2))) (x0.1, ((x0.1.length : Nat) : Int), 0, x0)).bind (Sum.elim (fun (z13 : (List (Int × Int)) × Int × List (Int × Int)) =>
    some z13) (fun (z14 : (List (Int × Int)) × Int × List (Int × Int)) =>
    some z14))
def p_circle_cut_1 : Plan := .two (.leaf) (.one (.loop ⟨slotsOf 48 [(0, .yld 350 [.c (.box 1000000 0)]), (2, .c (.box 1000002 0)), (7, .c (.hole (.sl 24))), (8, .c (.hole (.int .i64))), (9, .c (.hole (.int .i64)))], [(1000000, 71, [.row 2000000]), (1000001, 47, [.hole (.sl 24)]), (1000002, 2, [.hole (.int .i64)])], [(2000000, 82)]⟩ [(.ret, ⟨slotsOf 48 [], [(1000000, 71, [.row 2000000]), (1000001, 47, [.hole (.sl 24)]), (1000002, 2, [.hole (.int .i64)])], [(2000000, 82)]⟩), (.exit 0, ⟨slotsOf 48 [], [(1000000, 71, [.row 2000000]), (1000001, 47, [.hole (.sl 24)]), (1000002, 2, [.hole (.int .i64)])], [(2000000, 82)]⟩)] (.two (.leaf) (.two (.leaf) (.two (.one (.two (.leaf) (.two (.leaf) (.two (.leaf) (.two (.leaf) (.two (.join ⟨slotsOf 48 [(0, .yld 350 [.c (.box 1000000 0)]), (2, .c (.box 1000002 0)), (7, .c (.hole (.sl 24))), (8, .c (.hole (.int .i64))), (9, .c (.hole (.int .i64))), (46, .c (.hole (.bool)))], [(1000000, 71, [.row 2000000]), (1000001, 47, [.hole (.sl 24)]), (1000002, 2, [.hole (.int .i64)])], [(2000000, 82)]⟩ (.leaf)) (.leaf))))))) (.leaf))))))
noncomputable def c_circle_cut_1 (n : Nat) : Cx := ⟨Go.Proofs.Try.prog, Θ, [24, 82], [(55, ⟨h_circle_Norm, o_circle_Norm, circle_Norm n⟩)], [(350, ⟨h_circle_pieces_round, o_circle_pieces_round, circle_pieces_round n⟩)], []⟩
theorem d_circle_cut_1 (n : Nat) (x : h_circle_cut_1.X T) : denF (c_circle_cut_1 n) n Go.Proofs.Try.f54 p_circle_cut_1 h_circle_cut_1 o_circle_cut_1 x = circle_cut_1 n x := by kernel_rfl
theorem s_circle_cut_1 (n : Nat) : PCalls Go.Proofs.Try.prog Θ 54 ⟨h_circle_cut_1, o_circle_cut_1, circle_cut_1 n⟩ :=
  func_ok' (C := c_circle_cut_1 n) (n := n) (p := p_circle_cut_1) (ok_of mixed eqsOk ⟨s_circle_Norm n, trivial⟩ ⟨s_circle_pieces_round n, trivial⟩ trivial) Go.Proofs.Try.func54 (by kernel_rfl) (by kernel_rfl) (d_circle_cut_1 n) (by kernel_rfl)

/-- carrefour/circle.pieces -/
def h_circle_pieces : Shape := ⟨slotsOf 2 [(0, .c (.hole (.int .i64))), (1, .c (.hole (.sl 24)))], [], []⟩
def o_circle_pieces : List (Ex × Shape) := [(.ret, ⟨slotsOf 1 [(0, .c (.row 0))], [], [(0, 82)]⟩)]
noncomputable def circle_pieces (n : Nat) (x0 : Int × List (Int × Int)) : Option (List (Int × Int)) :=
  (circle_cut n x0).bind fun y1 =>
  ifY yok_350 (
    (circle_cut_1 n (y1.1, y1.2, [])).bind fun y2 =>
    (slices_SortFunc_circle_pieces_1 n y2.2.2).bind fun y3 =>
    (iterL (Y := (List (Int × Int))) n (fun (x5 : Int × Int × (List (Int × Int)) × List (Int × Int)) =>
      bif decide (x5.2.1 < x5.1) then
        bif inB x5.2.1 x5.2.2.2.length then
          letJ (fun (x6 : Int × Int × Int × Bool × Int × Int × (List (Int × Int)) × List (Int × Int)) =>
            bif x6.2.2.2.1 then
              bif inB (wrap64 (x6.1 - 1)) x6.2.2.2.2.2.2.1.length then
                bif inB (wrap64 (x6.1 - 1)) x6.2.2.2.2.2.2.1.length then
                  some (.inl (x6.2.1, wrap64 (x6.2.2.1 + 1), List.set x6.2.2.2.2.2.2.1 (Int.toNat (wrap64 (x6.1 - 1))) ((atI (0, 0) x6.2.2.2.2.2.2.1 (wrap64 (x6.1 - 1))).1, mx (atI (0, 0) x6.2.2.2.2.2.2.1 (wrap64 (x6.1 - 1))).2 x6.2.2.2.2.2.1), x6.2.2.2.2.2.2.2))
                else
                none
              else
              none
            else
              bif fitB (x6.2.2.2.2.2.2.1.length + (List.length ((x6.2.2.2.2.1, x6.2.2.2.2.2.1) :: []))) 16 then
                some (.inl (x6.2.1, wrap64 (x6.2.2.1 + 1), x6.2.2.2.2.2.2.1 ++ ((x6.2.2.2.2.1, x6.2.2.2.2.2.1) :: []), x6.2.2.2.2.2.2.2))
              else
              none) fun J7 =>
          bif decide (0 < ((x5.2.2.1.length : Nat) : Int)) then
            bif inB (wrap64 (((x5.2.2.1.length : Nat) : Int) - 1)) x5.2.2.1.length then
              J7 (((x5.2.2.1.length : Nat) : Int), x5.1, x5.2.1, decide ((atI (0, 0) x5.2.2.2 x5.2.1).1 ≤ (atI (0, 0) x5.2.2.1 (wrap64 (((x5.2.2.1.length : Nat) : Int) - 1))).2), (atI (0, 0) x5.2.2.2 x5.2.1).1, (atI (0, 0) x5.2.2.2 x5.2.1).2, x5.2.2)
            else
            none
          else
          J7 (((x5.2.2.1.length : Nat) : Int), x5.1, x5.2.1, false, (atI (0, 0) x5.2.2.2 x5.2.1).1, (atI (0, 0) x5.2.2.2 x5.2.1).2, x5.2.2)
        else
        none
      else
      some (.inr x5.2.2.1)) (((y3.length : Nat) : Int), 0, [], y3)).bind fun (z8 : List (Int × Int)) =>
      some z8)
def p_circle_pieces : Plan := .two (.leaf) (.two (.leaf) (.two (.two (.leaf) (.one (.range 350 [5]))) (.two (.leaf) (.two (.leaf) (.two (.two (.leaf) (.one (.loop ⟨slotsOf 62 [(7, .c (.row 59)), (21, .c (.row 910500)), (22, .c (.hole (.int .i64))), (23, .c (.hole (.int .i64)))], [], [(59, 82), (910500, 82)]⟩ [(.exit 2, ⟨slotsOf 62 [(7, .c (.row 59))], [], [(59, 82)]⟩)] (.two (.leaf) (.two (.leaf) (.two (.one (.two (.leaf) (.two (.two (.leaf) (.two (.join ⟨slotsOf 62 [(7, .c (.row 59)), (9, .c (.box 9 0)), (10, .c (.hole (.int .i64))), (21, .c (.row 910500)), (22, .c (.hole (.int .i64))), (23, .c (.hole (.int .i64))), (41, .c (.hole (.bool)))], [(9, 82, [.hole (.int .i64), .hole (.int .i64)])], [(59, 82), (910500, 82)]⟩ (.leaf)) (.leaf))) (.leaf)))) (.leaf))))))) (.leaf))))))
noncomputable def c_circle_pieces (n : Nat) : Cx := ⟨Go.Proofs.Try.prog, Θ, [24, 82], [(45, ⟨h_slices_SortFunc_circle_pieces_1, o_slices_SortFunc_circle_pieces_1, slices_SortFunc_circle_pieces_1 n⟩), (44, ⟨h_circle_cut, o_circle_cut, circle_cut n⟩), (54, ⟨h_circle_cut_1, o_circle_cut_1, circle_cut_1 n⟩)], [], []⟩
theorem d_circle_pieces (n : Nat) (x : h_circle_pieces.X T) : denF (c_circle_pieces n) n Go.Proofs.Try.f35 p_circle_pieces h_circle_pieces o_circle_pieces x = circle_pieces n x := by kernel_rfl
theorem s_circle_pieces (n : Nat) : PCalls Go.Proofs.Try.prog Θ 35 ⟨h_circle_pieces, o_circle_pieces, circle_pieces n⟩ :=
  func_ok' (C := c_circle_pieces n) (n := n) (p := p_circle_pieces) (ok_of mixed eqsOk ⟨s_slices_SortFunc_circle_pieces_1 n, s_circle_cut n, s_circle_cut_1 n, trivial⟩ trivial trivial) Go.Proofs.Try.func35 (by kernel_rfl) (by kernel_rfl) (d_circle_pieces n) (by kernel_rfl)

/-- slices.Clone[[]carrefour/circle.piece,carrefour/circle.piece] -/
def h_slices_Clone_piece : Shape := ⟨slotsOf 1 [(0, .c (.hole (.sl 82)))], [], []⟩
def o_slices_Clone_piece : List (Ex × Shape) := [(.ret, ⟨slotsOf 1 [(0, .c (.row 0))], [], [(0, 82)]⟩)]
noncomputable def slices_Clone_piece (n : Nat) (x0 : List (Int × Int)) : Option (List (Int × Int)) :=
  let e0 := fitB x0.length 16
  bif List.isEmpty x0 then
    both (
      some []) (
      bif e0 then
        some x0
      else
      none)
  else
    bif e0 then
      some x0
    else
    none
def p_slices_Clone_piece : Plan := .leaf
noncomputable def c_slices_Clone_piece (n : Nat) : Cx := ⟨Go.Proofs.Try.prog, Θ, [24, 82], [], [], []⟩
theorem d_slices_Clone_piece (n : Nat) (x : h_slices_Clone_piece.X T) : denF (c_slices_Clone_piece n) n Go.Proofs.Try.f43 p_slices_Clone_piece h_slices_Clone_piece o_slices_Clone_piece x = slices_Clone_piece n x := by kernel_rfl
theorem s_slices_Clone_piece (n : Nat) : PCalls Go.Proofs.Try.prog Θ 43 ⟨h_slices_Clone_piece, o_slices_Clone_piece, slices_Clone_piece n⟩ :=
  func_ok' (C := c_slices_Clone_piece n) (n := n) (p := p_slices_Clone_piece) (ok_of mixed eqsOk trivial trivial trivial) Go.Proofs.Try.func43 (by kernel_rfl) (by kernel_rfl) (d_slices_Clone_piece n) (by kernel_rfl)

/-- carrefour/circle.arcs -/
def h_circle_arcs : Shape := ⟨slotsOf 2 [(0, .c (.hole (.int .i64))), (1, .c (.hole (.sl 82)))], [], []⟩
def o_circle_arcs : List (Ex × Shape) := [(.ret, ⟨slotsOf 1 [(0, .c (.row 0))], [], [(0, 24)]⟩)]
noncomputable def circle_arcs (n : Nat) (x0 : Int × List (Int × Int)) : Option (List (Int × Int)) :=
  let e0 := x0.2.length
  let e1 := ((e0 : Nat) : Int)
  let e2 := wrap64 (e1 - 1)
  bif e1 == 0 then
    some []
  else
  letJ (fun (x4 : List (Int × Int)) =>
    (iterL (Y := (List (Int × Int))) n (fun (x7 : (List (Int × Int)) × Int × Int × List (Int × Int)) =>
      let e3 := atI (0, 0) x7.1 x7.2.2.1
      let e4 := e3.1
      let e5 := (e4, wrap64 (e3.2 - e4)) :: []
      bif decide (x7.2.2.1 < x7.2.1) then
        bif inB x7.2.2.1 x7.1.length then
          bif fitB (x7.2.2.2.length + e5.length) 16 then
            some (.inl (x7.1, x7.2.1, wrap64 (x7.2.2.1 + 1), x7.2.2.2 ++ e5))
          else
          none
        else
        none
      else
      some (.inr x7.2.2.2)) (x4, ((x4.length : Nat) : Int), 0, [])).bind fun (z8 : List (Int × Int)) =>
      some z8) fun J5 =>
  letJ (fun (x1 : Int × (List (Int × Int)) × Int × Bool) =>
    let e6 := x1.2.1.length
    let e7 := ((atI (0, 0) x1.2.1 x1.2.2.1).1, wrap64 (x1.1 + (atI (0, 0) x1.2.1 0).2)) :: []
    bif x1.2.2.2 then
      bif cutOk (some 1) (some x1.2.2.1) e6 then
        (slices_Clone_piece n (cutList (some 1) (some x1.2.2.1) x1.2.1)).bind fun y3 =>
        bif inB x1.2.2.1 e6 then
          bif inB 0 e6 then
            bif fitB (y3.length + e7.length) 16 then
              J5 (y3 ++ e7)
            else
            none
          else
          none
        else
        none
      else
      none
    else
    J5 x1.2.1) fun J2 =>
  bif decide (0 < e2) then
    bif inB 0 e0 then
      bif (atI (0, 0) x0.2 0).1 == 0 then
        bif inB e2 e0 then
          J2 (x0.1, x0.2, e2, (atI (0, 0) x0.2 e2).2 == x0.1)
        else
        none
      else
      J2 (x0.1, x0.2, e2, false)
    else
    none
  else
  J2 (x0.1, x0.2, e2, false)
def p_circle_arcs : Plan := .two (.leaf) (.two (.leaf) (.two (.leaf) (.two (.join ⟨slotsOf 70 [(1, .c (.hole (.sl 82)))], [], []⟩ (.two (.join ⟨slotsOf 70 [(0, .c (.hole (.int .i64))), (1, .c (.hole (.sl 82))), (5, .c (.hole (.int .i64))), (32, .c (.hole (.bool)))], [], []⟩ (.leaf)) (.leaf))) (.two (.leaf) (.two (.two (.leaf) (.one (.loop ⟨slotsOf 70 [(6, .c (.row 67)), (51, .c (.hole (.sl 82))), (52, .c (.hole (.int .i64))), (53, .c (.hole (.int .i64)))], [], [(67, 24)]⟩ [(.exit 0, ⟨slotsOf 70 [(6, .c (.row 67))], [], [(67, 24)]⟩)] (.leaf)))) (.leaf))))))
noncomputable def c_circle_arcs (n : Nat) : Cx := ⟨Go.Proofs.Try.prog, Θ, [24, 82], [(43, ⟨h_slices_Clone_piece, o_slices_Clone_piece, slices_Clone_piece n⟩)], [], []⟩
theorem d_circle_arcs (n : Nat) (x : h_circle_arcs.X T) : denF (c_circle_arcs n) n Go.Proofs.Try.f34 p_circle_arcs h_circle_arcs o_circle_arcs x = circle_arcs n x := by kernel_rfl
theorem s_circle_arcs (n : Nat) : PCalls Go.Proofs.Try.prog Θ 34 ⟨h_circle_arcs, o_circle_arcs, circle_arcs n⟩ :=
  func_ok' (C := c_circle_arcs n) (n := n) (p := p_circle_arcs) (ok_of mixed eqsOk ⟨s_slices_Clone_piece n, trivial⟩ trivial trivial) Go.Proofs.Try.func34 (by kernel_rfl) (by kernel_rfl) (d_circle_arcs n) (by kernel_rfl)

/-- carrefour/circle.Set -/
def h_circle_Set : Shape := ⟨slotsOf 2 [(0, .c (.hole (.int .i64))), (1, .c (.hole (.sl 24)))], [], []⟩
def o_circle_Set : List (Ex × Shape) := [(.ret, ⟨slotsOf 1 [(0, .c (.row 0))], [], [(0, 24)]⟩)]
noncomputable def circle_Set (n : Nat) (x0 : Int × List (Int × Int)) : Option (List (Int × Int)) :=
  (circle_pieces n x0).bind fun y1 =>
  (circle_arcs n (x0.1, y1)).bind fun y2 =>
  some y2
def p_circle_Set : Plan := .leaf
noncomputable def c_circle_Set (n : Nat) : Cx := ⟨Go.Proofs.Try.prog, Θ, [24, 82], [(35, ⟨h_circle_pieces, o_circle_pieces, circle_pieces n⟩), (34, ⟨h_circle_arcs, o_circle_arcs, circle_arcs n⟩)], [], []⟩
theorem d_circle_Set (n : Nat) (x : h_circle_Set.X T) : denF (c_circle_Set n) n Go.Proofs.Try.f21 p_circle_Set h_circle_Set o_circle_Set x = circle_Set n x := by kernel_rfl
theorem s_circle_Set (n : Nat) : PCalls Go.Proofs.Try.prog Θ 21 ⟨h_circle_Set, o_circle_Set, circle_Set n⟩ :=
  func_ok' (C := c_circle_Set n) (n := n) (p := p_circle_Set) (ok_of mixed eqsOk ⟨s_circle_pieces n, s_circle_arcs n, trivial⟩ trivial trivial) Go.Proofs.Try.func21 (by kernel_rfl) (by kernel_rfl) (d_circle_Set n) (by kernel_rfl)

/-- (*carrefour/chart.page).mark -/
def h_chart_page_mark : Shape := ⟨slotsOf 4 [(0, .c (.box 1000000 0)), (1, .c (.row 1000000)), (2, .c (.hole (.sl 24))), (3, .c (.hole (.int .u8)))], [(1000000, 43, [.np, .row 1000001, .hole (.int .i64), .hole (.int .i64)])], [(1000000, 5), (1000001, 5)]⟩
def o_chart_page_mark : List (Ex × Shape) := [(.ret, ⟨slotsOf 0 [], [(1000000, 43, [.np, .row 1000001, .hole (.int .i64), .hole (.int .i64)])], [(1000000, 5), (1000001, 5)]⟩)]
def chart_page_mark (n : Nat) (x0 : (List (Int × Int)) × Int × Int × Int × (List Int) × List Int) : Option (Int × Int × (List Int) × List Int) :=
  (iterL (Y := (Int × Int × (List Int) × List Int)) n (fun (x1 : Int × (List (Int × Int)) × Int × Int × Int × Int × (List Int) × List Int) =>
    let e0 := atI (0, 0) x1.2.1 x1.2.2.2.1
    let e1 := e0.1
    let e2 := e1 :: ((wrap64 (e1 - x1.2.2.2.2.1)) :: [])
    bif decide (x1.2.2.2.1 < x1.2.2.1) then
      bif inB x1.2.2.2.1 x1.2.1.length then
        (iterL (Y := (Int × (List (Int × Int)) × Int × Int × Int × Int × (List Int) × List Int)) n (fun (x2 : Int × (List (Int × Int)) × Int × Int × (List Int) × Int × Int × Int × Int × Int × Int × (List Int) × List Int) =>
          let e3 := atI 0 x2.2.2.2.2.1 x2.2.2.2.2.2.2.1
          bif decide (x2.2.2.2.2.2.2.1 < x2.2.2.2.2.2.1) then
            bif inB x2.2.2.2.2.2.2.1 x2.2.2.2.2.1.length then
              bif !(x2.2.2.2.2.2.2.2.2.1 == 0) then
                (iterL (Y := (Int × (List (Int × Int)) × Int × Int × (List Int) × Int × Int × Int × Int × Int × Int × (List Int) × List Int)) n (fun (x3 : Int × Int × Int × (List (Int × Int)) × Int × Int × (List Int) × Int × Int × Int × Int × Int × Int × (List Int) × List Int) =>
                  let e4 := wrap64 (Int.tdiv x3.2.2.1 x3.2.2.2.2.2.2.2.2.2.2.1)
                  bif decide (x3.2.2.1 < mn (wrap64 (x3.2.1 + x3.2.2.2.2.2.2.2.2.2.2.2.2.1)) x3.2.2.2.2.2.2.2.2.2.1) then
                    bif !(x3.2.2.2.2.2.2.2.2.2.2.1 == 0) then
                      bif inB e4 x3.2.2.2.2.2.2.2.2.2.2.2.2.2.1.length then
                        some (.inl (x3.1, x3.2.1, wrap64 (x3.2.2.1 + x3.2.2.2.2.2.2.2.2.2.2.1), x3.2.2.2.1, x3.2.2.2.2.1, x3.2.2.2.2.2.1, x3.2.2.2.2.2.2.1, x3.2.2.2.2.2.2.2.1, x3.2.2.2.2.2.2.2.2.1, x3.2.2.2.2.2.2.2.2.2.1, x3.2.2.2.2.2.2.2.2.2.2.1, x3.2.2.2.2.2.2.2.2.2.2.2.1, x3.2.2.2.2.2.2.2.2.2.2.2.2.1, List.set x3.2.2.2.2.2.2.2.2.2.2.2.2.2.1 (Int.toNat e4) x3.1, x3.2.2.2.2.2.2.2.2.2.2.2.2.2.2))
                      else
                      none
                    else
                    none
                  else
                  some (.inr (x3.1, x3.2.2.2))) (x2.1, e3, mx 0 (wrap64 ((wrap64 (Int.tdiv (wrap64 ((wrap64 (e3 + x2.2.2.2.2.2.2.2.2.1)) - 1)) x2.2.2.2.2.2.2.2.2.1)) * x2.2.2.2.2.2.2.2.2.1)), x2.2)).bind fun (z4 : Int × (List (Int × Int)) × Int × Int × (List Int) × Int × Int × Int × Int × Int × Int × (List Int) × List Int) =>
                  some (.inl (z4.1, z4.2.1, z4.2.2.1, z4.2.2.2.1, z4.2.2.2.2.1, z4.2.2.2.2.2.1, wrap64 (z4.2.2.2.2.2.2.1 + 1), z4.2.2.2.2.2.2.2))
              else
              none
            else
            none
          else
          some (.inr (x2.1, x2.2.1, x2.2.2.1, x2.2.2.2.1, x2.2.2.2.2.2.2.2.1, x2.2.2.2.2.2.2.2.2.1, x2.2.2.2.2.2.2.2.2.2.2.2))) (x1.1, x1.2.1, x1.2.2.1, x1.2.2.2.1, e2, ((e2.length : Nat) : Int), 0, x1.2.2.2.2.1, x1.2.2.2.2.2.1, e1, e0.2, x1.2.2.2.2.2.2)).bind fun (z5 : Int × (List (Int × Int)) × Int × Int × Int × Int × (List Int) × List Int) =>
          some (.inl (z5.1, z5.2.1, z5.2.2.1, wrap64 (z5.2.2.2.1 + 1), z5.2.2.2.2))
      else
      none
    else
    some (.inr x1.2.2.2.2)) (x0.2.1, x0.1, ((x0.1.length : Nat) : Int), 0, x0.2.2)).bind fun (z6 : Int × Int × (List Int) × List Int) =>
    some z6
def p_chart_page_mark : Plan := .two (.leaf) (.one (.loop ⟨slotsOf 80 [(0, .c (.box 1000000 0)), (1, .c (.row 1000000)), (3, .c (.hole (.int .u8))), (13, .c (.hole (.sl 24))), (14, .c (.hole (.int .i64))), (15, .c (.hole (.int .i64)))], [(1000000, 43, [.np, .row 1000001, .hole (.int .i64), .hole (.int .i64)])], [(1000000, 5), (1000001, 5)]⟩ [(.exit 0, ⟨slotsOf 80 [], [(1000000, 43, [.np, .row 1000001, .hole (.int .i64), .hole (.int .i64)])], [(1000000, 5), (1000001, 5)]⟩)] (.two (.leaf) (.two (.leaf) (.two (.one (.two (.leaf) (.two (.leaf) (.one (.loop ⟨slotsOf 80 [(0, .c (.box 1000000 0)), (1, .c (.row 1000000)), (3, .c (.hole (.int .u8))), (9, .c (.box 9 0)), (13, .c (.hole (.sl 24))), (14, .c (.hole (.int .i64))), (15, .c (.hole (.int .i64))), (28, .c (.hole (.sl 2))), (29, .c (.hole (.int .i64))), (30, .c (.hole (.int .i64)))], [(1000000, 43, [.np, .row 1000001, .hole (.int .i64), .hole (.int .i64)]), (9, 24, [.hole (.int .i64), .hole (.int .i64)])], [(1000000, 5), (1000001, 5)]⟩ [(.exit 2, ⟨slotsOf 80 [(0, .c (.box 1000000 0)), (1, .c (.row 1000000)), (3, .c (.hole (.int .u8))), (13, .c (.hole (.sl 24))), (14, .c (.hole (.int .i64))), (15, .c (.hole (.int .i64)))], [(1000000, 43, [.np, .row 1000001, .hole (.int .i64), .hole (.int .i64)])], [(1000000, 5), (1000001, 5)]⟩)] (.two (.leaf) (.two (.leaf) (.two (.one (.two (.leaf) (.two (.leaf) (.one (.loop ⟨slotsOf 80 [(0, .c (.box 1000000 0)), (1, .c (.row 1000000)), (3, .c (.hole (.int .u8))), (9, .c (.box 9 0)), (11, .c (.hole (.int .i64))), (12, .c (.hole (.int .i64))), (13, .c (.hole (.sl 24))), (14, .c (.hole (.int .i64))), (15, .c (.hole (.int .i64))), (28, .c (.hole (.sl 2))), (29, .c (.hole (.int .i64))), (30, .c (.hole (.int .i64)))], [(1000000, 43, [.np, .row 1000001, .hole (.int .i64), .hole (.int .i64)]), (9, 24, [.hole (.int .i64), .hole (.int .i64)])], [(1000000, 5), (1000001, 5)]⟩ [(.exit 4, ⟨slotsOf 80 [(0, .c (.box 1000000 0)), (1, .c (.row 1000000)), (3, .c (.hole (.int .u8))), (9, .c (.box 9 0)), (13, .c (.hole (.sl 24))), (14, .c (.hole (.int .i64))), (15, .c (.hole (.int .i64))), (28, .c (.hole (.sl 2))), (29, .c (.hole (.int .i64))), (30, .c (.hole (.int .i64)))], [(1000000, 43, [.np, .row 1000001, .hole (.int .i64), .hole (.int .i64)]), (9, 24, [.hole (.int .i64), .hole (.int .i64)])], [(1000000, 5), (1000001, 5)]⟩)] (.leaf)))))) (.leaf))))))))) (.leaf))))))
noncomputable def c_chart_page_mark (n : Nat) : Cx := ⟨Go.Proofs.Try.prog, Θ, [24, 82], [], [], []⟩
theorem d_chart_page_mark (n : Nat) (x : h_chart_page_mark.X T) : denF (c_chart_page_mark n) n Go.Proofs.Try.f22 p_chart_page_mark h_chart_page_mark o_chart_page_mark x = chart_page_mark n x := by kernel_rfl
theorem s_chart_page_mark (n : Nat) : PCalls Go.Proofs.Try.prog Θ 22 ⟨h_chart_page_mark, o_chart_page_mark, chart_page_mark n⟩ :=
  func_ok' (C := c_chart_page_mark n) (n := n) (p := p_chart_page_mark) (ok_of mixed eqsOk trivial trivial trivial) Go.Proofs.Try.func22 (by kernel_rfl) (by kernel_rfl) (d_chart_page_mark n) (by kernel_rfl)

/-- carrefour/circle.common -/
def h_circle_common : Shape := ⟨slotsOf 2 [(0, .c (.hole (.sl 82))), (1, .c (.hole (.sl 82)))], [], []⟩
def o_circle_common : List (Ex × Shape) := [(.ret, ⟨slotsOf 1 [(0, .c (.row 0))], [], [(0, 82)]⟩)]
def circle_common (n : Nat) (x0 : (List (Int × Int)) × List (Int × Int)) : Option (List (Int × Int)) :=
  (iterL (Y := (List (Int × Int))) n (fun (x6 : (List (Int × Int)) × (List (Int × Int)) × List (Int × Int)) =>
    letJ (fun (x7 : (List (Int × Int)) × (List (Int × Int)) × Bool × List (Int × Int)) =>
      let e0 := inB 0 x7.1.length
      let e1 := inB 0 x7.2.1.length
      let e2 := atI (0, 0) x7.1 0
      let e3 := atI (0, 0) x7.2.1 0
      let e4 := mx e2.1 e3.1
      let e5 := mn e2.2 e3.2
      let e6 := (e4, e5) :: []
      bif x7.2.2.1 then
        bif e0 then
          bif e1 then
            bif e0 then
              bif e1 then
                letJ (fun (x9 : (List (Int × Int)) × (List (Int × Int)) × List (Int × Int)) =>
                  let e7 := x9.1.length
                  let e8 := x9.2.1.length
                  bif inB 0 e7 then
                    bif inB 0 e8 then
                      bif decide ((atI (0, 0) x9.1 0).2 < (atI (0, 0) x9.2.1 0).2) then
                        bif cutOk (some 1) none e7 then
                          some (.inl (cutList (some 1) none x9.1, x9.2))
                        else
                        none
                      else
                        bif cutOk (some 1) none e8 then
                          some (.inl (x9.1, cutList (some 1) none x9.2.1, x9.2.2))
                        else
                        none
                    else
                    none
                  else
                  none) fun J10 =>
                bif decide (e4 < e5) then
                  bif fitB (x7.2.2.2.length + e6.length) 16 then
                    J10 (x7.1, x7.2.1, x7.2.2.2 ++ e6)
                  else
                  none
                else
                J10 (x7.1, x7.2.1, x7.2.2.2)
              else
              none
            else
            none
          else
          none
        else
        none
      else
      some (.inr x7.2.2.2)) fun J8 =>
    bif decide (0 < ((x6.1.length : Nat) : Int)) then
      J8 (x6.1, x6.2.1, decide (0 < ((x6.2.1.length : Nat) : Int)), x6.2.2)
    else
    J8 (x6.1, x6.2.1, false, x6.2.2)) (x0.1, x0.2, [])).bind fun (z11 : List (Int × Int)) =>
    some z11
def p_circle_common : Plan := .two (.leaf) (.two (.leaf) (.two (.one (.loop ⟨slotsOf 57 [(0, .c (.hole (.sl 82))), (1, .c (.hole (.sl 82))), (5, .c (.row 42))], [], [(42, 82)]⟩ [(.exit 0, ⟨slotsOf 57 [(5, .c (.row 42))], [], [(42, 82)]⟩)] (.two (.two (.join ⟨slotsOf 57 [(0, .c (.hole (.sl 82))), (1, .c (.hole (.sl 82))), (5, .c (.row 42)), (15, .c (.hole (.bool)))], [], [(42, 82)]⟩ (.leaf)) (.leaf)) (.one (.two (.leaf) (.two (.join ⟨slotsOf 57 [(0, .c (.hole (.sl 82))), (1, .c (.hole (.sl 82))), (5, .c (.row 42))], [], [(42, 82)]⟩ (.leaf)) (.leaf))))))) (.leaf)))
noncomputable def c_circle_common (n : Nat) : Cx := ⟨Go.Proofs.Try.prog, Θ, [24, 82], [], [], []⟩
theorem d_circle_common (n : Nat) (x : h_circle_common.X T) : denF (c_circle_common n) n Go.Proofs.Try.f36 p_circle_common h_circle_common o_circle_common x = circle_common n x := by kernel_rfl
theorem s_circle_common (n : Nat) : PCalls Go.Proofs.Try.prog Θ 36 ⟨h_circle_common, o_circle_common, circle_common n⟩ :=
  func_ok' (C := c_circle_common n) (n := n) (p := p_circle_common) (ok_of mixed eqsOk trivial trivial trivial) Go.Proofs.Try.func36 (by kernel_rfl) (by kernel_rfl) (d_circle_common n) (by kernel_rfl)

/-- carrefour/circle.Meet -/
def h_circle_Meet : Shape := ⟨slotsOf 3 [(0, .c (.hole (.int .i64))), (1, .c (.hole (.sl 24))), (2, .c (.hole (.sl 24)))], [], []⟩
def o_circle_Meet : List (Ex × Shape) := [(.ret, ⟨slotsOf 1 [(0, .c (.row 0))], [], [(0, 24)]⟩)]
noncomputable def circle_Meet (n : Nat) (x0 : Int × (List (Int × Int)) × List (Int × Int)) : Option (List (Int × Int)) :=
  (circle_pieces n (x0.1, x0.2.1)).bind fun y1 =>
  (circle_pieces n (x0.1, x0.2.2)).bind fun y2 =>
  (circle_common n (y1, y2)).bind fun y3 =>
  (circle_arcs n (x0.1, y3)).bind fun y4 =>
  some y4
def p_circle_Meet : Plan := .leaf
noncomputable def c_circle_Meet (n : Nat) : Cx := ⟨Go.Proofs.Try.prog, Θ, [24, 82], [(35, ⟨h_circle_pieces, o_circle_pieces, circle_pieces n⟩), (34, ⟨h_circle_arcs, o_circle_arcs, circle_arcs n⟩), (36, ⟨h_circle_common, o_circle_common, circle_common n⟩)], [], []⟩
theorem d_circle_Meet (n : Nat) (x : h_circle_Meet.X T) : denF (c_circle_Meet n) n Go.Proofs.Try.f23 p_circle_Meet h_circle_Meet o_circle_Meet x = circle_Meet n x := by kernel_rfl
theorem s_circle_Meet (n : Nat) : PCalls Go.Proofs.Try.prog Θ 23 ⟨h_circle_Meet, o_circle_Meet, circle_Meet n⟩ :=
  func_ok' (C := c_circle_Meet n) (n := n) (p := p_circle_Meet) (ok_of mixed eqsOk ⟨s_circle_pieces n, s_circle_arcs n, s_circle_common n, trivial⟩ trivial trivial) Go.Proofs.Try.func23 (by kernel_rfl) (by kernel_rfl) (d_circle_Meet n) (by kernel_rfl)

/-- (*strings.Builder).Write -/
def h_strings_Builder_Write : Shape := ⟨slotsOf 2 [(0, .c (.box 1000000 0)), (1, .c (.hole (.sl 5)))], [(1000000, 43, [.np, .row 1000000, .hole (.int .i64), .hole (.int .i64)])], [(1000000, 5)]⟩
def o_strings_Builder_Write : List (Ex × Shape) := [(.ret, ⟨slotsOf 2 [(0, .c (.hole (.int .i64))), (1, .c (.ni))], [(1000000, 43, [.box 1000000 0, .row 2000000, .hole (.int .i64), .hole (.int .i64)])], [(2000000, 5)]⟩)]
def strings_Builder_Write (n : Nat) (x0 : (List Int) × Int × Int × List Int) : Option (Int × Int × Int × List Int) :=
  let e0 := x0.1.length
  (strings_Builder_copyCheck n x0.2).bind fun y1 =>
  bif fitB (y1.2.2.length + e0) 1 then
    some (((e0 : Nat) : Int), y1.1, y1.2.1, y1.2.2 ++ x0.1)
  else
  none
def p_strings_Builder_Write : Plan := .leaf
noncomputable def c_strings_Builder_Write (n : Nat) : Cx := ⟨Go.Proofs.Try.prog, Θ, [24, 82], [(37, ⟨h_strings_Builder_copyCheck, o_strings_Builder_copyCheck, strings_Builder_copyCheck n⟩)], [], []⟩
theorem d_strings_Builder_Write (n : Nat) (x : h_strings_Builder_Write.X T) : denF (c_strings_Builder_Write n) n Go.Proofs.Try.f24 p_strings_Builder_Write h_strings_Builder_Write o_strings_Builder_Write x = strings_Builder_Write n x := by kernel_rfl
theorem s_strings_Builder_Write (n : Nat) : PCalls Go.Proofs.Try.prog Θ 24 ⟨h_strings_Builder_Write, o_strings_Builder_Write, strings_Builder_Write n⟩ :=
  func_ok' (C := c_strings_Builder_Write n) (n := n) (p := p_strings_Builder_Write) (ok_of mixed eqsOk ⟨s_strings_Builder_copyCheck n, trivial⟩ trivial trivial) Go.Proofs.Try.func24 (by kernel_rfl) (by kernel_rfl) (d_strings_Builder_Write n) (by kernel_rfl)

/-- (*carrefour/chart.page).row -/
def h_chart_page_row : Shape := ⟨slotsOf 3 [(0, .c (.box 1000000 0)), (1, .agg [.hole (.int .i64), .hole (.int .i64)]), (2, .agg [.hole (.int .i64), .hole (.int .i64)])], [(1000000, 43, [.np, .row 1000000, .hole (.int .i64), .hole (.int .i64)])], [(1000000, 5)]⟩
def o_chart_page_row : List (Ex × Shape) := [(.ret, ⟨slotsOf 0 [], [(1000000, 43, [.box 1000000 0, .row 2000000, .hole (.int .i64), .hole (.int .i64)])], [(2000000, 5)]⟩)]
noncomputable def chart_page_row (n : Nat) (x0 : Int × Int × Int × Int × Int × Int × List Int) : Option (Int × Int × List Int) :=
  bif !(x0.2.2.2.2.2.1 == 0) then
    (strings_Repeat n (ByteArray.mk #[46], wrap64 (Int.tdiv (wrap64 ((wrap64 (x0.2.2.2.2.1 + x0.2.2.2.2.2.1)) - 1)) x0.2.2.2.2.2.1))).bind fun y1 =>
    let e0 := bytesN y1
    let e1 := e0.length
    bif (inB 0 e1) && (fitB e1 1) then
      (circle_Set n (x0.2.2.2.2.1, (x0.1, x0.2.1) :: [])).bind fun y2 =>
      (circle_Set n (x0.2.2.2.2.1, (x0.2.2.1, x0.2.2.2.1) :: [])).bind fun y3 =>
      (chart_page_mark n (y2, 62, x0.2.2.2.2.1, x0.2.2.2.2.2.1, e0, x0.2.2.2.2.2.2)).bind fun y4 =>
      (chart_page_mark n (y3, 60, y4)).bind fun y5 =>
      (circle_Meet n (y5.1, y2, y3)).bind fun y6 =>
      (chart_page_mark n (y6, 35, y5)).bind fun y7 =>
      (strings_Builder_Write n (y7.2.2.1, y7.1, y7.2.1, y7.2.2.2)).bind fun y8 =>
      some y8.2
    else
    none
  else
  none
def p_chart_page_row : Plan := .leaf
noncomputable def c_chart_page_row (n : Nat) : Cx := ⟨Go.Proofs.Try.prog, Θ, [24, 82], [(20, ⟨h_strings_Repeat, o_strings_Repeat, strings_Repeat n⟩), (21, ⟨h_circle_Set, o_circle_Set, circle_Set n⟩), (22, ⟨h_chart_page_mark, o_chart_page_mark, chart_page_mark n⟩), (23, ⟨h_circle_Meet, o_circle_Meet, circle_Meet n⟩), (24, ⟨h_strings_Builder_Write, o_strings_Builder_Write, strings_Builder_Write n⟩)], [], []⟩
theorem d_chart_page_row (n : Nat) (x : h_chart_page_row.X T) : denF (c_chart_page_row n) n Go.Proofs.Try.f14 p_chart_page_row h_chart_page_row o_chart_page_row x = chart_page_row n x := by kernel_rfl
theorem s_chart_page_row (n : Nat) : PCalls Go.Proofs.Try.prog Θ 14 ⟨h_chart_page_row, o_chart_page_row, chart_page_row n⟩ :=
  func_ok' (C := c_chart_page_row n) (n := n) (p := p_chart_page_row) (ok_of mixed eqsOk ⟨s_strings_Repeat n, s_circle_Set n, s_chart_page_mark n, s_circle_Meet n, s_strings_Builder_Write n, trivial⟩ trivial trivial) Go.Proofs.Try.func14 (by kernel_rfl) (by kernel_rfl) (d_chart_page_row n) (by kernel_rfl)

/-- carrefour/chart.Row -/
def h_chart_Row : Shape := ⟨slotsOf 4 [(0, .c (.hole (.int .i64))), (1, .agg [.hole (.int .i64), .hole (.int .i64)]), (2, .agg [.hole (.int .i64), .hole (.int .i64)]), (3, .c (.hole (.int .i64)))], [], []⟩
def o_chart_Row : List (Ex × Shape) := [(.ret, ⟨slotsOf 1 [(0, .c (.hole (.str)))], [], []⟩)]
noncomputable def chart_Row (n : Nat) (x0 : Int × Int × Int × Int × Int × Int) : Option (ByteArray) :=
  (chart_right n (x0.1, x0.2.2.2.2.2)).bind fun y1 =>
  bif !y1 then
    some (ByteArray.mk #[])
  else
  (chart_page_row n (x0.2.1, x0.2.2.1, x0.2.2.2.1, x0.2.2.2.2.1, x0.1, x0.2.2.2.2.2, [])).bind fun y2 =>
  (strings_Builder_String n y2).bind fun y3 =>
  some y3
def p_chart_Row : Plan := .leaf
noncomputable def c_chart_Row (n : Nat) : Cx := ⟨Go.Proofs.Try.prog, Θ, [24, 82], [(15, ⟨h_strings_Builder_String, o_strings_Builder_String, strings_Builder_String n⟩), (13, ⟨h_chart_right, o_chart_right, chart_right n⟩), (14, ⟨h_chart_page_row, o_chart_page_row, chart_page_row n⟩)], [], []⟩
theorem d_chart_Row (n : Nat) (x : h_chart_Row.X T) : denF (c_chart_Row n) n Go.Proofs.Try.f5 p_chart_Row h_chart_Row o_chart_Row x = chart_Row n x := by kernel_rfl
theorem s_chart_Row (n : Nat) : PCalls Go.Proofs.Try.prog Θ 5 ⟨h_chart_Row, o_chart_Row, chart_Row n⟩ :=
  func_ok' (C := c_chart_Row n) (n := n) (p := p_chart_Row) (ok_of mixed eqsOk ⟨s_strings_Builder_String n, s_chart_right n, s_chart_page_row n, trivial⟩ trivial trivial) Go.Proofs.Try.func5 (by kernel_rfl) (by kernel_rfl) (d_chart_Row n) (by kernel_rfl)

/-- carrefour/carrefourref03.Cycle -/
def h_ref03_Cycle : Shape := ⟨slotsOf 1 [(0, .c (.hole (.int .i64)))], [], []⟩
def o_ref03_Cycle : List (Ex × Shape) := [(.ret, ⟨slotsOf 1 [(0, .c (.hole (.bool)))], [], []⟩)]
def ref03_Cycle (n : Nat) (x0 : Int) : Option (Bool) :=
  bif decide (1 ≤ x0) then
    some (decide (x0 ≤ 6000))
  else
  some false
def p_ref03_Cycle : Plan := .leaf
noncomputable def c_ref03_Cycle (n : Nat) : Cx := ⟨Go.Proofs.Try.prog, Θ, [24, 82], [], [], []⟩
theorem d_ref03_Cycle (n : Nat) (x : h_ref03_Cycle.X T) : denF (c_ref03_Cycle n) n Go.Proofs.Try.f10 p_ref03_Cycle h_ref03_Cycle o_ref03_Cycle x = ref03_Cycle n x := by kernel_rfl
theorem s_ref03_Cycle (n : Nat) : PCalls Go.Proofs.Try.prog Θ 10 ⟨h_ref03_Cycle, o_ref03_Cycle, ref03_Cycle n⟩ :=
  func_ok' (C := c_ref03_Cycle n) (n := n) (p := p_ref03_Cycle) (ok_of mixed eqsOk trivial trivial trivial) Go.Proofs.Try.func10 (by kernel_rfl) (by kernel_rfl) (d_ref03_Cycle n) (by kernel_rfl)

/-- carrefour/carrefourref03.Mod -/
def h_ref03_Mod : Shape := ⟨slotsOf 2 [(0, .c (.hole (.int .i64))), (1, .c (.hole (.int .i64)))], [], []⟩
def o_ref03_Mod : List (Ex × Shape) := [(.ret, ⟨slotsOf 1 [(0, .c (.hole (.int .i64)))], [], []⟩)]
def ref03_Mod (n : Nat) (x0 : Int × Int) : Option (Int) :=
  let e0 := Int.tmod x0.1 x0.2
  bif !(x0.2 == 0) then
    bif decide (e0 < 0) then
      some (wrap64 (e0 + x0.2))
    else
    some e0
  else
  none
def p_ref03_Mod : Plan := .leaf
noncomputable def c_ref03_Mod (n : Nat) : Cx := ⟨Go.Proofs.Try.prog, Θ, [24, 82], [], [], []⟩
theorem d_ref03_Mod (n : Nat) (x : h_ref03_Mod.X T) : denF (c_ref03_Mod n) n Go.Proofs.Try.f25 p_ref03_Mod h_ref03_Mod o_ref03_Mod x = ref03_Mod n x := by kernel_rfl
theorem s_ref03_Mod (n : Nat) : PCalls Go.Proofs.Try.prog Θ 25 ⟨h_ref03_Mod, o_ref03_Mod, ref03_Mod n⟩ :=
  func_ok' (C := c_ref03_Mod n) (n := n) (p := p_ref03_Mod) (ok_of mixed eqsOk trivial trivial trivial) Go.Proofs.Try.func25 (by kernel_rfl) (by kernel_rfl) (d_ref03_Mod n) (by kernel_rfl)

/-- carrefour/carrefourref03.In -/
def h_ref03_In : Shape := ⟨slotsOf 3 [(0, .c (.hole (.int .i64))), (1, .agg [.hole (.int .i64), .hole (.int .i64)]), (2, .c (.hole (.int .i64)))], [], []⟩
def o_ref03_In : List (Ex × Shape) := [(.ret, ⟨slotsOf 1 [(0, .c (.hole (.bool)))], [], []⟩)]
def ref03_In (n : Nat) (x0 : Int × Int × Int × Int) : Option (Bool) :=
  letJ (fun (x2 : Int × Int × Bool × Int × Int) =>
    bif x2.2.2.1 then
      some false
    else
    bif decide (x2.1 ≤ x2.2.2.2.2) then
      some true
    else
    (ref03_Mod n (x2.2.1, x2.1)).bind fun y4 =>
    (ref03_Mod n (x2.2.2.2.1, x2.1)).bind fun y5 =>
    (ref03_Mod n (wrap64 (y4 - y5), x2.1)).bind fun y6 =>
    some (decide (y6 < x2.2.2.2.2))) fun J3 =>
  (ref03_Cycle n x0.1).bind fun y1 =>
  bif !y1 then
    J3 (x0.1, x0.2.2.2, true, x0.2.1, x0.2.2.1)
  else
  J3 (x0.1, x0.2.2.2, decide (x0.2.2.1 < 1), x0.2.1, x0.2.2.1)
def p_ref03_In : Plan := .two (.leaf) (.two (.two (.join ⟨slotsOf 34 [(0, .c (.hole (.int .i64))), (2, .c (.hole (.int .i64))), (4, .c (.box 4 0)), (14, .c (.hole (.bool)))], [(4, 24, [.hole (.int .i64), .hole (.int .i64)])], []⟩ (.leaf)) (.leaf)) (.leaf))
noncomputable def c_ref03_In (n : Nat) : Cx := ⟨Go.Proofs.Try.prog, Θ, [24, 82], [(10, ⟨h_ref03_Cycle, o_ref03_Cycle, ref03_Cycle n⟩), (25, ⟨h_ref03_Mod, o_ref03_Mod, ref03_Mod n⟩)], [], []⟩
theorem d_ref03_In (n : Nat) (x : h_ref03_In.X T) : denF (c_ref03_In n) n Go.Proofs.Try.f16 p_ref03_In h_ref03_In o_ref03_In x = ref03_In n x := by kernel_rfl
theorem s_ref03_In (n : Nat) : PCalls Go.Proofs.Try.prog Θ 16 ⟨h_ref03_In, o_ref03_In, ref03_In n⟩ :=
  func_ok' (C := c_ref03_In n) (n := n) (p := p_ref03_In) (ok_of mixed eqsOk ⟨s_ref03_Cycle n, s_ref03_Mod n, trivial⟩ trivial trivial) Go.Proofs.Try.func16 (by kernel_rfl) (by kernel_rfl) (d_ref03_In n) (by kernel_rfl)

/-- carrefour/carrefourref28.Row -/
def h_ref28_Row : Shape := ⟨slotsOf 4 [(0, .c (.hole (.int .i64))), (1, .agg [.hole (.int .i64), .hole (.int .i64)]), (2, .agg [.hole (.int .i64), .hole (.int .i64)]), (3, .c (.hole (.int .i64)))], [], []⟩
def o_ref28_Row : List (Ex × Shape) := [(.ret, ⟨slotsOf 1 [(0, .c (.hole (.str)))], [], []⟩)]
def ref28_Row (n : Nat) (x0 : Int × Int × Int × Int × Int × Int) : Option (ByteArray) :=
  letJ (fun (x2 : Int × Int × Bool × Int × Int × Int × Int) =>
    bif x2.2.2.1 then
      some (ByteArray.mk #[])
    else
    (iterL (Y := (ByteArray)) n (fun (x4 : Int × Int × ByteArray × Int × Int × Int × Int × Int) =>
      bif decide (x4.2.2.2.1 < x4.1) then
        (ref03_In n (x4.1, x4.2.2.2.2.1, x4.2.2.2.2.2.1, x4.2.2.2.1)).bind fun y5 =>
        (ref03_In n (x4.1, x4.2.2.2.2.2.2.1, x4.2.2.2.2.2.2.2, x4.2.2.2.1)).bind fun y6 =>
        letJ (fun (x9 : Int × Int × ByteArray × Int × ByteArray × Int × Int × Int × Int) =>
          bif strFit x9.2.2.1 x9.2.2.2.2.1 then
            some (.inl (x9.1, x9.2.1, x9.2.2.1 ++ x9.2.2.2.2.1, wrap64 (x9.2.2.2.1 + x9.2.1), x9.2.2.2.2.2))
          else
          none) fun J10 =>
        letJ (fun (x7 : Int × Int × ByteArray × Int × Bool × Bool × ByteArray × Bool × Int × Int × Int × Int) =>
          bif x7.2.2.2.2.2.2.2.1 then
            J10 (x7.1, x7.2.1, x7.2.2.1, x7.2.2.2.1, ByteArray.mk #[35], x7.2.2.2.2.2.2.2.2)
          else
          bif x7.2.2.2.2.1 then
            J10 (x7.1, x7.2.1, x7.2.2.1, x7.2.2.2.1, ByteArray.mk #[62], x7.2.2.2.2.2.2.2.2)
          else
          bif x7.2.2.2.2.2.1 then
            J10 (x7.1, x7.2.1, x7.2.2.1, x7.2.2.2.1, ByteArray.mk #[60], x7.2.2.2.2.2.2.2.2)
          else
          J10 (x7.1, x7.2.1, x7.2.2.1, x7.2.2.2.1, x7.2.2.2.2.2.2.1, x7.2.2.2.2.2.2.2.2)) fun J8 =>
        bif y5 then
          J8 (x4.1, x4.2.1, x4.2.2.1, x4.2.2.2.1, y5, y6, ByteArray.mk #[46], y6, x4.2.2.2.2)
        else
        J8 (x4.1, x4.2.1, x4.2.2.1, x4.2.2.2.1, y5, y6, ByteArray.mk #[46], false, x4.2.2.2.2)
      else
      some (.inr x4.2.2.1)) (x2.1, x2.2.1, ByteArray.mk #[], 0, x2.2.2.2)).bind fun (z11 : ByteArray) =>
      some z11) fun J3 =>
  (ref03_Cycle n x0.1).bind fun y1 =>
  bif !y1 then
    J3 (x0.1, x0.2.2.2.2.2, true, x0.2.1, x0.2.2.1, x0.2.2.2.1, x0.2.2.2.2.1)
  else
  bif decide (x0.2.2.2.2.2 < 1) then
    J3 (x0.1, x0.2.2.2.2.2, true, x0.2.1, x0.2.2.1, x0.2.2.2.1, x0.2.2.2.2.1)
  else
  J3 (x0.1, x0.2.2.2.2.2, decide (6000 < x0.2.2.2.2.2), x0.2.1, x0.2.2.1, x0.2.2.2.1, x0.2.2.2.2.1)
def p_ref28_Row : Plan := .two (.leaf) (.two (.two (.join ⟨slotsOf 49 [(0, .c (.hole (.int .i64))), (3, .c (.hole (.int .i64))), (5, .c (.box 5 0)), (6, .c (.box 6 0)), (24, .c (.hole (.bool)))], [(5, 24, [.hole (.int .i64), .hole (.int .i64)]), (6, 24, [.hole (.int .i64), .hole (.int .i64)])], []⟩ (.leaf)) (.leaf)) (.two (.leaf) (.two (.two (.leaf) (.one (.loop ⟨slotsOf 49 [(0, .c (.hole (.int .i64))), (3, .c (.hole (.int .i64))), (5, .c (.box 5 0)), (6, .c (.box 6 0)), (9, .c (.hole (.str))), (10, .c (.hole (.int .i64)))], [(5, 24, [.hole (.int .i64), .hole (.int .i64)]), (6, 24, [.hole (.int .i64), .hole (.int .i64)])], []⟩ [(.exit 0, ⟨slotsOf 49 [(9, .c (.hole (.str)))], [], []⟩)] (.two (.leaf) (.two (.one (.two (.leaf) (.two (.leaf) (.two (.leaf) (.two (.join ⟨slotsOf 49 [(0, .c (.hole (.int .i64))), (3, .c (.hole (.int .i64))), (5, .c (.box 5 0)), (6, .c (.box 6 0)), (9, .c (.hole (.str))), (10, .c (.hole (.int .i64))), (13, .c (.hole (.str)))], [(5, 24, [.hole (.int .i64), .hole (.int .i64)]), (6, 24, [.hole (.int .i64), .hole (.int .i64)])], []⟩ (.two (.join ⟨slotsOf 49 [(0, .c (.hole (.int .i64))), (3, .c (.hole (.int .i64))), (5, .c (.box 5 0)), (6, .c (.box 6 0)), (9, .c (.hole (.str))), (10, .c (.hole (.int .i64))), (11, .c (.hole (.bool))), (12, .c (.hole (.bool))), (13, .c (.hole (.str))), (42, .c (.hole (.bool)))], [(5, 24, [.hole (.int .i64), .hole (.int .i64)]), (6, 24, [.hole (.int .i64), .hole (.int .i64)])], []⟩ (.leaf)) (.leaf))) (.leaf)))))) (.leaf)))))) (.leaf))))
noncomputable def c_ref28_Row (n : Nat) : Cx := ⟨Go.Proofs.Try.prog, Θ, [24, 82], [(10, ⟨h_ref03_Cycle, o_ref03_Cycle, ref03_Cycle n⟩), (16, ⟨h_ref03_In, o_ref03_In, ref03_In n⟩)], [], []⟩
theorem d_ref28_Row (n : Nat) (x : h_ref28_Row.X T) : denF (c_ref28_Row n) n Go.Proofs.Try.f6 p_ref28_Row h_ref28_Row o_ref28_Row x = ref28_Row n x := by kernel_rfl
theorem s_ref28_Row (n : Nat) : PCalls Go.Proofs.Try.prog Θ 6 ⟨h_ref28_Row, o_ref28_Row, ref28_Row n⟩ :=
  func_ok' (C := c_ref28_Row n) (n := n) (p := p_ref28_Row) (ok_of mixed eqsOk ⟨s_ref03_Cycle n, s_ref03_In n, trivial⟩ trivial trivial) Go.Proofs.Try.func6 (by kernel_rfl) (by kernel_rfl) (d_ref28_Row n) (by kernel_rfl)

/-- carrefour/chart.Band -/
def h_chart_Band : Shape := ⟨slotsOf 3 [(0, .c (.hole (.int .i64))), (1, .agg [.hole (.int .i64), .hole (.int .i64)]), (2, .c (.hole (.int .i64)))], [], []⟩
def o_chart_Band : List (Ex × Shape) := [(.ret, ⟨slotsOf 1 [(0, .c (.hole (.str)))], [], []⟩)]
noncomputable def chart_Band (n : Nat) (x0 : Int × Int × Int × Int) : Option (ByteArray) :=
  (chart_Row n (x0.1, x0.2.1, x0.2.2.1, x0.2)).bind fun y1 =>
  some y1
def p_chart_Band : Plan := .leaf
noncomputable def c_chart_Band (n : Nat) : Cx := ⟨Go.Proofs.Try.prog, Θ, [24, 82], [(5, ⟨h_chart_Row, o_chart_Row, chart_Row n⟩)], [], []⟩
theorem d_chart_Band (n : Nat) (x : h_chart_Band.X T) : denF (c_chart_Band n) n Go.Proofs.Try.f7 p_chart_Band h_chart_Band o_chart_Band x = chart_Band n x := by kernel_rfl
theorem s_chart_Band (n : Nat) : PCalls Go.Proofs.Try.prog Θ 7 ⟨h_chart_Band, o_chart_Band, chart_Band n⟩ :=
  func_ok' (C := c_chart_Band n) (n := n) (p := p_chart_Band) (ok_of mixed eqsOk ⟨s_chart_Row n, trivial⟩ trivial trivial) Go.Proofs.Try.func7 (by kernel_rfl) (by kernel_rfl) (d_chart_Band n) (by kernel_rfl)

/-- carrefour/carrefourref28.Band -/
def h_ref28_Band : Shape := ⟨slotsOf 3 [(0, .c (.hole (.int .i64))), (1, .agg [.hole (.int .i64), .hole (.int .i64)]), (2, .c (.hole (.int .i64)))], [], []⟩
def o_ref28_Band : List (Ex × Shape) := [(.ret, ⟨slotsOf 1 [(0, .c (.hole (.str)))], [], []⟩)]
def ref28_Band (n : Nat) (x0 : Int × Int × Int × Int) : Option (ByteArray) :=
  (ref28_Row n (x0.1, x0.2.1, x0.2.2.1, x0.2)).bind fun y1 =>
  some y1
def p_ref28_Band : Plan := .leaf
noncomputable def c_ref28_Band (n : Nat) : Cx := ⟨Go.Proofs.Try.prog, Θ, [24, 82], [(6, ⟨h_ref28_Row, o_ref28_Row, ref28_Row n⟩)], [], []⟩
theorem d_ref28_Band (n : Nat) (x : h_ref28_Band.X T) : denF (c_ref28_Band n) n Go.Proofs.Try.f8 p_ref28_Band h_ref28_Band o_ref28_Band x = ref28_Band n x := by kernel_rfl
theorem s_ref28_Band (n : Nat) : PCalls Go.Proofs.Try.prog Θ 8 ⟨h_ref28_Band, o_ref28_Band, ref28_Band n⟩ :=
  func_ok' (C := c_ref28_Band n) (n := n) (p := p_ref28_Band) (ok_of mixed eqsOk ⟨s_ref28_Row n, trivial⟩ trivial trivial) Go.Proofs.Try.func8 (by kernel_rfl) (by kernel_rfl) (d_ref28_Band n) (by kernel_rfl)

/-- carrefour/chart.Count -/
def h_chart_Count : Shape := ⟨slotsOf 2 [(0, .c (.hole (.str))), (1, .c (.hole (.int .u8)))], [], []⟩
def o_chart_Count : List (Ex × Shape) := [(.ret, ⟨slotsOf 1 [(0, .c (.hole (.int .i64)))], [], []⟩)]
def chart_Count (n : Nat) (x0 : ByteArray × Int) : Option (Int) :=
  (strings_Count n (x0.1, bstr (x0.2 :: []))).bind fun y1 =>
  some y1
def p_chart_Count : Plan := .leaf
noncomputable def c_chart_Count (n : Nat) : Cx := ⟨Go.Proofs.Try.prog, Θ, [24, 82], [(19, ⟨h_strings_Count, o_strings_Count, strings_Count n⟩)], [], []⟩
theorem d_chart_Count (n : Nat) (x : h_chart_Count.X T) : denF (c_chart_Count n) n Go.Proofs.Try.f12 p_chart_Count h_chart_Count o_chart_Count x = chart_Count n x := by kernel_rfl
theorem s_chart_Count (n : Nat) : PCalls Go.Proofs.Try.prog Θ 12 ⟨h_chart_Count, o_chart_Count, chart_Count n⟩ :=
  func_ok' (C := c_chart_Count n) (n := n) (p := p_chart_Count) (ok_of mixed eqsOk ⟨s_strings_Count n, trivial⟩ trivial trivial) Go.Proofs.Try.func12 (by kernel_rfl) (by kernel_rfl) (d_chart_Count n) (by kernel_rfl)

/-- carrefour/carrefourlaw28.awake -/
def h_law28_awake : Shape := ⟨slotsOf 0 [], [], []⟩
def o_law28_awake : List (Ex × Shape) := [(.ret, ⟨slotsOf 1 [(0, .c (.hole (.bool)))], [], []⟩)]
noncomputable def law28_awake (n : Nat) (x0 : Unit) : Option (Bool) :=
  (chart_Row n (8, 0, 4, 2, 4, 1)).bind fun y1 =>
  bif strEq y1 (ByteArray.mk #[62, 62, 35, 35, 60, 60, 46, 46]) then
    (chart_Count n (y1, 35)).bind fun y2 =>
    bif y2 == 2 then
      (chart_Band n (6, 5, 2, 1)).bind fun y3 =>
      some (strEq y3 (ByteArray.mk #[35, 46, 46, 46, 46, 35]))
    else
    some false
  else
  some false
def p_law28_awake : Plan := .leaf
noncomputable def c_law28_awake (n : Nat) : Cx := ⟨Go.Proofs.Try.prog, Θ, [24, 82], [(5, ⟨h_chart_Row, o_chart_Row, chart_Row n⟩), (7, ⟨h_chart_Band, o_chart_Band, chart_Band n⟩), (12, ⟨h_chart_Count, o_chart_Count, chart_Count n⟩)], [], []⟩
theorem d_law28_awake (n : Nat) (x : h_law28_awake.X T) : denF (c_law28_awake n) n Go.Proofs.Try.f9 p_law28_awake h_law28_awake o_law28_awake x = law28_awake n x := by kernel_rfl
theorem s_law28_awake (n : Nat) : PCalls Go.Proofs.Try.prog Θ 9 ⟨h_law28_awake, o_law28_awake, law28_awake n⟩ :=
  func_ok' (C := c_law28_awake n) (n := n) (p := p_law28_awake) (ok_of mixed eqsOk ⟨s_chart_Row n, s_chart_Band n, s_chart_Count n, trivial⟩ trivial trivial) Go.Proofs.Try.func9 (by kernel_rfl) (by kernel_rfl) (d_law28_awake n) (by kernel_rfl)

/-- carrefour/carrefourlaw28.ChartRow -/
def h_law28_ChartRow : Shape := ⟨slotsOf 3 [(0, .agg [.hole (.int .i64), .hole (.int .i64)]), (1, .agg [.hole (.int .i64), .hole (.int .i64), .hole (.int .i64), .hole (.int .i64)]), (2, .agg [.hole (.int .i64), .hole (.int .i64)])], [], []⟩
def o_law28_ChartRow : List (Ex × Shape) := [(.ret, ⟨slotsOf 1 [(0, .c (.hole (.bool)))], [], []⟩)]
noncomputable def law28_ChartRow (n : Nat) (x0 : Int × Int × Int × Int × Int × Int × Int × Int) : Option (Bool) :=
  let e0 := inB 0 2
  let e1 := inB 1 2
  bif e0 then
    bif e1 then
      letJ (fun (x1 : Int × Int × Bool × Int × Int × Int × Int × Int × Int) =>
        bif x1.2.2.1 then
          some true
        else
        bif e0 then
          bif e1 then
            (chart_Row n (x1.1, x1.2.2.2.1, x1.2.2.2.2.1, x1.2.2.2.2.2.1, x1.2.2.2.2.2.2.1, x1.2.1)).bind fun y3 =>
            bif e0 then
              bif e1 then
                (ref28_Row n (x1.1, x1.2.2.2.1, x1.2.2.2.2.1, x1.2.2.2.2.2.1, x1.2.2.2.2.2.2.1, x1.2.1)).bind fun y4 =>
                bif strEq y3 y4 then
                  (chart_Band n (x1.1, x1.2.2.2.2.2.2.2.1, x1.2.2.2.2.2.2.2.2, x1.2.1)).bind fun y5 =>
                  (ref28_Band n (x1.1, x1.2.2.2.2.2.2.2.1, x1.2.2.2.2.2.2.2.2, x1.2.1)).bind fun y6 =>
                  bif strEq y5 y6 then
                    (law28_awake n ()).bind fun y7 =>
                    some y7
                  else
                  some false
                else
                some false
              else
              none
            else
            none
          else
          none
        else
        none) fun J2 =>
      bif decide (500 < x0.1) then
        J2 (x0.1, x0.2.1, decide (x0.1 ≤ 6000), x0.2.2)
      else
      J2 (x0.1, x0.2.1, false, x0.2.2)
    else
    none
  else
  none
def p_law28_ChartRow : Plan := .two (.leaf) (.two (.leaf) (.two (.two (.join ⟨slotsOf 48 [(4, .c (.box 4 0)), (5, .c (.box 5 0)), (7, .c (.hole (.int .i64))), (8, .c (.hole (.int .i64))), (18, .c (.hole (.bool)))], [(4, 25, [.hole (.int .i64), .hole (.int .i64), .hole (.int .i64), .hole (.int .i64)]), (5, 27, [.hole (.int .i64), .hole (.int .i64)])], []⟩ (.leaf)) (.leaf)) (.leaf)))
noncomputable def c_law28_ChartRow (n : Nat) : Cx := ⟨Go.Proofs.Try.prog, Θ, [24, 82], [(5, ⟨h_chart_Row, o_chart_Row, chart_Row n⟩), (6, ⟨h_ref28_Row, o_ref28_Row, ref28_Row n⟩), (7, ⟨h_chart_Band, o_chart_Band, chart_Band n⟩), (8, ⟨h_ref28_Band, o_ref28_Band, ref28_Band n⟩), (9, ⟨h_law28_awake, o_law28_awake, law28_awake n⟩)], [], []⟩
theorem d_law28_ChartRow (n : Nat) (x : h_law28_ChartRow.X T) : denF (c_law28_ChartRow n) n Go.Proofs.Try.f3 p_law28_ChartRow h_law28_ChartRow o_law28_ChartRow x = law28_ChartRow n x := by kernel_rfl
theorem s_law28_ChartRow (n : Nat) : PCalls Go.Proofs.Try.prog Θ 3 ⟨h_law28_ChartRow, o_law28_ChartRow, law28_ChartRow n⟩ :=
  func_ok' (C := c_law28_ChartRow n) (n := n) (p := p_law28_ChartRow) (ok_of mixed eqsOk ⟨s_chart_Row n, s_ref28_Row n, s_chart_Band n, s_ref28_Band n, s_law28_awake n, trivial⟩ trivial trivial) Go.Proofs.Try.func3 (by kernel_rfl) (by kernel_rfl) (d_law28_ChartRow n) (by kernel_rfl)

end Go.Proofs.Ytoafplpdjmiolaa.Fn
