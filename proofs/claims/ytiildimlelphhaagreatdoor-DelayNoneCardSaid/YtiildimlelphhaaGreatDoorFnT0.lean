/- Functions of the program, each as a plain function, and that the machine does what it says. -/
import Derived.Test.YtiildimlelphhaaGreatDoorGiven
namespace Go.Proofs.YtiildimlelphhaaGreatDoor.Fn
set_option linter.unusedVariables false
set_option maxRecDepth 100000
open Go Go.RowKit Go.Den
/-- slices.SortFunc[[]carrefour/circle.piece,carrefour/circle.piece] -/
def h_slices_SortFunc_circle_pieces_1 : Shape := ⟨slotsOf 2 [(0, .c (.row 1000000)), (1, .c (.fn 100 []))], [], [(1000000, 128)]⟩
def o_slices_SortFunc_circle_pieces_1 : List (Ex × Shape) := [(.ret, ⟨slotsOf 0 [], [], [(1000000, 128)]⟩)]
def slices_SortFunc_circle_pieces_1 (n : Nat) (x : List (Int × Int)) : Option (List (Int × Int)) := sortF (0, 0) (fun a b : Int × Int => Go.Lib.compareInt a.1 b.1) x
theorem s_slices_SortFunc_circle_pieces_1 (n : Nat) : PCalls Go.Proofs.Tryz.prog Θ 99 ⟨h_slices_SortFunc_circle_pieces_1, o_slices_SortFunc_circle_pieces_1, slices_SortFunc_circle_pieces_1 n⟩ := sortPc_calls

/-- math/bits.TrailingZeros64 -/
def h_math_bits_TrailingZeros64 : Shape := ⟨slotsOf 1 [(0, .c (.hole (.int .u64)))], [], []⟩
def o_math_bits_TrailingZeros64 : List (Ex × Shape) := [(.ret, ⟨slotsOf 1 [(0, .c (.hole (.int .i64)))], [], []⟩)]
def math_bits_TrailingZeros64 (n : Nat) (x : Int) : Option Int := match n with
  | 0 => ctzF x
  | _ + 1 => ctzF x
theorem math_bits_TrailingZeros64_eq (n : Nat) (x : Int) : math_bits_TrailingZeros64 n x = ctzF x := by cases n <;> rfl
theorem s_math_bits_TrailingZeros64 (n : Nat) : PCalls Go.Proofs.Tryz.prog Θ 117 ⟨h_math_bits_TrailingZeros64, o_math_bits_TrailingZeros64, math_bits_TrailingZeros64 n⟩ := by
  have e : math_bits_TrailingZeros64 n = fun x => ctzF x := funext fun x => math_bits_TrailingZeros64_eq n x
  rw [e]
  exact tz64_calls

/-- carrefour/delay.number -/
def h_delay_number : Shape := ⟨slotsOf 1 [(0, .c (.ni))], [], []⟩
def o_delay_number : List (Ex × Shape) := [(.ret, ⟨slotsOf 1 [(0, .c (.hole (.int .i64)))], [], []⟩)]
def delay_number (n : Nat) (x : Unit) : Option Int := match n with
  | 0 => some 0
  | _ + 1 => some 0
theorem delay_number_eq (n : Nat) (x : Unit) : delay_number n x = some 0 := by cases n <;> rfl
theorem s_delay_number (n : Nat) : PCalls Go.Proofs.Tryz.prog Θ 21 ⟨h_delay_number, o_delay_number, delay_number n⟩ := by
  have e : delay_number n = fun x => some 0 := funext fun x => delay_number_eq n x
  rw [e]
  exact number_calls

/-- (carrefour/frac.wide).minus -/
def h_frac_wide_minus : Shape := ⟨slotsOf 2 [(0, .agg [.hole (.int .u64), .hole (.int .u64)]), (1, .agg [.hole (.int .u64), .hole (.int .u64)])], [], []⟩
def o_frac_wide_minus : List (Ex × Shape) := [(.ret, ⟨slotsOf 1 [(0, .agg [.hole (.int .u64), .hole (.int .u64)])], [], []⟩)]
def frac_wide_minus (n : Nat) (x : Int × Int × Int × Int) : Option (Int × Int) := match n with
  | 0 => minusF x
  | _ + 1 => minusF x
theorem frac_wide_minus_eq (n : Nat) (x : Int × Int × Int × Int) : frac_wide_minus n x = minusF x := by cases n <;> rfl
theorem s_frac_wide_minus (n : Nat) : PCalls Go.Proofs.Tryz.prog Θ 114 ⟨h_frac_wide_minus, o_frac_wide_minus, frac_wide_minus n⟩ := by
  have e : frac_wide_minus n = fun x => minusF x := funext fun x => frac_wide_minus_eq n x
  rw [e]
  exact minus128_calls

/-- carrefour/queue.Right$1 -/
def h_queue_Right_1 : Shape := ⟨slotsOf 1 [(0, .c (.hole (.int .i64)))], [], []⟩
def o_queue_Right_1 : List (Ex × Shape) := [(.ret, ⟨slotsOf 1 [(0, .c (.hole (.bool)))], [], []⟩)]
def queue_Right_1 (n : Nat) (x0 : Int) : Option (Bool) :=
  bif decide (0 ≤ x0) then
    some (decide (x0 ≤ 1000000000))
  else
  some false
def p_queue_Right_1 : Plan := .leaf
noncomputable def c_queue_Right_1 (n : Nat) : Cx := ⟨Go.Proofs.Tryz.prog, Θ, [33, 23, 78, 128, 163], [], [], []⟩
theorem d_queue_Right_1 (n : Nat) (x : h_queue_Right_1.X T) : denF (c_queue_Right_1 n) n Go.Proofs.Tryz.f38 p_queue_Right_1 h_queue_Right_1 o_queue_Right_1 x = queue_Right_1 n x := by kernel_rfl
theorem s_queue_Right_1 (n : Nat) : PCalls Go.Proofs.Tryz.prog Θ 38 ⟨h_queue_Right_1, o_queue_Right_1, queue_Right_1 n⟩ :=
  func_ok' (C := c_queue_Right_1 n) (n := n) (p := p_queue_Right_1) (ok_of mixed eqsOk trivial trivial trivial) Go.Proofs.Tryz.func38 (by kernel_rfl) (by kernel_rfl) (d_queue_Right_1 n) (by kernel_rfl)

/-- carrefour/queue.Right -/
def h_queue_Right : Shape := ⟨slotsOf 1 [(0, .agg [.hole (.int .i64), .hole (.int .i64), .hole (.int .i64), .hole (.int .i64), .hole (.int .i64)])], [], []⟩
def o_queue_Right : List (Ex × Shape) := [(.ret, ⟨slotsOf 1 [(0, .c (.hole (.bool)))], [], []⟩)]
def queue_Right (n : Nat) (x0 : Int × Int × Int × Int × Int) : Option (Bool) :=
  letJ (fun (x3 : Bool) =>
    some x3) fun J4 =>
  bif decide (1 ≤ x0.2.2.2.2) then
    bif decide (x0.2.2.2.2 ≤ 6000) then
      (queue_Right_1 n x0.1).bind fun y1 =>
      bif y1 then
        (queue_Right_1 n x0.2.1).bind fun y2 =>
        J4 y2
      else
      J4 false
    else
    J4 false
  else
  J4 false
def p_queue_Right : Plan := .two (.leaf) (.two (.leaf) (.two (.join ⟨slotsOf 24 [(2, .c (.hole (.bool)))], [], []⟩ (.leaf)) (.leaf)))
noncomputable def c_queue_Right (n : Nat) : Cx := ⟨Go.Proofs.Tryz.prog, Θ, [33, 23, 78, 128, 163], [(38, ⟨h_queue_Right_1, o_queue_Right_1, queue_Right_1 n⟩)], [], []⟩
theorem d_queue_Right (n : Nat) (x : h_queue_Right.X T) : denF (c_queue_Right n) n Go.Proofs.Tryz.f18 p_queue_Right h_queue_Right o_queue_Right x = queue_Right n x := by kernel_rfl
theorem s_queue_Right (n : Nat) : PCalls Go.Proofs.Tryz.prog Θ 18 ⟨h_queue_Right, o_queue_Right, queue_Right n⟩ :=
  func_ok' (C := c_queue_Right n) (n := n) (p := p_queue_Right) (ok_of mixed eqsOk ⟨s_queue_Right_1 n, trivial⟩ trivial trivial) Go.Proofs.Tryz.func18 (by kernel_rfl) (by kernel_rfl) (d_queue_Right n) (by kernel_rfl)

/-- carrefour/circle.cycle -/
def h_circle_cycle : Shape := ⟨slotsOf 1 [(0, .c (.hole (.int .i64)))], [], []⟩
def o_circle_cycle : List (Ex × Shape) := [(.ret, ⟨slotsOf 1 [(0, .c (.hole (.bool)))], [], []⟩)]
def circle_cycle (n : Nat) (x0 : Int) : Option (Bool) :=
  bif decide (1 ≤ x0) then
    some (decide (x0 ≤ 6000))
  else
  some false
def p_circle_cycle : Plan := .leaf
noncomputable def c_circle_cycle (n : Nat) : Cx := ⟨Go.Proofs.Tryz.prog, Θ, [33, 23, 78, 128, 163], [], [], []⟩
theorem d_circle_cycle (n : Nat) (x : h_circle_cycle.X T) : denF (c_circle_cycle n) n Go.Proofs.Tryz.f70 p_circle_cycle h_circle_cycle o_circle_cycle x = circle_cycle n x := by kernel_rfl
theorem s_circle_cycle (n : Nat) : PCalls Go.Proofs.Tryz.prog Θ 70 ⟨h_circle_cycle, o_circle_cycle, circle_cycle n⟩ :=
  func_ok' (C := c_circle_cycle n) (n := n) (p := p_circle_cycle) (ok_of mixed eqsOk trivial trivial trivial) Go.Proofs.Tryz.func70 (by kernel_rfl) (by kernel_rfl) (d_circle_cycle n) (by kernel_rfl)

/-- carrefour/whole.Mod -/
def h_whole_Mod : Shape := ⟨slotsOf 2 [(0, .c (.hole (.int .i64))), (1, .c (.hole (.int .i64)))], [], []⟩
def o_whole_Mod : List (Ex × Shape) := [(.ret, ⟨slotsOf 2 [(0, .c (.hole (.int .i64))), (1, .c (.hole (.int .i64)))], [], []⟩)]
def whole_Mod (n : Nat) (x0 : Int × Int) : Option (Int × Int) :=
  let e0 := Int.tmod x0.1 x0.2
  bif decide (x0.2 < 1) then
    some (0, 1)
  else
  bif !(x0.2 == 0) then
    bif decide (e0 < 0) then
      some (wrap64 (e0 + x0.2), 0)
    else
    some (e0, 0)
  else
  none
def p_whole_Mod : Plan := .leaf
noncomputable def c_whole_Mod (n : Nat) : Cx := ⟨Go.Proofs.Tryz.prog, Θ, [33, 23, 78, 128, 163], [], [], []⟩
theorem d_whole_Mod (n : Nat) (x : h_whole_Mod.X T) : denF (c_whole_Mod n) n Go.Proofs.Tryz.f96 p_whole_Mod h_whole_Mod o_whole_Mod x = whole_Mod n x := by kernel_rfl
theorem s_whole_Mod (n : Nat) : PCalls Go.Proofs.Tryz.prog Θ 96 ⟨h_whole_Mod, o_whole_Mod, whole_Mod n⟩ :=
  func_ok' (C := c_whole_Mod n) (n := n) (p := p_whole_Mod) (ok_of mixed eqsOk trivial trivial trivial) Go.Proofs.Tryz.func96 (by kernel_rfl) (by kernel_rfl) (d_whole_Mod n) (by kernel_rfl)

/-- carrefour/circle.modulo -/
def h_circle_modulo : Shape := ⟨slotsOf 2 [(0, .c (.hole (.int .i64))), (1, .c (.hole (.int .i64)))], [], []⟩
def o_circle_modulo : List (Ex × Shape) := [(.ret, ⟨slotsOf 1 [(0, .c (.hole (.int .i64)))], [], []⟩)]
def circle_modulo (n : Nat) (x0 : Int × Int) : Option (Int) :=
  (whole_Mod n x0).bind fun y1 =>
  some y1.1
def p_circle_modulo : Plan := .leaf
noncomputable def c_circle_modulo (n : Nat) : Cx := ⟨Go.Proofs.Tryz.prog, Θ, [33, 23, 78, 128, 163], [(96, ⟨h_whole_Mod, o_whole_Mod, whole_Mod n⟩)], [], []⟩
theorem d_circle_modulo (n : Nat) (x : h_circle_modulo.X T) : denF (c_circle_modulo n) n Go.Proofs.Tryz.f67 p_circle_modulo h_circle_modulo o_circle_modulo x = circle_modulo n x := by kernel_rfl
theorem s_circle_modulo (n : Nat) : PCalls Go.Proofs.Tryz.prog Θ 67 ⟨h_circle_modulo, o_circle_modulo, circle_modulo n⟩ :=
  func_ok' (C := c_circle_modulo n) (n := n) (p := p_circle_modulo) (ok_of mixed eqsOk ⟨s_whole_Mod n, trivial⟩ trivial trivial) Go.Proofs.Tryz.func67 (by kernel_rfl) (by kernel_rfl) (d_circle_modulo n) (by kernel_rfl)

/-- carrefour/circle.Norm -/
def h_circle_Norm : Shape := ⟨slotsOf 2 [(0, .c (.hole (.int .i64))), (1, .agg [.hole (.int .i64), .hole (.int .i64)])], [], []⟩
def o_circle_Norm : List (Ex × Shape) := [(.ret, ⟨slotsOf 1 [(0, .agg [.hole (.int .i64), .hole (.int .i64)])], [], []⟩)]
def circle_Norm (n : Nat) (x0 : Int × Int × Int) : Option (Int × Int) :=
  letJ (fun (x2 : Int × Bool × Int × Int × Int × Int) =>
    bif x2.2.1 then
      some (0, 0)
    else
    bif decide (x2.1 ≤ x2.2.2.2.1) then
      some (0, x2.1)
    else
    (circle_modulo n (x2.2.2.1, x2.1)).bind fun y4 =>
    some (y4, x2.2.2.2.1)) fun J3 =>
  (circle_cycle n x0.1).bind fun y1 =>
  bif !y1 then
    J3 (x0.1, true, x0.2.1, x0.2.2, 0, 0)
  else
  J3 (x0.1, decide (x0.2.2 < 1), x0.2.1, x0.2.2, 0, 0)
def p_circle_Norm : Plan := .two (.leaf) (.two (.one (.two (.join ⟨slotsOf 29 [(0, .c (.hole (.int .i64))), (3, .c (.box 3 0)), (4, .c (.box 4 0)), (5, .c (.hole (.bool)))], [(3, 23, [.hole (.int .i64), .hole (.int .i64)]), (4, 23, [.hole (.int .i64), .hole (.int .i64)])], []⟩ (.leaf)) (.leaf))) (.leaf))
noncomputable def c_circle_Norm (n : Nat) : Cx := ⟨Go.Proofs.Tryz.prog, Θ, [33, 23, 78, 128, 163], [(70, ⟨h_circle_cycle, o_circle_cycle, circle_cycle n⟩), (67, ⟨h_circle_modulo, o_circle_modulo, circle_modulo n⟩)], [], []⟩
theorem d_circle_Norm (n : Nat) (x : h_circle_Norm.X T) : denF (c_circle_Norm n) n Go.Proofs.Tryz.f66 p_circle_Norm h_circle_Norm o_circle_Norm x = circle_Norm n x := by kernel_rfl
theorem s_circle_Norm (n : Nat) : PCalls Go.Proofs.Tryz.prog Θ 66 ⟨h_circle_Norm, o_circle_Norm, circle_Norm n⟩ :=
  func_ok' (C := c_circle_Norm n) (n := n) (p := p_circle_Norm) (ok_of mixed eqsOk ⟨s_circle_cycle n, s_circle_modulo n, trivial⟩ trivial trivial) Go.Proofs.Tryz.func66 (by kernel_rfl) (by kernel_rfl) (d_circle_Norm n) (by kernel_rfl)

/-- carrefour/circle.In -/
def h_circle_In : Shape := ⟨slotsOf 3 [(0, .c (.hole (.int .i64))), (1, .agg [.hole (.int .i64), .hole (.int .i64)]), (2, .c (.hole (.int .i64)))], [], []⟩
def o_circle_In : List (Ex × Shape) := [(.ret, ⟨slotsOf 1 [(0, .c (.hole (.bool)))], [], []⟩)]
def circle_In (n : Nat) (x0 : Int × Int × Int × Int) : Option (Bool) :=
  (circle_Norm n (x0.1, x0.2.1, x0.2.2.1)).bind fun y1 =>
  bif decide (0 < y1.2) then
    (circle_modulo n (x0.2.2.2, x0.1)).bind fun y2 =>
    (circle_modulo n (wrap64 (y2 - y1.1), x0.1)).bind fun y3 =>
    some (decide (y3 < y1.2))
  else
  some false
def p_circle_In : Plan := .leaf
noncomputable def c_circle_In (n : Nat) : Cx := ⟨Go.Proofs.Tryz.prog, Θ, [33, 23, 78, 128, 163], [(67, ⟨h_circle_modulo, o_circle_modulo, circle_modulo n⟩), (66, ⟨h_circle_Norm, o_circle_Norm, circle_Norm n⟩)], [], []⟩
theorem d_circle_In (n : Nat) (x : h_circle_In.X T) : denF (c_circle_In n) n Go.Proofs.Tryz.f39 p_circle_In h_circle_In o_circle_In x = circle_In n x := by kernel_rfl
theorem s_circle_In (n : Nat) : PCalls Go.Proofs.Tryz.prog Θ 39 ⟨h_circle_In, o_circle_In, circle_In n⟩ :=
  func_ok' (C := c_circle_In n) (n := n) (p := p_circle_In) (ok_of mixed eqsOk ⟨s_circle_modulo n, s_circle_Norm n, trivial⟩ trivial trivial) Go.Proofs.Tryz.func39 (by kernel_rfl) (by kernel_rfl) (d_circle_In n) (by kernel_rfl)

/-- carrefour/circle.cut -/
def h_circle_cut : Shape := ⟨slotsOf 2 [(0, .c (.hole (.int .i64))), (1, .c (.hole (.sl 23)))], [], []⟩
def o_circle_cut : List (Ex × Shape) := [(.ret, ⟨slotsOf 1 [(0, .c (.fn 119 [0, 1]))], [(0, 62, [.hole (.sl 23)]), (1, 2, [.hole (.int .i64)])], []⟩)]
def circle_cut (n : Nat) (x0 : Int × List (Int × Int)) : Option ((List (Int × Int)) × Int) :=
  some (x0.2, x0.1)
def p_circle_cut : Plan := .leaf
noncomputable def c_circle_cut (n : Nat) : Cx := ⟨Go.Proofs.Tryz.prog, Θ, [33, 23, 78, 128, 163], [], [], []⟩
theorem d_circle_cut (n : Nat) (x : h_circle_cut.X T) : denF (c_circle_cut n) n Go.Proofs.Tryz.f98 p_circle_cut h_circle_cut o_circle_cut x = circle_cut n x := by kernel_rfl
theorem s_circle_cut (n : Nat) : PCalls Go.Proofs.Tryz.prog Θ 98 ⟨h_circle_cut, o_circle_cut, circle_cut n⟩ :=
  func_ok' (C := c_circle_cut n) (n := n) (p := p_circle_cut) (ok_of mixed eqsOk trivial trivial trivial) Go.Proofs.Tryz.func98 (by kernel_rfl) (by kernel_rfl) (d_circle_cut n) (by kernel_rfl)

/-- carrefour/circle.pieces_round -/
def h_circle_pieces_round : Shape := ⟨slotsOf 2 [(0, .agg [.hole (.int .i64), .hole (.int .i64)]), (1, .c (.box 1000000 0))], [(1000000, 98, [.row 1000000])], [(1000000, 128)]⟩
def o_circle_pieces_round : List (Ex × Shape) := [(.ret, ⟨slotsOf 1 [(0, .c (.hole (.bool)))], [(1000000, 98, [.row 2000000])], [(2000000, 128)]⟩)]
noncomputable def R_690 : Rng := rng Go.Proofs.Tryz.f69 0 [5]
def yok_690 : Prop := Θ.Y 690 = some R_690
def circle_pieces_round (n : Nat) (x0 : Int × Int × List (Int × Int)) : Option (Bool × List (Int × Int)) :=
  let e0 := (x0.1, x0.2.1) :: []
  bif fitB (x0.2.2.length + e0.length) 16 then
    some (true, x0.2.2 ++ e0)
  else
  none
def p_circle_pieces_round : Plan := .leaf
noncomputable def c_circle_pieces_round (n : Nat) : Cx := ⟨Go.Proofs.Tryz.prog, Θ, [33, 23, 78, 128, 163], [], [], []⟩
theorem d_circle_pieces_round (n : Nat) (x : h_circle_pieces_round.X T) : denY (c_circle_pieces_round n) n R_690 p_circle_pieces_round h_circle_pieces_round o_circle_pieces_round x = circle_pieces_round n x := by kernel_rfl
theorem yokT_690 : yok_690 := by unfold yok_690; kernel_rfl
theorem s_circle_pieces_round (n : Nat) : PYields Go.Proofs.Tryz.prog Θ 690 ⟨h_circle_pieces_round, o_circle_pieces_round, circle_pieces_round n⟩ :=
  yield_ok (C := c_circle_pieces_round n) (n := n) (R := R_690) (p := p_circle_pieces_round) (ok_of mixed eqsOk trivial trivial trivial) yokT_690 (by kernel_rfl) (by kernel_rfl) (by kernel_rfl) (by kernel_rfl) (d_circle_pieces_round n)

/-- carrefour/circle.cut$1 -/
def h_circle_cut_1 : Shape := ⟨slotsOf 3 [(0, .yld 690 [.c (.box 1000000 0)]), (1, .c (.box 1000001 0)), (2, .c (.box 1000002 0))], [(1000000, 98, [.row 1000000]), (1000001, 62, [.hole (.sl 23)]), (1000002, 2, [.hole (.int .i64)])], [(1000000, 128)]⟩
def o_circle_cut_1 : List (Ex × Shape) := [(.ret, ⟨slotsOf 0 [], [(1000000, 98, [.row 2000000]), (1000001, 62, [.hole (.sl 23)]), (1000002, 2, [.hole (.int .i64)])], [(2000000, 128)]⟩)]
def circle_cut_1 (n : Nat) (x0 : (List (Int × Int)) × Int × List (Int × Int)) : Option ((List (Int × Int)) × Int × List (Int × Int)) :=
  (iterL (Y := ((List (Int × Int)) × Int × List (Int × Int)) ⊕ ((List (Int × Int)) × Int × List (Int × Int))) n (fun (x7 : (List (Int × Int)) × Int × Int × (List (Int × Int)) × Int × List (Int × Int)) =>
    bif decide (x7.2.2.1 < x7.2.1) then
      bif inB x7.2.2.1 x7.1.length then
        (circle_Norm n (x7.2.2.2.2.1, atI (0, 0) x7.1 x7.2.2.1)).bind fun y8 =>
        let e0 := wrap64 (y8.1 + y8.2)
        bif y8.2 == 0 then
          some (.inl (x7.1, x7.2.1, wrap64 (x7.2.2.1 + 1), x7.2.2.2))
        else
        letJ (fun (x11 : (List (Int × Int)) × Int × Int × Bool × (List (Int × Int)) × Int × List (Int × Int)) =>
          bif x11.2.2.2.1 then
            some (.inr (.inl x11.2.2.2.2))
          else
          some (.inl (x11.1, x11.2.1, wrap64 (x11.2.2.1 + 1), x11.2.2.2.2))) fun J12 =>
        (circle_pieces_round n (y8.1, mn e0 x7.2.2.2.2.1, x7.2.2.2.2.2)).bind fun y9 =>
        bif !y9.1 then
          J12 (x7.1, x7.2.1, x7.2.2.1, true, x7.2.2.2.1, x7.2.2.2.2.1, y9.2)
        else
        bif decide (x7.2.2.2.2.1 < e0) then
          (circle_pieces_round n (0, wrap64 (e0 - x7.2.2.2.2.1), y9.2)).bind fun y10 =>
          J12 (x7.1, x7.2.1, x7.2.2.1, !y10.1, x7.2.2.2.1, x7.2.2.2.2.1, y10.2)
        else
        J12 (x7.1, x7.2.1, x7.2.2.1, false, x7.2.2.2.1, x7.2.2.2.2.1, y9.2)
      else
      none
    else
    some (.inr (.inr x7.2.2.2))) (x0.1, ((x0.1.length : Nat) : Int), 0, x0)).bind (Sum.elim (fun (z13 : (List (Int × Int)) × Int × List (Int × Int)) =>
    some z13) (fun (z14 : (List (Int × Int)) × Int × List (Int × Int)) =>
    some z14))
def p_circle_cut_1 : Plan := .two (.leaf) (.one (.loop ⟨slotsOf 48 [(0, .yld 690 [.c (.box 1000000 0)]), (2, .c (.box 1000002 0)), (7, .c (.hole (.sl 23))), (8, .c (.hole (.int .i64))), (9, .c (.hole (.int .i64)))], [(1000000, 98, [.row 2000000]), (1000001, 62, [.hole (.sl 23)]), (1000002, 2, [.hole (.int .i64)])], [(2000000, 128)]⟩ [(.ret, ⟨slotsOf 48 [], [(1000000, 98, [.row 2000000]), (1000001, 62, [.hole (.sl 23)]), (1000002, 2, [.hole (.int .i64)])], [(2000000, 128)]⟩), (.exit 0, ⟨slotsOf 48 [], [(1000000, 98, [.row 2000000]), (1000001, 62, [.hole (.sl 23)]), (1000002, 2, [.hole (.int .i64)])], [(2000000, 128)]⟩)] (.two (.leaf) (.two (.leaf) (.two (.one (.two (.leaf) (.two (.leaf) (.two (.leaf) (.two (.leaf) (.two (.join ⟨slotsOf 48 [(0, .yld 690 [.c (.box 1000000 0)]), (2, .c (.box 1000002 0)), (7, .c (.hole (.sl 23))), (8, .c (.hole (.int .i64))), (9, .c (.hole (.int .i64))), (46, .c (.hole (.bool)))], [(1000000, 98, [.row 2000000]), (1000001, 62, [.hole (.sl 23)]), (1000002, 2, [.hole (.int .i64)])], [(2000000, 128)]⟩ (.leaf)) (.leaf))))))) (.leaf))))))
noncomputable def c_circle_cut_1 (n : Nat) : Cx := ⟨Go.Proofs.Tryz.prog, Θ, [33, 23, 78, 128, 163], [(66, ⟨h_circle_Norm, o_circle_Norm, circle_Norm n⟩)], [(690, ⟨h_circle_pieces_round, o_circle_pieces_round, circle_pieces_round n⟩)], []⟩
theorem d_circle_cut_1 (n : Nat) (x : h_circle_cut_1.X T) : denF (c_circle_cut_1 n) n Go.Proofs.Tryz.f119 p_circle_cut_1 h_circle_cut_1 o_circle_cut_1 x = circle_cut_1 n x := by kernel_rfl
theorem s_circle_cut_1 (n : Nat) : PCalls Go.Proofs.Tryz.prog Θ 119 ⟨h_circle_cut_1, o_circle_cut_1, circle_cut_1 n⟩ :=
  func_ok' (C := c_circle_cut_1 n) (n := n) (p := p_circle_cut_1) (ok_of mixed eqsOk ⟨s_circle_Norm n, trivial⟩ ⟨s_circle_pieces_round n, trivial⟩ trivial) Go.Proofs.Tryz.func119 (by kernel_rfl) (by kernel_rfl) (d_circle_cut_1 n) (by kernel_rfl)

/-- carrefour/circle.pieces -/
def h_circle_pieces : Shape := ⟨slotsOf 2 [(0, .c (.hole (.int .i64))), (1, .c (.hole (.sl 23)))], [], []⟩
def o_circle_pieces : List (Ex × Shape) := [(.ret, ⟨slotsOf 1 [(0, .c (.row 0))], [], [(0, 128)]⟩)]
noncomputable def circle_pieces (n : Nat) (x0 : Int × List (Int × Int)) : Option (List (Int × Int)) :=
  (circle_cut n x0).bind fun y1 =>
  ifY yok_690 (
    (circle_cut_1 n (y1.1, y1.2, [])).bind fun y2 =>
    (slices_SortFunc_circle_pieces_1 n y2.2.2).bind fun y3 =>
    (iterL (Y := (List (Int × Int))) n (fun (x5 : Int × Int × (List (Int × Int)) × List (Int × Int)) =>
      bif decide (x5.2.1 < x5.1) then
        bif inB x5.2.1 x5.2.2.2.length then
          letJ (fun (x6 : Int × Int × Int × Bool × Int × Int × (List (Int × Int)) × List (Int × Int)) =>
            bif x6.2.2.2.1 then
              bif inB (wrap64 (x6.1 - 1)) x6.2.2.2.2.2.2.1.length then
                bif inB (wrap64 (x6.1 - 1)) x6.2.2.2.2.2.2.1.length then
                  some (.inl (x6.2.1, wrap64 (x6.2.2.1 + 1), List.set x6.2.2.2.2.2.2.1 (Int.toNat (wrap64 (x6.1 - 1))) ((atI (0, 0) x6.2.2.2.2.2.2.1 (wrap64 (x6.1 - 1))).1, mx (atI (0, 0) x6.2.2.2.2.2.2.1 (wrap64 (x6.1 - 1))).2 x6.2.2.2.2.2.1), x6.2.2.2.2.2.2.2))
                else
                none
              else
              none
            else
              bif fitB (x6.2.2.2.2.2.2.1.length + (List.length ((x6.2.2.2.2.1, x6.2.2.2.2.2.1) :: []))) 16 then
                some (.inl (x6.2.1, wrap64 (x6.2.2.1 + 1), x6.2.2.2.2.2.2.1 ++ ((x6.2.2.2.2.1, x6.2.2.2.2.2.1) :: []), x6.2.2.2.2.2.2.2))
              else
              none) fun J7 =>
          bif decide (0 < ((x5.2.2.1.length : Nat) : Int)) then
            bif inB (wrap64 (((x5.2.2.1.length : Nat) : Int) - 1)) x5.2.2.1.length then
              J7 (((x5.2.2.1.length : Nat) : Int), x5.1, x5.2.1, decide ((atI (0, 0) x5.2.2.2 x5.2.1).1 ≤ (atI (0, 0) x5.2.2.1 (wrap64 (((x5.2.2.1.length : Nat) : Int) - 1))).2), (atI (0, 0) x5.2.2.2 x5.2.1).1, (atI (0, 0) x5.2.2.2 x5.2.1).2, x5.2.2)
            else
            none
          else
          J7 (((x5.2.2.1.length : Nat) : Int), x5.1, x5.2.1, false, (atI (0, 0) x5.2.2.2 x5.2.1).1, (atI (0, 0) x5.2.2.2 x5.2.1).2, x5.2.2)
        else
        none
      else
      some (.inr x5.2.2.1)) (((y3.length : Nat) : Int), 0, [], y3)).bind fun (z8 : List (Int × Int)) =>
      some z8)
def p_circle_pieces : Plan := .two (.leaf) (.two (.leaf) (.two (.two (.leaf) (.one (.range 690 [5]))) (.two (.leaf) (.two (.leaf) (.two (.two (.leaf) (.one (.loop ⟨slotsOf 62 [(7, .c (.row 59)), (21, .c (.row 910500)), (22, .c (.hole (.int .i64))), (23, .c (.hole (.int .i64)))], [], [(59, 128), (910500, 128)]⟩ [(.exit 2, ⟨slotsOf 62 [(7, .c (.row 59))], [], [(59, 128)]⟩)] (.two (.leaf) (.two (.leaf) (.two (.one (.two (.leaf) (.two (.two (.leaf) (.two (.join ⟨slotsOf 62 [(7, .c (.row 59)), (9, .c (.box 9 0)), (10, .c (.hole (.int .i64))), (21, .c (.row 910500)), (22, .c (.hole (.int .i64))), (23, .c (.hole (.int .i64))), (41, .c (.hole (.bool)))], [(9, 128, [.hole (.int .i64), .hole (.int .i64)])], [(59, 128), (910500, 128)]⟩ (.leaf)) (.leaf))) (.leaf)))) (.leaf))))))) (.leaf))))))
noncomputable def c_circle_pieces (n : Nat) : Cx := ⟨Go.Proofs.Tryz.prog, Θ, [33, 23, 78, 128, 163], [(99, ⟨h_slices_SortFunc_circle_pieces_1, o_slices_SortFunc_circle_pieces_1, slices_SortFunc_circle_pieces_1 n⟩), (98, ⟨h_circle_cut, o_circle_cut, circle_cut n⟩), (119, ⟨h_circle_cut_1, o_circle_cut_1, circle_cut_1 n⟩)], [], []⟩
theorem d_circle_pieces (n : Nat) (x : h_circle_pieces.X T) : denF (c_circle_pieces n) n Go.Proofs.Tryz.f69 p_circle_pieces h_circle_pieces o_circle_pieces x = circle_pieces n x := by kernel_rfl
theorem s_circle_pieces (n : Nat) : PCalls Go.Proofs.Tryz.prog Θ 69 ⟨h_circle_pieces, o_circle_pieces, circle_pieces n⟩ :=
  func_ok' (C := c_circle_pieces n) (n := n) (p := p_circle_pieces) (ok_of mixed eqsOk ⟨s_slices_SortFunc_circle_pieces_1 n, s_circle_cut n, s_circle_cut_1 n, trivial⟩ trivial trivial) Go.Proofs.Tryz.func69 (by kernel_rfl) (by kernel_rfl) (d_circle_pieces n) (by kernel_rfl)

/-- slices.Clone[[]carrefour/circle.piece,carrefour/circle.piece] -/
def h_slices_Clone_piece : Shape := ⟨slotsOf 1 [(0, .c (.hole (.sl 128)))], [], []⟩
def o_slices_Clone_piece : List (Ex × Shape) := [(.ret, ⟨slotsOf 1 [(0, .c (.row 0))], [], [(0, 128)]⟩)]
noncomputable def slices_Clone_piece (n : Nat) (x0 : List (Int × Int)) : Option (List (Int × Int)) :=
  let e0 := fitB x0.length 16
  bif List.isEmpty x0 then
    both (
      some []) (
      bif e0 then
        some x0
      else
      none)
  else
    bif e0 then
      some x0
    else
    none
def p_slices_Clone_piece : Plan := .leaf
noncomputable def c_slices_Clone_piece (n : Nat) : Cx := ⟨Go.Proofs.Tryz.prog, Θ, [33, 23, 78, 128, 163], [], [], []⟩
theorem d_slices_Clone_piece (n : Nat) (x : h_slices_Clone_piece.X T) : denF (c_slices_Clone_piece n) n Go.Proofs.Tryz.f97 p_slices_Clone_piece h_slices_Clone_piece o_slices_Clone_piece x = slices_Clone_piece n x := by kernel_rfl
theorem s_slices_Clone_piece (n : Nat) : PCalls Go.Proofs.Tryz.prog Θ 97 ⟨h_slices_Clone_piece, o_slices_Clone_piece, slices_Clone_piece n⟩ :=
  func_ok' (C := c_slices_Clone_piece n) (n := n) (p := p_slices_Clone_piece) (ok_of mixed eqsOk trivial trivial trivial) Go.Proofs.Tryz.func97 (by kernel_rfl) (by kernel_rfl) (d_slices_Clone_piece n) (by kernel_rfl)

/-- carrefour/circle.arcs -/
def h_circle_arcs : Shape := ⟨slotsOf 2 [(0, .c (.hole (.int .i64))), (1, .c (.hole (.sl 128)))], [], []⟩
def o_circle_arcs : List (Ex × Shape) := [(.ret, ⟨slotsOf 1 [(0, .c (.row 0))], [], [(0, 23)]⟩)]
noncomputable def circle_arcs (n : Nat) (x0 : Int × List (Int × Int)) : Option (List (Int × Int)) :=
  let e0 := x0.2.length
  let e1 := ((e0 : Nat) : Int)
  let e2 := wrap64 (e1 - 1)
  bif e1 == 0 then
    some []
  else
  letJ (fun (x4 : List (Int × Int)) =>
    (iterL (Y := (List (Int × Int))) n (fun (x7 : (List (Int × Int)) × Int × Int × List (Int × Int)) =>
      let e3 := atI (0, 0) x7.1 x7.2.2.1
      let e4 := e3.1
      let e5 := (e4, wrap64 (e3.2 - e4)) :: []
      bif decide (x7.2.2.1 < x7.2.1) then
        bif inB x7.2.2.1 x7.1.length then
          bif fitB (x7.2.2.2.length + e5.length) 16 then
            some (.inl (x7.1, x7.2.1, wrap64 (x7.2.2.1 + 1), x7.2.2.2 ++ e5))
          else
          none
        else
        none
      else
      some (.inr x7.2.2.2)) (x4, ((x4.length : Nat) : Int), 0, [])).bind fun (z8 : List (Int × Int)) =>
      some z8) fun J5 =>
  letJ (fun (x1 : Int × (List (Int × Int)) × Int × Bool) =>
    let e6 := x1.2.1.length
    let e7 := ((atI (0, 0) x1.2.1 x1.2.2.1).1, wrap64 (x1.1 + (atI (0, 0) x1.2.1 0).2)) :: []
    bif x1.2.2.2 then
      bif cutOk (some 1) (some x1.2.2.1) e6 then
        (slices_Clone_piece n (cutList (some 1) (some x1.2.2.1) x1.2.1)).bind fun y3 =>
        bif inB x1.2.2.1 e6 then
          bif inB 0 e6 then
            bif fitB (y3.length + e7.length) 16 then
              J5 (y3 ++ e7)
            else
            none
          else
          none
        else
        none
      else
      none
    else
    J5 x1.2.1) fun J2 =>
  bif decide (0 < e2) then
    bif inB 0 e0 then
      bif (atI (0, 0) x0.2 0).1 == 0 then
        bif inB e2 e0 then
          J2 (x0.1, x0.2, e2, (atI (0, 0) x0.2 e2).2 == x0.1)
        else
        none
      else
      J2 (x0.1, x0.2, e2, false)
    else
    none
  else
  J2 (x0.1, x0.2, e2, false)
def p_circle_arcs : Plan := .two (.leaf) (.two (.leaf) (.two (.leaf) (.two (.join ⟨slotsOf 70 [(1, .c (.hole (.sl 128)))], [], []⟩ (.two (.join ⟨slotsOf 70 [(0, .c (.hole (.int .i64))), (1, .c (.hole (.sl 128))), (5, .c (.hole (.int .i64))), (32, .c (.hole (.bool)))], [], []⟩ (.leaf)) (.leaf))) (.two (.leaf) (.two (.two (.leaf) (.one (.loop ⟨slotsOf 70 [(6, .c (.row 67)), (51, .c (.hole (.sl 128))), (52, .c (.hole (.int .i64))), (53, .c (.hole (.int .i64)))], [], [(67, 23)]⟩ [(.exit 0, ⟨slotsOf 70 [(6, .c (.row 67))], [], [(67, 23)]⟩)] (.leaf)))) (.leaf))))))
noncomputable def c_circle_arcs (n : Nat) : Cx := ⟨Go.Proofs.Tryz.prog, Θ, [33, 23, 78, 128, 163], [(97, ⟨h_slices_Clone_piece, o_slices_Clone_piece, slices_Clone_piece n⟩)], [], []⟩
theorem d_circle_arcs (n : Nat) (x : h_circle_arcs.X T) : denF (c_circle_arcs n) n Go.Proofs.Tryz.f68 p_circle_arcs h_circle_arcs o_circle_arcs x = circle_arcs n x := by kernel_rfl
theorem s_circle_arcs (n : Nat) : PCalls Go.Proofs.Tryz.prog Θ 68 ⟨h_circle_arcs, o_circle_arcs, circle_arcs n⟩ :=
  func_ok' (C := c_circle_arcs n) (n := n) (p := p_circle_arcs) (ok_of mixed eqsOk ⟨s_slices_Clone_piece n, trivial⟩ trivial trivial) Go.Proofs.Tryz.func68 (by kernel_rfl) (by kernel_rfl) (d_circle_arcs n) (by kernel_rfl)

/-- carrefour/circle.Set -/
def h_circle_Set : Shape := ⟨slotsOf 2 [(0, .c (.hole (.int .i64))), (1, .c (.hole (.sl 23)))], [], []⟩
def o_circle_Set : List (Ex × Shape) := [(.ret, ⟨slotsOf 1 [(0, .c (.row 0))], [], [(0, 23)]⟩)]
noncomputable def circle_Set (n : Nat) (x0 : Int × List (Int × Int)) : Option (List (Int × Int)) :=
  (circle_pieces n x0).bind fun y1 =>
  (circle_arcs n (x0.1, y1)).bind fun y2 =>
  some y2
def p_circle_Set : Plan := .leaf
noncomputable def c_circle_Set (n : Nat) : Cx := ⟨Go.Proofs.Tryz.prog, Θ, [33, 23, 78, 128, 163], [(69, ⟨h_circle_pieces, o_circle_pieces, circle_pieces n⟩), (68, ⟨h_circle_arcs, o_circle_arcs, circle_arcs n⟩)], [], []⟩
theorem d_circle_Set (n : Nat) (x : h_circle_Set.X T) : denF (c_circle_Set n) n Go.Proofs.Tryz.f40 p_circle_Set h_circle_Set o_circle_Set x = circle_Set n x := by kernel_rfl
theorem s_circle_Set (n : Nat) : PCalls Go.Proofs.Tryz.prog Θ 40 ⟨h_circle_Set, o_circle_Set, circle_Set n⟩ :=
  func_ok' (C := c_circle_Set n) (n := n) (p := p_circle_Set) (ok_of mixed eqsOk ⟨s_circle_pieces n, s_circle_arcs n, trivial⟩ trivial trivial) Go.Proofs.Tryz.func40 (by kernel_rfl) (by kernel_rfl) (d_circle_Set n) (by kernel_rfl)

/-- carrefour/circle.between -/
def h_circle_between : Shape := ⟨slotsOf 2 [(0, .c (.hole (.int .i64))), (1, .c (.hole (.sl 128)))], [], []⟩
def o_circle_between : List (Ex × Shape) := [(.ret, ⟨slotsOf 1 [(0, .c (.row 0))], [], [(0, 128)]⟩)]
def circle_between (n : Nat) (x0 : Int × List (Int × Int)) : Option (List (Int × Int)) :=
  (iterL (Y := (Int × Int × List (Int × Int))) n (fun (x2 : Int × Int × (List (Int × Int)) × Int × Int × List (Int × Int)) =>
    let e0 := atI (0, 0) x2.2.2.1 x2.2.2.2.2.1
    let e1 := e0.1
    let e2 := (x2.2.1, e1) :: []
    let e3 := e0.2
    let e4 := wrap64 (x2.2.2.2.2.1 + 1)
    bif decide (x2.2.2.2.2.1 < x2.2.2.2.1) then
      bif inB x2.2.2.2.2.1 x2.2.2.1.length then
        bif decide (x2.2.1 < e1) then
          bif fitB (x2.2.2.2.2.2.length + e2.length) 16 then
            some (.inl (x2.1, e3, x2.2.2.1, x2.2.2.2.1, e4, x2.2.2.2.2.2 ++ e2))
          else
          none
        else
        some (.inl (x2.1, e3, x2.2.2.1, x2.2.2.2.1, e4, x2.2.2.2.2.2))
      else
      none
    else
    some (.inr (x2.1, x2.2.1, x2.2.2.2.2.2))) (x0.1, 0, x0.2, ((x0.2.length : Nat) : Int), 0, [])).bind fun (z3 : Int × Int × List (Int × Int)) =>
    let e5 := (z3.2.1, z3.1) :: []
    bif decide (z3.2.1 < z3.1) then
      bif fitB (z3.2.2.length + e5.length) 16 then
        some (z3.2.2 ++ e5)
      else
      none
    else
    some z3.2.2
def p_circle_between : Plan := .two (.leaf) (.two (.leaf) (.two (.leaf) (.two (.two (.leaf) (.one (.loop ⟨slotsOf 39 [(0, .c (.hole (.int .i64))), (5, .c (.row 25)), (6, .c (.hole (.int .i64))), (9, .c (.hole (.sl 128))), (10, .c (.hole (.int .i64))), (11, .c (.hole (.int .i64)))], [], [(25, 128)]⟩ [(.exit 0, ⟨slotsOf 39 [(0, .c (.hole (.int .i64))), (5, .c (.row 25)), (6, .c (.hole (.int .i64)))], [], [(25, 128)]⟩)] (.leaf)))) (.leaf))))
noncomputable def c_circle_between (n : Nat) : Cx := ⟨Go.Proofs.Tryz.prog, Θ, [33, 23, 78, 128, 163], [], [], []⟩
theorem d_circle_between (n : Nat) (x : h_circle_between.X T) : denF (c_circle_between n) n Go.Proofs.Tryz.f71 p_circle_between h_circle_between o_circle_between x = circle_between n x := by kernel_rfl
theorem s_circle_between (n : Nat) : PCalls Go.Proofs.Tryz.prog Θ 71 ⟨h_circle_between, o_circle_between, circle_between n⟩ :=
  func_ok' (C := c_circle_between n) (n := n) (p := p_circle_between) (ok_of mixed eqsOk trivial trivial trivial) Go.Proofs.Tryz.func71 (by kernel_rfl) (by kernel_rfl) (d_circle_between n) (by kernel_rfl)

/-- carrefour/circle.Rest -/
def h_circle_Rest : Shape := ⟨slotsOf 2 [(0, .c (.hole (.int .i64))), (1, .c (.hole (.sl 23)))], [], []⟩
def o_circle_Rest : List (Ex × Shape) := [(.ret, ⟨slotsOf 1 [(0, .c (.row 0))], [], [(0, 23)]⟩)]
noncomputable def circle_Rest (n : Nat) (x0 : Int × List (Int × Int)) : Option (List (Int × Int)) :=
  (circle_cycle n x0.1).bind fun y1 =>
  bif !y1 then
    some []
  else
  (circle_pieces n x0).bind fun y2 =>
  (circle_between n (x0.1, y2)).bind fun y3 =>
  (circle_arcs n (x0.1, y3)).bind fun y4 =>
  some y4
def p_circle_Rest : Plan := .leaf
noncomputable def c_circle_Rest (n : Nat) : Cx := ⟨Go.Proofs.Tryz.prog, Θ, [33, 23, 78, 128, 163], [(70, ⟨h_circle_cycle, o_circle_cycle, circle_cycle n⟩), (69, ⟨h_circle_pieces, o_circle_pieces, circle_pieces n⟩), (68, ⟨h_circle_arcs, o_circle_arcs, circle_arcs n⟩), (71, ⟨h_circle_between, o_circle_between, circle_between n⟩)], [], []⟩
theorem d_circle_Rest (n : Nat) (x : h_circle_Rest.X T) : denF (c_circle_Rest n) n Go.Proofs.Tryz.f41 p_circle_Rest h_circle_Rest o_circle_Rest x = circle_Rest n x := by kernel_rfl
theorem s_circle_Rest (n : Nat) : PCalls Go.Proofs.Tryz.prog Θ 41 ⟨h_circle_Rest, o_circle_Rest, circle_Rest n⟩ :=
  func_ok' (C := c_circle_Rest n) (n := n) (p := p_circle_Rest) (ok_of mixed eqsOk ⟨s_circle_cycle n, s_circle_pieces n, s_circle_arcs n, s_circle_between n, trivial⟩ trivial trivial) Go.Proofs.Tryz.func41 (by kernel_rfl) (by kernel_rfl) (d_circle_Rest n) (by kernel_rfl)

/-- carrefour/delay.alike -/
def h_delay_alike : Shape := ⟨slotsOf 2 [(0, .agg [.hole (.int .i64), .hole (.int .i64), .hole (.int .i64), .hole (.int .i64), .hole (.int .i64)]), (1, .c (.hole (.int .i64)))], [], []⟩
def o_delay_alike : List (Ex × Shape) := [(.ret, ⟨slotsOf 2 [(0, .c (.hole (.bool))), (1, .c (.hole (.int .i64)))], [], []⟩)]
noncomputable def delay_alike (n : Nat) (x0 : Int × Int × Int × Int × Int × Int) : Option (Bool × Int) :=
  (circle_In n (x0.2.2.2.2.1, x0.2.2.1, x0.2.2.2.1, x0.2.2.2.2.2)).bind fun y1 =>
  (circle_Set n (x0.2.2.2.2.1, (x0.2.2.1, x0.2.2.2.1) :: [])).bind fun y2 =>
  letJ (fun (x4 : Int × Bool × Int × Int × Int × Int × Int × List (Int × Int)) =>
    (iterL (Y := (Bool × Int) ⊕ (Bool)) n (fun (x6 : Int × Bool × Int × Int × Int × Int × Int × Int × Int × List (Int × Int)) =>
      let e0 := atI (0, 0) x6.2.2.2.2.2.2.2.2.2 x6.2.2.2.1
      let e1 := e0.1
      let e2 := e0.2
      bif decide (x6.2.2.2.1 < x6.2.2.1) then
        bif inB x6.2.2.2.1 x6.2.2.2.2.2.2.2.2.2.length then
          (circle_In n (x6.2.2.2.2.2.2.2.2.1, e1, e2, x6.1)).bind fun y7 =>
          bif !y7 then
            some (.inl (x6.1, x6.2.1, x6.2.2.1, wrap64 (x6.2.2.2.1 + 1), x6.2.2.2.2))
          else
          bif !(x6.2.2.2.2.2.2.2.2.1 == 0) then
            some (.inr (.inl (x6.2.1, mn (wrap64 (e2 - (Int.tmod (wrap64 ((wrap64 (x6.1 - e1)) + x6.2.2.2.2.2.2.2.2.1)) x6.2.2.2.2.2.2.2.2.1))) (wrap64 (x6.2.2.2.2.2.2.2.2.1 - x6.1)))))
          else
          none
        else
        none
      else
      some (.inr (.inr x6.2.1))) (x4.1, x4.2.1, ((x4.2.2.2.2.2.2.2.length : Nat) : Int), 0, x4.2.2)).bind (Sum.elim (fun (z8 : Bool × Int) =>
      some z8) (fun (z9 : Bool) =>
      some (z9, 1)))) fun J5 =>
  bif !y1 then
    (circle_Rest n (x0.2.2.2.2.1, (x0.2.2.1, x0.2.2.2.1) :: [])).bind fun y3 =>
    J5 (x0.2.2.2.2.2, y1, x0.1, x0.2.1, x0.2.2.1, x0.2.2.2.1, x0.2.2.2.2.1, y3)
  else
  J5 (x0.2.2.2.2.2, y1, x0.1, x0.2.1, x0.2.2.1, x0.2.2.2.1, x0.2.2.2.2.1, y2)
def p_delay_alike : Plan := .two (.leaf) (.two (.leaf) (.two (.leaf) (.two (.leaf) (.two (.join ⟨slotsOf 65 [(1, .c (.hole (.int .i64))), (2, .c (.box 2 0)), (7, .c (.hole (.bool))), (8, .c (.row 13000))], [(2, 25, [.hole (.int .i64), .hole (.int .i64), .hole (.int .i64), .hole (.int .i64), .hole (.int .i64)])], [(13000, 23)]⟩ (.leaf)) (.two (.two (.leaf) (.one (.loop ⟨slotsOf 65 [(1, .c (.hole (.int .i64))), (2, .c (.box 2 0)), (7, .c (.hole (.bool))), (31, .c (.row 13000)), (32, .c (.hole (.int .i64))), (33, .c (.hole (.int .i64)))], [(2, 25, [.hole (.int .i64), .hole (.int .i64), .hole (.int .i64), .hole (.int .i64), .hole (.int .i64)])], [(13000, 23)]⟩ [(.ret, ⟨slotsOf 65 [(4, .c (.hole (.bool))), (5, .c (.hole (.int .i64)))], [], []⟩), (.exit 0, ⟨slotsOf 65 [(7, .c (.hole (.bool)))], [], []⟩)] (.leaf)))) (.leaf))))))
noncomputable def c_delay_alike (n : Nat) : Cx := ⟨Go.Proofs.Tryz.prog, Θ, [33, 23, 78, 128, 163], [(39, ⟨h_circle_In, o_circle_In, circle_In n⟩), (40, ⟨h_circle_Set, o_circle_Set, circle_Set n⟩), (41, ⟨h_circle_Rest, o_circle_Rest, circle_Rest n⟩)], [], []⟩
theorem d_delay_alike (n : Nat) (x : h_delay_alike.X T) : denF (c_delay_alike n) n Go.Proofs.Tryz.f19 p_delay_alike h_delay_alike o_delay_alike x = delay_alike n x := by kernel_rfl
theorem s_delay_alike (n : Nat) : PCalls Go.Proofs.Tryz.prog Θ 19 ⟨h_delay_alike, o_delay_alike, delay_alike n⟩ :=
  func_ok' (C := c_delay_alike n) (n := n) (p := p_delay_alike) (ok_of mixed eqsOk ⟨s_circle_In n, s_circle_Set n, s_circle_Rest n, trivial⟩ trivial trivial) Go.Proofs.Tryz.func19 (by kernel_rfl) (by kernel_rfl) (d_delay_alike n) (by kernel_rfl)

/-- carrefour/whole.size -/
def h_whole_size : Shape := ⟨slotsOf 1 [(0, .c (.hole (.int .i64)))], [], []⟩
def o_whole_size : List (Ex × Shape) := [(.ret, ⟨slotsOf 1 [(0, .c (.hole (.int .u64)))], [], []⟩)]
def whole_size (n : Nat) (x0 : Int) : Option (Int) :=
  let e0 := IntKind.wrap .u64 x0
  bif decide (x0 < 0) then
    some (IntKind.wrap .u64 (0 - e0))
  else
  some e0
def p_whole_size : Plan := .leaf
noncomputable def c_whole_size (n : Nat) : Cx := ⟨Go.Proofs.Tryz.prog, Θ, [33, 23, 78, 128, 163], [], [], []⟩
theorem d_whole_size (n : Nat) (x : h_whole_size.X T) : denF (c_whole_size n) n Go.Proofs.Tryz.f87 p_whole_size h_whole_size o_whole_size x = whole_size n x := by kernel_rfl
theorem s_whole_size (n : Nat) : PCalls Go.Proofs.Tryz.prog Θ 87 ⟨h_whole_size, o_whole_size, whole_size n⟩ :=
  func_ok' (C := c_whole_size n) (n := n) (p := p_whole_size) (ok_of mixed eqsOk trivial trivial trivial) Go.Proofs.Tryz.func87 (by kernel_rfl) (by kernel_rfl) (d_whole_size n) (by kernel_rfl)

/-- math/bits.Mul64 -/
def h_math_bits_Mul64 : Shape := ⟨slotsOf 2 [(0, .c (.hole (.int .u64))), (1, .c (.hole (.int .u64)))], [], []⟩
def o_math_bits_Mul64 : List (Ex × Shape) := [(.ret, ⟨slotsOf 2 [(0, .c (.hole (.int .u64))), (1, .c (.hole (.int .u64)))], [], []⟩)]
def math_bits_Mul64 (n : Nat) (x0 : Int × Int) : Option (Int × Int) :=
  let e0 := decide (0 ≤ 32)
  let e1 := shr .u64 x0.1 32
  let e2 := shr .u64 x0.2 32
  let e3 := bits2 .and .u64 x0.2 4294967295
  let e4 := bits2 .and .u64 x0.1 4294967295
  let e5 := IntKind.wrap .u64 ((IntKind.wrap .u64 (e1 * e3)) + (shr .u64 (IntKind.wrap .u64 (e4 * e3)) 32))
  bif e0 then
    bif e0 then
      bif e0 then
        bif e0 then
          bif e0 then
            some (IntKind.wrap .u64 ((IntKind.wrap .u64 ((IntKind.wrap .u64 (e1 * e2)) + (shr .u64 e5 32))) + (shr .u64 (IntKind.wrap .u64 ((bits2 .and .u64 e5 4294967295) + (IntKind.wrap .u64 (e4 * e2)))) 32)), IntKind.wrap .u64 (x0.1 * x0.2))
          else
          none
        else
        none
      else
      none
    else
    none
  else
  none
def p_math_bits_Mul64 : Plan := .leaf
noncomputable def c_math_bits_Mul64 (n : Nat) : Cx := ⟨Go.Proofs.Tryz.prog, Θ, [33, 23, 78, 128, 163], [], [], []⟩
theorem d_math_bits_Mul64 (n : Nat) (x : h_math_bits_Mul64.X T) : denF (c_math_bits_Mul64 n) n Go.Proofs.Tryz.f118 p_math_bits_Mul64 h_math_bits_Mul64 o_math_bits_Mul64 x = math_bits_Mul64 n x := by kernel_rfl
theorem s_math_bits_Mul64 (n : Nat) : PCalls Go.Proofs.Tryz.prog Θ 118 ⟨h_math_bits_Mul64, o_math_bits_Mul64, math_bits_Mul64 n⟩ :=
  func_ok' (C := c_math_bits_Mul64 n) (n := n) (p := p_math_bits_Mul64) (ok_of mixed eqsOk trivial trivial trivial) Go.Proofs.Tryz.func118 (by kernel_rfl) (by kernel_rfl) (d_math_bits_Mul64 n) (by kernel_rfl)

/-- carrefour/whole.product -/
def h_whole_product : Shape := ⟨slotsOf 2 [(0, .c (.hole (.int .i64))), (1, .c (.hole (.int .i64)))], [], []⟩
def o_whole_product : List (Ex × Shape) := [(.ret, ⟨slotsOf 1 [(0, .agg [.hole (.int .u64), .hole (.int .u64)])], [], []⟩)]
def whole_product (n : Nat) (x0 : Int × Int) : Option (Int × Int) :=
  (whole_size n x0.1).bind fun y1 =>
  (whole_size n x0.2).bind fun y2 =>
  (math_bits_Mul64 n (y1, y2)).bind fun y3 =>
  some y3
def p_whole_product : Plan := .leaf
noncomputable def c_whole_product (n : Nat) : Cx := ⟨Go.Proofs.Tryz.prog, Θ, [33, 23, 78, 128, 163], [(87, ⟨h_whole_size, o_whole_size, whole_size n⟩), (118, ⟨h_math_bits_Mul64, o_math_bits_Mul64, math_bits_Mul64 n⟩)], [], []⟩
theorem d_whole_product (n : Nat) (x : h_whole_product.X T) : denF (c_whole_product n) n Go.Proofs.Tryz.f123 p_whole_product h_whole_product o_whole_product x = whole_product n x := by kernel_rfl
theorem s_whole_product (n : Nat) : PCalls Go.Proofs.Tryz.prog Θ 123 ⟨h_whole_product, o_whole_product, whole_product n⟩ :=
  func_ok' (C := c_whole_product n) (n := n) (p := p_whole_product) (ok_of mixed eqsOk ⟨s_whole_size n, s_math_bits_Mul64 n, trivial⟩ trivial trivial) Go.Proofs.Tryz.func123 (by kernel_rfl) (by kernel_rfl) (d_whole_product n) (by kernel_rfl)

/-- carrefour/whole.sign -/
def h_whole_sign : Shape := ⟨slotsOf 2 [(0, .c (.hole (.int .i64))), (1, .c (.hole (.int .i64)))], [], []⟩
def o_whole_sign : List (Ex × Shape) := [(.ret, ⟨slotsOf 1 [(0, .c (.hole (.int .i64)))], [], []⟩)]
def whole_sign (n : Nat) (x0 : Int × Int) : Option (Int) :=
  letJ (fun (x1 : Int × Int × Bool) =>
    bif x1.2.2 then
      some 0
    else
    bif !((decide (x1.1 < 0)) == (decide (x1.2.1 < 0))) then
      some (-1)
    else
    some 1) fun J2 =>
  bif x0.1 == 0 then
    J2 (x0.1, x0.2, true)
  else
  J2 (x0.1, x0.2, x0.2 == 0)
def p_whole_sign : Plan := .two (.leaf) (.two (.one (.two (.join ⟨slotsOf 18 [(0, .c (.hole (.int .i64))), (1, .c (.hole (.int .i64))), (5, .c (.hole (.bool)))], [], []⟩ (.leaf)) (.leaf))) (.leaf))
noncomputable def c_whole_sign (n : Nat) : Cx := ⟨Go.Proofs.Tryz.prog, Θ, [33, 23, 78, 128, 163], [], [], []⟩
theorem d_whole_sign (n : Nat) (x : h_whole_sign.X T) : denF (c_whole_sign n) n Go.Proofs.Tryz.f124 p_whole_sign h_whole_sign o_whole_sign x = whole_sign n x := by kernel_rfl
theorem s_whole_sign (n : Nat) : PCalls Go.Proofs.Tryz.prog Θ 124 ⟨h_whole_sign, o_whole_sign, whole_sign n⟩ :=
  func_ok' (C := c_whole_sign n) (n := n) (p := p_whole_sign) (ok_of mixed eqsOk trivial trivial trivial) Go.Proofs.Tryz.func124 (by kernel_rfl) (by kernel_rfl) (d_whole_sign n) (by kernel_rfl)

/-- carrefour/whole.signed -/
def h_whole_signed : Shape := ⟨slotsOf 2 [(0, .c (.hole (.int .u64))), (1, .c (.hole (.int .i64)))], [], []⟩
def o_whole_signed : List (Ex × Shape) := [(.ret, ⟨slotsOf 2 [(0, .c (.hole (.int .i64))), (1, .c (.hole (.int .i64)))], [], []⟩)]
def whole_signed (n : Nat) (x0 : Int × Int) : Option (Int × Int) :=
  letJ (fun (x1 : Int × Bool) =>
    bif x1.2 then
      some (wrap64 (IntKind.wrap .u64 (0 - x1.1)), 0)
    else
    bif decide (x1.1 ≤ 9223372036854775807) then
      some (wrap64 x1.1, 0)
    else
    some (0, 2)) fun J2 =>
  bif decide (x0.2 < 0) then
    J2 (x0.1, decide (x0.1 ≤ 9223372036854775808))
  else
  J2 (x0.1, false)
def p_whole_signed : Plan := .two (.leaf) (.two (.one (.two (.join ⟨slotsOf 21 [(0, .c (.hole (.int .u64))), (6, .c (.hole (.bool)))], [], []⟩ (.leaf)) (.leaf))) (.leaf))
noncomputable def c_whole_signed (n : Nat) : Cx := ⟨Go.Proofs.Tryz.prog, Θ, [33, 23, 78, 128, 163], [], [], []⟩
theorem d_whole_signed (n : Nat) (x : h_whole_signed.X T) : denF (c_whole_signed n) n Go.Proofs.Tryz.f85 p_whole_signed h_whole_signed o_whole_signed x = whole_signed n x := by kernel_rfl
theorem s_whole_signed (n : Nat) : PCalls Go.Proofs.Tryz.prog Θ 85 ⟨h_whole_signed, o_whole_signed, whole_signed n⟩ :=
  func_ok' (C := c_whole_signed n) (n := n) (p := p_whole_signed) (ok_of mixed eqsOk trivial trivial trivial) Go.Proofs.Tryz.func85 (by kernel_rfl) (by kernel_rfl) (d_whole_signed n) (by kernel_rfl)

/-- carrefour/whole.Mul -/
def h_whole_Mul : Shape := ⟨slotsOf 2 [(0, .c (.hole (.int .i64))), (1, .c (.hole (.int .i64)))], [], []⟩
def o_whole_Mul : List (Ex × Shape) := [(.ret, ⟨slotsOf 2 [(0, .c (.hole (.int .i64))), (1, .c (.hole (.int .i64)))], [], []⟩)]
def whole_Mul (n : Nat) (x0 : Int × Int) : Option (Int × Int) :=
  (whole_product n x0).bind fun y1 =>
  bif !(y1.1 == 0) then
    some (0, 2)
  else
  (whole_sign n x0).bind fun y2 =>
  (whole_signed n (y1.2, y2)).bind fun y3 =>
  some y3
def p_whole_Mul : Plan := .leaf
noncomputable def c_whole_Mul (n : Nat) : Cx := ⟨Go.Proofs.Tryz.prog, Θ, [33, 23, 78, 128, 163], [(123, ⟨h_whole_product, o_whole_product, whole_product n⟩), (124, ⟨h_whole_sign, o_whole_sign, whole_sign n⟩), (85, ⟨h_whole_signed, o_whole_signed, whole_signed n⟩)], [], []⟩
theorem d_whole_Mul (n : Nat) (x : h_whole_Mul.X T) : denF (c_whole_Mul n) n Go.Proofs.Tryz.f102 p_whole_Mul h_whole_Mul o_whole_Mul x = whole_Mul n x := by kernel_rfl
theorem s_whole_Mul (n : Nat) : PCalls Go.Proofs.Tryz.prog Θ 102 ⟨h_whole_Mul, o_whole_Mul, whole_Mul n⟩ :=
  func_ok' (C := c_whole_Mul n) (n := n) (p := p_whole_Mul) (ok_of mixed eqsOk ⟨s_whole_product n, s_whole_sign n, s_whole_signed n, trivial⟩ trivial trivial) Go.Proofs.Tryz.func102 (by kernel_rfl) (by kernel_rfl) (d_whole_Mul n) (by kernel_rfl)

/-- carrefour/whole.Add -/
def h_whole_Add : Shape := ⟨slotsOf 2 [(0, .c (.hole (.int .i64))), (1, .c (.hole (.int .i64)))], [], []⟩
def o_whole_Add : List (Ex × Shape) := [(.ret, ⟨slotsOf 2 [(0, .c (.hole (.int .i64))), (1, .c (.hole (.int .i64)))], [], []⟩)]
def whole_Add (n : Nat) (x0 : Int × Int) : Option (Int × Int) :=
  let e0 := wrap64 (x0.1 + x0.2)
  bif !((decide (e0 < x0.1)) == (decide (x0.2 < 0))) then
    some (0, 2)
  else
  some (e0, 0)
def p_whole_Add : Plan := .leaf
noncomputable def c_whole_Add (n : Nat) : Cx := ⟨Go.Proofs.Tryz.prog, Θ, [33, 23, 78, 128, 163], [], [], []⟩
theorem d_whole_Add (n : Nat) (x : h_whole_Add.X T) : denF (c_whole_Add n) n Go.Proofs.Tryz.f103 p_whole_Add h_whole_Add o_whole_Add x = whole_Add n x := by kernel_rfl
theorem s_whole_Add (n : Nat) : PCalls Go.Proofs.Tryz.prog Θ 103 ⟨h_whole_Add, o_whole_Add, whole_Add n⟩ :=
  func_ok' (C := c_whole_Add n) (n := n) (p := p_whole_Add) (ok_of mixed eqsOk trivial trivial trivial) Go.Proofs.Tryz.func103 (by kernel_rfl) (by kernel_rfl) (d_whole_Add n) (by kernel_rfl)

/-- (*carrefour/delay.sum).add -/
def h_delay_sum_add : Shape := ⟨slotsOf 3 [(0, .c (.box 1000000 0)), (1, .c (.hole (.int .i64))), (2, .c (.hole (.int .i64)))], [(1000000, 47, [.hole (.int .i64), .ni])], []⟩
def o_delay_sum_add : List (Ex × Shape) := [(.ret, ⟨slotsOf 0 [], [(1000000, 47, [.hole (.int .i64), .ni])], []⟩)]
def delay_sum_add (n : Nat) (x0 : Int × Int × Int) : Option (Int) :=
  (whole_Mul n (x0.1, x0.2.1)).bind fun y1 =>
  letJ (fun (x3 : Int × Int × Int) =>
    bif !(x3.2.1 == 0) then
      none
    else
    some x3.1) fun J4 =>
  bif y1.2 == 0 then
    (whole_Add n (x0.2.2, y1.1)).bind fun y2 =>
    J4 (y2.1, y2.2, x0.2.2)
  else
  J4 (y1.1, y1.2, x0.2.2)
def p_delay_sum_add : Plan := .two (.leaf) (.two (.leaf) (.two (.join ⟨slotsOf 43 [(0, .c (.box 1000000 0)), (6, .c (.hole (.int .i64))), (7, .c (.hole (.int .i64)))], [(1000000, 47, [.hole (.int .i64), .ni])], []⟩ (.leaf)) (.leaf)))
noncomputable def c_delay_sum_add (n : Nat) : Cx := ⟨Go.Proofs.Tryz.prog, Θ, [33, 23, 78, 128, 163], [(102, ⟨h_whole_Mul, o_whole_Mul, whole_Mul n⟩), (103, ⟨h_whole_Add, o_whole_Add, whole_Add n⟩)], [], []⟩
theorem d_delay_sum_add (n : Nat) (x : h_delay_sum_add.X T) : denF (c_delay_sum_add n) n Go.Proofs.Tryz.f72 p_delay_sum_add h_delay_sum_add o_delay_sum_add x = delay_sum_add n x := by kernel_rfl
theorem s_delay_sum_add (n : Nat) : PCalls Go.Proofs.Tryz.prog Θ 72 ⟨h_delay_sum_add, o_delay_sum_add, delay_sum_add n⟩ :=
  func_ok' (C := c_delay_sum_add n) (n := n) (p := p_delay_sum_add) (ok_of mixed eqsOk ⟨s_whole_Mul n, s_whole_Add n, trivial⟩ trivial trivial) Go.Proofs.Tryz.func72 (by kernel_rfl) (by kernel_rfl) (d_delay_sum_add n) (by kernel_rfl)

/-- (*carrefour/delay.sum).line -/
def h_delay_sum_line : Shape := ⟨slotsOf 4 [(0, .c (.box 1000000 0)), (1, .c (.hole (.int .i64))), (2, .c (.hole (.int .i64))), (3, .c (.hole (.int .i64)))], [(1000000, 47, [.hole (.int .i64), .ni])], []⟩
def o_delay_sum_line : List (Ex × Shape) := [(.ret, ⟨slotsOf 0 [], [(1000000, 47, [.hole (.int .i64), .ni])], []⟩)]
def delay_sum_line (n : Nat) (x0 : Int × Int × Int × Int) : Option (Int) :=
  let e0 := wrap64 (x0.1 + x0.2.1)
  bif !(2 == 0) then
    bif (Int.tmod x0.2.2.1 2) == 0 then
      bif !(2 == 0) then
        (delay_sum_add n (e0, wrap64 (Int.tdiv x0.2.2.1 2), x0.2.2.2)).bind fun y1 =>
        some y1
      else
      none
    else
      bif !(2 == 0) then
        (delay_sum_add n (wrap64 (Int.tdiv e0 2), x0.2.2)).bind fun y2 =>
        some y2
      else
      none
  else
  none
def p_delay_sum_line : Plan := .leaf
noncomputable def c_delay_sum_line (n : Nat) : Cx := ⟨Go.Proofs.Tryz.prog, Θ, [33, 23, 78, 128, 163], [(72, ⟨h_delay_sum_add, o_delay_sum_add, delay_sum_add n⟩)], [], []⟩
theorem d_delay_sum_line (n : Nat) (x : h_delay_sum_line.X T) : denF (c_delay_sum_line n) n Go.Proofs.Tryz.f42 p_delay_sum_line h_delay_sum_line o_delay_sum_line x = delay_sum_line n x := by kernel_rfl
theorem s_delay_sum_line (n : Nat) : PCalls Go.Proofs.Tryz.prog Θ 42 ⟨h_delay_sum_line, o_delay_sum_line, delay_sum_line n⟩ :=
  func_ok' (C := c_delay_sum_line n) (n := n) (p := p_delay_sum_line) (ok_of mixed eqsOk ⟨s_delay_sum_add n, trivial⟩ trivial trivial) Go.Proofs.Tryz.func42 (by kernel_rfl) (by kernel_rfl) (d_delay_sum_line n) (by kernel_rfl)

/-- (*carrefour/delay.sum).stretch -/
def h_delay_sum_stretch : Shape := ⟨slotsOf 4 [(0, .c (.box 1000000 0)), (1, .c (.hole (.int .i64))), (2, .c (.hole (.int .i64))), (3, .c (.hole (.int .i64)))], [(1000000, 47, [.hole (.int .i64), .ni])], []⟩
def o_delay_sum_stretch : List (Ex × Shape) := [(.ret, ⟨slotsOf 1 [(0, .c (.hole (.int .i64)))], [(1000000, 47, [.hole (.int .i64), .ni])], []⟩)]
def delay_sum_stretch (n : Nat) (x0 : Int × Int × Int × Int) : Option (Int × Int) :=
  letJ (fun (x1 : Int × Int × Int × Bool × Int) =>
    let e0 := wrap64 (0 - x1.2.1)
    let e1 := wrap64 (x1.1 + x1.2.1)
    let e2 := wrap64 (Int.tdiv x1.1 e0)
    let e3 := wrap64 (x1.1 + (wrap64 (x1.2.1 * x1.2.2.1)))
    bif x1.2.2.2.1 then
      bif !(e0 == 0) then
        (delay_sum_line n (e1, wrap64 (x1.1 + (wrap64 (x1.2.1 * e2))), e2, x1.2.2.2.2)).bind fun y3 =>
        some (0, y3)
      else
      none
    else
      (delay_sum_line n (e1, e3, x1.2.2.1, x1.2.2.2.2)).bind fun y4 =>
      some (e3, y4)) fun J2 =>
  bif decide (x0.2.1 < 0) then
    J2 (x0.1, x0.2.1, x0.2.2.1, decide (wrap64 (x0.1 + (wrap64 (x0.2.1 * x0.2.2.1))) < 0), x0.2.2.2)
  else
  J2 (x0.1, x0.2.1, x0.2.2.1, false, x0.2.2.2)
def p_delay_sum_stretch : Plan := .two (.leaf) (.two (.two (.join ⟨slotsOf 50 [(0, .c (.box 1000000 0)), (1, .c (.hole (.int .i64))), (2, .c (.hole (.int .i64))), (3, .c (.hole (.int .i64))), (18, .c (.hole (.bool)))], [(1000000, 47, [.hole (.int .i64), .ni])], []⟩ (.leaf)) (.leaf)) (.leaf))
noncomputable def c_delay_sum_stretch (n : Nat) : Cx := ⟨Go.Proofs.Tryz.prog, Θ, [33, 23, 78, 128, 163], [(42, ⟨h_delay_sum_line, o_delay_sum_line, delay_sum_line n⟩)], [], []⟩
theorem d_delay_sum_stretch (n : Nat) (x : h_delay_sum_stretch.X T) : denF (c_delay_sum_stretch n) n Go.Proofs.Tryz.f20 p_delay_sum_stretch h_delay_sum_stretch o_delay_sum_stretch x = delay_sum_stretch n x := by kernel_rfl
theorem s_delay_sum_stretch (n : Nat) : PCalls Go.Proofs.Tryz.prog Θ 20 ⟨h_delay_sum_stretch, o_delay_sum_stretch, delay_sum_stretch n⟩ :=
  func_ok' (C := c_delay_sum_stretch n) (n := n) (p := p_delay_sum_stretch) (ok_of mixed eqsOk ⟨s_delay_sum_line n, trivial⟩ trivial trivial) Go.Proofs.Tryz.func20 (by kernel_rfl) (by kernel_rfl) (d_delay_sum_stretch n) (by kernel_rfl)

/-- carrefour/delay.Total -/
def h_delay_Total : Shape := ⟨slotsOf 4 [(0, .agg [.hole (.int .i64), .hole (.int .i64), .hole (.int .i64), .hole (.int .i64), .hole (.int .i64)]), (1, .c (.hole (.int .i64))), (2, .c (.hole (.int .i64))), (3, .c (.hole (.int .i64)))], [], []⟩
def o_delay_Total : List (Ex × Shape) := [(.ret, ⟨slotsOf 2 [(0, .c (.hole (.int .i64))), (1, .c (.hole (.int .i64)))], [], []⟩)]
noncomputable def delay_Total (n : Nat) (x0 : Int × Int × Int × Int × Int × Int × Int × Int) : Option (Int × Int) :=
  letJ (fun (x2 : Int × Int × Int × Bool × Int × Int × Int × Int × Int) =>
    bif x2.2.2.2.1 then
      some (0, 1)
    else
    bif !(x2.2.2.2.2.2.2.2.2 == 0) then
      (iterL (Y := (Int)) n (fun (x4 : Int × Int × Int × Int × Int × Int × Int × Int × Int) =>
        bif decide (0 < x4.2.2.1) then
          (delay_alike n (x4.2.2.2.1, x4.2.2.2.2.1, x4.2.2.2.2.2.1, x4.2.2.2.2.2.2.1, x4.2.2.2.2.2.2.2.1, x4.2.1)).bind fun y5 =>
          let e0 := mn y5.2 x4.2.2.1
          letJ (fun (x6 : Int × Int × Int × Int × Int × Int × Int × Int × Int × Int × Int) =>
            (delay_sum_stretch n (x6.1, x6.2.2.2.2.1, x6.2.2.2.1, x6.2.2.2.2.2.2.2.2.2.2)).bind fun y8 =>
            bif !(x6.2.2.2.2.2.2.2.2.2.1 == 0) then
              some (.inl (y8.1, Int.tmod (wrap64 (x6.2.1 + x6.2.2.2.1)) x6.2.2.2.2.2.2.2.2.2.1, wrap64 (x6.2.2.1 - x6.2.2.2.1), x6.2.2.2.2.2.1, x6.2.2.2.2.2.2.1, x6.2.2.2.2.2.2.2.1, x6.2.2.2.2.2.2.2.2.1, x6.2.2.2.2.2.2.2.2.2.1, y8.2))
            else
            none) fun J7 =>
          bif y5.1 then
            J7 (x4.1, x4.2.1, x4.2.2.1, e0, wrap64 (x4.2.2.2.1 - x4.2.2.2.2.1), x4.2.2.2)
          else
          J7 (x4.1, x4.2.1, x4.2.2.1, e0, x4.2.2.2.1, x4.2.2.2)
        else
        some (.inr x4.2.2.2.2.2.2.2.2)) (x2.1, Int.tmod x2.2.1 x2.2.2.2.2.2.2.2.2, x2.2.2.1, x2.2.2.2.2.1, x2.2.2.2.2.2.1, x2.2.2.2.2.2.2.1, x2.2.2.2.2.2.2.2.1, x2.2.2.2.2.2.2.2.2, 0)).bind fun (z9 : Int) =>
        (delay_number n ()).bind fun y10 =>
        bif !(y10 == 0) then
          some (0, y10)
        else
        some (z9, 0)
    else
    none) fun J3 =>
  (queue_Right n (x0.1, x0.2.1, x0.2.2.1, x0.2.2.2.1, x0.2.2.2.2.1)).bind fun y1 =>
  bif !y1 then
    J3 (x0.2.2.2.2.2.1, x0.2.2.2.2.2.2.1, x0.2.2.2.2.2.2.2, true, x0.1, x0.2.1, x0.2.2.1, x0.2.2.2.1, x0.2.2.2.2.1)
  else
  bif decide (x0.2.2.2.2.2.1 < 0) then
    J3 (x0.2.2.2.2.2.1, x0.2.2.2.2.2.2.1, x0.2.2.2.2.2.2.2, true, x0.1, x0.2.1, x0.2.2.1, x0.2.2.2.1, x0.2.2.2.2.1)
  else
  bif decide (1099511627776 < x0.2.2.2.2.2.1) then
    J3 (x0.2.2.2.2.2.1, x0.2.2.2.2.2.2.1, x0.2.2.2.2.2.2.2, true, x0.1, x0.2.1, x0.2.2.1, x0.2.2.2.1, x0.2.2.2.2.1)
  else
  bif decide (x0.2.2.2.2.2.2.1 < 0) then
    J3 (x0.2.2.2.2.2.1, x0.2.2.2.2.2.2.1, x0.2.2.2.2.2.2.2, true, x0.1, x0.2.1, x0.2.2.1, x0.2.2.2.1, x0.2.2.2.2.1)
  else
  bif decide (1099511627776 < x0.2.2.2.2.2.2.1) then
    J3 (x0.2.2.2.2.2.1, x0.2.2.2.2.2.2.1, x0.2.2.2.2.2.2.2, true, x0.1, x0.2.1, x0.2.2.1, x0.2.2.2.1, x0.2.2.2.2.1)
  else
  bif decide (x0.2.2.2.2.2.2.2 < 0) then
    J3 (x0.2.2.2.2.2.1, x0.2.2.2.2.2.2.1, x0.2.2.2.2.2.2.2, true, x0.1, x0.2.1, x0.2.2.1, x0.2.2.2.1, x0.2.2.2.2.1)
  else
  J3 (x0.2.2.2.2.2.1, x0.2.2.2.2.2.2.1, x0.2.2.2.2.2.2.2, decide (1048576 < x0.2.2.2.2.2.2.2), x0.1, x0.2.1, x0.2.2.1, x0.2.2.2.1, x0.2.2.2.2.1)
def p_delay_Total : Plan := .two (.leaf) (.two (.two (.join ⟨slotsOf 92 [(1, .c (.hole (.int .i64))), (2, .c (.hole (.int .i64))), (3, .c (.hole (.int .i64))), (4, .c (.box 4 0)), (41, .c (.hole (.bool)))], [(4, 25, [.hole (.int .i64), .hole (.int .i64), .hole (.int .i64), .hole (.int .i64), .hole (.int .i64)])], []⟩ (.leaf)) (.leaf)) (.two (.leaf) (.two (.two (.leaf) (.one (.loop ⟨slotsOf 92 [(1, .c (.hole (.int .i64))), (2, .c (.hole (.int .i64))), (3, .c (.hole (.int .i64))), (4, .c (.box 4 0)), (10, .c (.box 43 0))], [(4, 25, [.hole (.int .i64), .hole (.int .i64), .hole (.int .i64), .hole (.int .i64), .hole (.int .i64)]), (43, 47, [.hole (.int .i64), .ni])], []⟩ [(.exit 0, ⟨slotsOf 92 [(10, .c (.box 43 0))], [(43, 47, [.hole (.int .i64), .ni])], []⟩)] (.two (.leaf) (.one (.two (.leaf) (.two (.leaf) (.two (.leaf) (.two (.join ⟨slotsOf 92 [(1, .c (.hole (.int .i64))), (2, .c (.hole (.int .i64))), (3, .c (.hole (.int .i64))), (4, .c (.box 4 0)), (10, .c (.box 43 0)), (12, .c (.hole (.int .i64))), (13, .c (.hole (.int .i64)))], [(4, 25, [.hole (.int .i64), .hole (.int .i64), .hole (.int .i64), .hole (.int .i64), .hole (.int .i64)]), (43, 47, [.hole (.int .i64), .ni])], []⟩ (.leaf)) (.leaf)))))))))) (.leaf))))
noncomputable def c_delay_Total (n : Nat) : Cx := ⟨Go.Proofs.Tryz.prog, Θ, [33, 23, 78, 128, 163], [(21, ⟨h_delay_number, o_delay_number, delay_number n⟩), (18, ⟨h_queue_Right, o_queue_Right, queue_Right n⟩), (19, ⟨h_delay_alike, o_delay_alike, delay_alike n⟩), (20, ⟨h_delay_sum_stretch, o_delay_sum_stretch, delay_sum_stretch n⟩)], [], []⟩
theorem d_delay_Total (n : Nat) (x : h_delay_Total.X T) : denF (c_delay_Total n) n Go.Proofs.Tryz.f8 p_delay_Total h_delay_Total o_delay_Total x = delay_Total n x := by kernel_rfl
theorem s_delay_Total (n : Nat) : PCalls Go.Proofs.Tryz.prog Θ 8 ⟨h_delay_Total, o_delay_Total, delay_Total n⟩ :=
  func_ok' (C := c_delay_Total n) (n := n) (p := p_delay_Total) (ok_of mixed eqsOk ⟨s_delay_number n, s_queue_Right n, s_delay_alike n, s_delay_sum_stretch n, trivial⟩ trivial trivial) Go.Proofs.Tryz.func8 (by kernel_rfl) (by kernel_rfl) (d_delay_Total n) (by kernel_rfl)

/-- carrefour/carrefourref03.Cycle -/
def h_ref03_Cycle : Shape := ⟨slotsOf 1 [(0, .c (.hole (.int .i64)))], [], []⟩
def o_ref03_Cycle : List (Ex × Shape) := [(.ret, ⟨slotsOf 1 [(0, .c (.hole (.bool)))], [], []⟩)]
def ref03_Cycle (n : Nat) (x0 : Int) : Option (Bool) :=
  bif decide (1 ≤ x0) then
    some (decide (x0 ≤ 6000))
  else
  some false
def p_ref03_Cycle : Plan := .leaf
noncomputable def c_ref03_Cycle (n : Nat) : Cx := ⟨Go.Proofs.Tryz.prog, Θ, [33, 23, 78, 128, 163], [], [], []⟩
theorem d_ref03_Cycle (n : Nat) (x : h_ref03_Cycle.X T) : denF (c_ref03_Cycle n) n Go.Proofs.Tryz.f44 p_ref03_Cycle h_ref03_Cycle o_ref03_Cycle x = ref03_Cycle n x := by kernel_rfl
theorem s_ref03_Cycle (n : Nat) : PCalls Go.Proofs.Tryz.prog Θ 44 ⟨h_ref03_Cycle, o_ref03_Cycle, ref03_Cycle n⟩ :=
  func_ok' (C := c_ref03_Cycle n) (n := n) (p := p_ref03_Cycle) (ok_of mixed eqsOk trivial trivial trivial) Go.Proofs.Tryz.func44 (by kernel_rfl) (by kernel_rfl) (d_ref03_Cycle n) (by kernel_rfl)

/-- carrefour/carrefourref25.Right -/
def h_ref25_Right : Shape := ⟨slotsOf 1 [(0, .agg [.hole (.int .i64), .hole (.int .i64), .hole (.int .i64), .hole (.int .i64), .hole (.int .i64)])], [], []⟩
def o_ref25_Right : List (Ex × Shape) := [(.ret, ⟨slotsOf 1 [(0, .c (.hole (.bool)))], [], []⟩)]
def ref25_Right (n : Nat) (x0 : Int × Int × Int × Int × Int) : Option (Bool) :=
  letJ (fun (x2 : Bool) =>
    some x2) fun J3 =>
  (ref03_Cycle n x0.2.2.2.2).bind fun y1 =>
  bif y1 then
    bif decide (0 ≤ x0.1) then
      bif decide (x0.1 ≤ 1000000000) then
        bif decide (0 ≤ x0.2.1) then
          J3 (decide (x0.2.1 ≤ 1000000000))
        else
        J3 false
      else
      J3 false
    else
    J3 false
  else
  J3 false
def p_ref25_Right : Plan := .two (.leaf) (.two (.join ⟨slotsOf 26 [(2, .c (.hole (.bool)))], [], []⟩ (.leaf)) (.leaf))
noncomputable def c_ref25_Right (n : Nat) : Cx := ⟨Go.Proofs.Tryz.prog, Θ, [33, 23, 78, 128, 163], [(44, ⟨h_ref03_Cycle, o_ref03_Cycle, ref03_Cycle n⟩)], [], []⟩
theorem d_ref25_Right (n : Nat) (x : h_ref25_Right.X T) : denF (c_ref25_Right n) n Go.Proofs.Tryz.f22 p_ref25_Right h_ref25_Right o_ref25_Right x = ref25_Right n x := by kernel_rfl
theorem s_ref25_Right (n : Nat) : PCalls Go.Proofs.Tryz.prog Θ 22 ⟨h_ref25_Right, o_ref25_Right, ref25_Right n⟩ :=
  func_ok' (C := c_ref25_Right n) (n := n) (p := p_ref25_Right) (ok_of mixed eqsOk ⟨s_ref03_Cycle n, trivial⟩ trivial trivial) Go.Proofs.Tryz.func22 (by kernel_rfl) (by kernel_rfl) (d_ref25_Right n) (by kernel_rfl)

/-- carrefour/carrefourref03.Mod -/
def h_ref03_Mod : Shape := ⟨slotsOf 2 [(0, .c (.hole (.int .i64))), (1, .c (.hole (.int .i64)))], [], []⟩
def o_ref03_Mod : List (Ex × Shape) := [(.ret, ⟨slotsOf 1 [(0, .c (.hole (.int .i64)))], [], []⟩)]
def ref03_Mod (n : Nat) (x0 : Int × Int) : Option (Int) :=
  let e0 := Int.tmod x0.1 x0.2
  bif !(x0.2 == 0) then
    bif decide (e0 < 0) then
      some (wrap64 (e0 + x0.2))
    else
    some e0
  else
  none
def p_ref03_Mod : Plan := .leaf
noncomputable def c_ref03_Mod (n : Nat) : Cx := ⟨Go.Proofs.Tryz.prog, Θ, [33, 23, 78, 128, 163], [], [], []⟩
theorem d_ref03_Mod (n : Nat) (x : h_ref03_Mod.X T) : denF (c_ref03_Mod n) n Go.Proofs.Tryz.f77 p_ref03_Mod h_ref03_Mod o_ref03_Mod x = ref03_Mod n x := by kernel_rfl
theorem s_ref03_Mod (n : Nat) : PCalls Go.Proofs.Tryz.prog Θ 77 ⟨h_ref03_Mod, o_ref03_Mod, ref03_Mod n⟩ :=
  func_ok' (C := c_ref03_Mod n) (n := n) (p := p_ref03_Mod) (ok_of mixed eqsOk trivial trivial trivial) Go.Proofs.Tryz.func77 (by kernel_rfl) (by kernel_rfl) (d_ref03_Mod n) (by kernel_rfl)

end Go.Proofs.YtiildimlelphhaaGreatDoor.Fn
