/- Functions of the program, each as a plain function, and that the machine does what it says. -/
import Derived.Test.YtoafplpdjmiolaaFnR0
namespace Go.Proofs.Ytoafplpdjmiolaa.Fn
set_option linter.unusedVariables false
set_option maxRecDepth 100000
open Go Go.RowKit Go.Den
/-- carrefour/carrefourref03.Ticks -/
def h_ref03_Ticks : Shape := ⟨slotsOf 2 [(0, .c (.hole (.int .i64))), (1, .c (.hole (.sl 24)))], [], []⟩
def o_ref03_Ticks : List (Ex × Shape) := [(.ret, ⟨slotsOf 1 [(0, .c (.row 0))], [], [(0, 4)]⟩)]
def ref03_Ticks (n : Nat) (x0 : Int × List (Int × Int)) : Option (List Bool) :=
  (ref03_Cycle n x0.1).bind fun y1 =>
  bif !y1 then
    some []
  else
  bif x0.1 == x0.1 && decide (0 ≤ x0.1) && decide (x0.1 * 1 ≤ 281474976710656) then
    (iterL (Y := (List Bool)) n (fun (x2 : Int × (List (Int × Int)) × Int × List Bool) =>
      let e0 := x2.2.1.length
      let e1 := inB x2.2.2.1 e0
      let e2 := atI (0, 0) x2.2.1 x2.2.2.1
      bif decide (x2.2.2.1 < ((e0 : Nat) : Int)) then
        bif e1 then
          bif e1 then
            (ref03_Mod n (e2.1, x2.1)).bind fun y3 =>
            (iterL (Y := (Int × (List (Int × Int)) × Int × List Bool)) n (fun (x4 : Int × (List (Int × Int)) × Int × Int × Int × Int × List Bool) =>
              let e3 := Int.tmod (wrap64 (x4.2.2.2.2.1 + x4.2.2.2.2.2.1)) x4.1
              bif decide (x4.2.2.2.2.2.1 < x4.2.2.2.1) then
                bif !(x4.1 == 0) then
                  bif inB e3 x4.2.2.2.2.2.2.length then
                    some (.inl (x4.1, x4.2.1, x4.2.2.1, x4.2.2.2.1, x4.2.2.2.2.1, wrap64 (x4.2.2.2.2.2.1 + 1), List.set x4.2.2.2.2.2.2 (Int.toNat e3) true))
                  else
                  none
                else
                none
              else
              some (.inr (x4.1, x4.2.1, x4.2.2.1, x4.2.2.2.2.2.2))) (x2.1, x2.2.1, x2.2.2.1, mn e2.2 x2.1, y3, 0, x2.2.2.2)).bind fun (z5 : Int × (List (Int × Int)) × Int × List Bool) =>
              some (.inl (z5.1, z5.2.1, wrap64 (z5.2.2.1 + 1), z5.2.2.2))
          else
          none
        else
        none
      else
      some (.inr x2.2.2.2)) (x0.1, x0.2, 0, List.replicate (Int.toNat x0.1) false)).bind fun (z6 : List Bool) =>
      some z6
  else
  none
def p_ref03_Ticks : Plan := .two (.leaf) (.two (.leaf) (.two (.leaf) (.two (.two (.leaf) (.one (.loop ⟨slotsOf 48 [(0, .c (.hole (.int .i64))), (1, .c (.hole (.sl 24))), (5, .c (.row 14)), (6, .c (.hole (.int .i64)))], [], [(14, 4)]⟩ [(.exit 0, ⟨slotsOf 48 [(5, .c (.row 14))], [], [(14, 4)]⟩)] (.two (.leaf) (.two (.one (.two (.leaf) (.two (.leaf) (.two (.leaf) (.one (.loop ⟨slotsOf 48 [(0, .c (.hole (.int .i64))), (1, .c (.hole (.sl 24))), (5, .c (.row 14)), (6, .c (.hole (.int .i64))), (7, .c (.hole (.int .i64))), (8, .c (.hole (.int .i64))), (9, .c (.hole (.int .i64)))], [], [(14, 4)]⟩ [(.exit 2, ⟨slotsOf 48 [(0, .c (.hole (.int .i64))), (1, .c (.hole (.sl 24))), (5, .c (.row 14)), (6, .c (.hole (.int .i64)))], [], [(14, 4)]⟩)] (.leaf))))))) (.leaf)))))) (.leaf))))
noncomputable def c_ref03_Ticks (n : Nat) : Cx := ⟨Go.Proofs.Try.prog, Θ, [24, 82], [(10, ⟨h_ref03_Cycle, o_ref03_Cycle, ref03_Cycle n⟩), (25, ⟨h_ref03_Mod, o_ref03_Mod, ref03_Mod n⟩)], [], []⟩
theorem d_ref03_Ticks (n : Nat) (x : h_ref03_Ticks.X T) : denF (c_ref03_Ticks n) n Go.Proofs.Try.f18 p_ref03_Ticks h_ref03_Ticks o_ref03_Ticks x = ref03_Ticks n x := by kernel_rfl
theorem s_ref03_Ticks (n : Nat) : PCalls Go.Proofs.Try.prog Θ 18 ⟨h_ref03_Ticks, o_ref03_Ticks, ref03_Ticks n⟩ :=
  func_ok' (C := c_ref03_Ticks n) (n := n) (p := p_ref03_Ticks) (ok_of mixed eqsOk ⟨s_ref03_Cycle n, s_ref03_Mod n, trivial⟩ trivial trivial) Go.Proofs.Try.func18 (by kernel_rfl) (by kernel_rfl) (d_ref03_Ticks n) (by kernel_rfl)

/-- carrefour/carrefourref03.Form -/
def h_ref03_Form : Shape := ⟨slotsOf 1 [(0, .c (.hole (.sl 4)))], [], []⟩
def o_ref03_Form : List (Ex × Shape) := [(.ret, ⟨slotsOf 1 [(0, .c (.hole (.sl 24)))], [], []⟩)]
def ref03_Form (n : Nat) (x0 : List Bool) : Option (List (Int × Int)) :=
  (iterL (Y := ((List Bool) × Int × Int)) n (fun (x1 : (List Bool) × Int × Int × Int) =>
    let e0 := wrap64 (x1.2.2.2 + 1)
    bif decide (x1.2.2.2 < x1.2.1) then
      bif inB x1.2.2.2 x1.1.length then
        bif atI false x1.1 x1.2.2.2 then
          some (.inl (x1.1, x1.2.1, wrap64 (x1.2.2.1 + 1), e0))
        else
        some (.inl (x1.1, x1.2.1, x1.2.2.1, e0))
      else
      none
    else
    some (.inr (x1.1, x1.2.1, x1.2.2.1))) (x0, ((x0.length : Nat) : Int), 0, 0)).bind fun (z2 : (List Bool) × Int × Int) =>
    letJ (fun (x3 : (List Bool) × Int × Bool) =>
      bif x3.2.2 then
        some ((0, x3.2.1) :: [])
      else
      (iterL (Y := (List (Int × Int))) n (fun (x10 : (List Bool) × Int × Int × List (Int × Int)) =>
        let e1 := x10.1.length
        let e2 := Int.tmod (wrap64 ((wrap64 (x10.2.2.1 + x10.2.1)) - 1)) x10.2.1
        bif decide (x10.2.2.1 < x10.2.1) then
          letJ (fun (x11 : (List Bool) × Int × Int × Bool × List (Int × Int)) =>
            bif x11.2.2.2.1 then
              some (.inl (x11.1, x11.2.1, wrap64 (x11.2.2.1 + 1), x11.2.2.2.2))
            else
            (iterL (Y := ((List Bool) × Int × Int × Int × List (Int × Int))) n (fun (x13 : (List Bool) × Int × Int × Int × List (Int × Int)) =>
              let e3 := Int.tmod (wrap64 (x13.2.2.1 + x13.2.2.2.1)) x13.2.1
              bif !(x13.2.1 == 0) then
                bif inB e3 x13.1.length then
                  bif atI false x13.1 e3 then
                    some (.inl (x13.1, x13.2.1, x13.2.2.1, wrap64 (x13.2.2.2.1 + 1), x13.2.2.2.2))
                  else
                  some (.inr x13)
                else
                none
              else
              none) (x11.1, x11.2.1, x11.2.2.1, 0, x11.2.2.2.2)).bind fun (z14 : (List Bool) × Int × Int × Int × List (Int × Int)) =>
              let e4 := (z14.2.2.1, z14.2.2.2.1) :: []
              bif fitB (z14.2.2.2.2.length + e4.length) 16 then
                some (.inl (z14.1, z14.2.1, wrap64 (z14.2.2.1 + 1), z14.2.2.2.2 ++ e4))
              else
              none) fun J12 =>
          bif inB x10.2.2.1 e1 then
            bif !(atI false x10.1 x10.2.2.1) then
              J12 (x10.1, x10.2.1, x10.2.2.1, true, x10.2.2.2)
            else
            bif !(x10.2.1 == 0) then
              bif inB e2 e1 then
                J12 (x10.1, x10.2.1, x10.2.2.1, atI false x10.1 e2, x10.2.2.2)
              else
              none
            else
            none
          else
          none
        else
        some (.inr x10.2.2.2)) (x3.1, x3.2.1, 0, [])).bind fun (z15 : List (Int × Int)) =>
        some z15) fun J4 =>
    bif z2.2.2 == z2.2.1 then
      J4 (z2.1, z2.2.1, decide (0 < z2.2.1))
    else
    J4 (z2.1, z2.2.1, false)
def p_ref03_Form : Plan := .two (.leaf) (.two (.leaf) (.two (.leaf) (.two (.two (.leaf) (.one (.loop ⟨slotsOf 70 [(0, .c (.hole (.sl 4))), (3, .c (.hole (.int .i64))), (4, .c (.hole (.int .i64))), (5, .c (.hole (.int .i64)))], [], []⟩ [(.exit 0, ⟨slotsOf 70 [(0, .c (.hole (.sl 4))), (3, .c (.hole (.int .i64))), (4, .c (.hole (.int .i64)))], [], []⟩)] (.leaf)))) (.two (.two (.join ⟨slotsOf 70 [(0, .c (.hole (.sl 4))), (3, .c (.hole (.int .i64))), (28, .c (.hole (.bool)))], [], []⟩ (.leaf)) (.leaf)) (.two (.leaf) (.two (.two (.leaf) (.one (.loop ⟨slotsOf 70 [(0, .c (.hole (.sl 4))), (3, .c (.hole (.int .i64))), (6, .c (.row 68)), (7, .c (.hole (.int .i64)))], [], [(68, 24)]⟩ [(.exit 2, ⟨slotsOf 70 [(6, .c (.row 68))], [], [(68, 24)]⟩)] (.two (.leaf) (.two (.one (.two (.two (.join ⟨slotsOf 70 [(0, .c (.hole (.sl 4))), (3, .c (.hole (.int .i64))), (6, .c (.row 68)), (7, .c (.hole (.int .i64))), (52, .c (.hole (.bool)))], [], [(68, 24)]⟩ (.leaf)) (.leaf)) (.two (.leaf) (.two (.one (.loop ⟨slotsOf 70 [(0, .c (.hole (.sl 4))), (3, .c (.hole (.int .i64))), (6, .c (.row 68)), (7, .c (.hole (.int .i64))), (8, .c (.hole (.int .i64)))], [], [(68, 24)]⟩ [(.exit 4, ⟨slotsOf 70 [(0, .c (.hole (.sl 4))), (3, .c (.hole (.int .i64))), (6, .c (.row 68)), (7, .c (.hole (.int .i64))), (8, .c (.hole (.int .i64)))], [], [(68, 24)]⟩)] (.leaf))) (.leaf))))) (.leaf)))))) (.leaf)))))))
noncomputable def c_ref03_Form (n : Nat) : Cx := ⟨Go.Proofs.Try.prog, Θ, [24, 82], [], [], []⟩
theorem d_ref03_Form (n : Nat) (x : h_ref03_Form.X T) : denF (c_ref03_Form n) n Go.Proofs.Try.f17 p_ref03_Form h_ref03_Form o_ref03_Form x = ref03_Form n x := by kernel_rfl
theorem s_ref03_Form (n : Nat) : PCalls Go.Proofs.Try.prog Θ 17 ⟨h_ref03_Form, o_ref03_Form, ref03_Form n⟩ :=
  func_ok' (C := c_ref03_Form n) (n := n) (p := p_ref03_Form) (ok_of mixed eqsOk trivial trivial trivial) Go.Proofs.Try.func17 (by kernel_rfl) (by kernel_rfl) (d_ref03_Form n) (by kernel_rfl)

/-- carrefour/carrefourref03.Norm -/
def h_ref03_Norm : Shape := ⟨slotsOf 2 [(0, .c (.hole (.int .i64))), (1, .agg [.hole (.int .i64), .hole (.int .i64)])], [], []⟩
def o_ref03_Norm : List (Ex × Shape) := [(.ret, ⟨slotsOf 1 [(0, .agg [.hole (.int .i64), .hole (.int .i64)])], [], []⟩)]
def ref03_Norm (n : Nat) (x0 : Int × Int × Int) : Option (Int × Int) :=
  (ref03_Ticks n (x0.1, x0.2 :: [])).bind fun y1 =>
  (ref03_Form n y1).bind fun y2 =>
  let e0 := y2.length
  bif ((e0 : Nat) : Int) == 0 then
    some (0, 0)
  else
  bif inB 0 e0 then
    some (atI (0, 0) y2 0)
  else
  none
def p_ref03_Norm : Plan := .leaf
noncomputable def c_ref03_Norm (n : Nat) : Cx := ⟨Go.Proofs.Try.prog, Θ, [24, 82], [(18, ⟨h_ref03_Ticks, o_ref03_Ticks, ref03_Ticks n⟩), (17, ⟨h_ref03_Form, o_ref03_Form, ref03_Form n⟩)], [], []⟩
theorem d_ref03_Norm (n : Nat) (x : h_ref03_Norm.X T) : denF (c_ref03_Norm n) n Go.Proofs.Try.f11 p_ref03_Norm h_ref03_Norm o_ref03_Norm x = ref03_Norm n x := by kernel_rfl
theorem s_ref03_Norm (n : Nat) : PCalls Go.Proofs.Try.prog Θ 11 ⟨h_ref03_Norm, o_ref03_Norm, ref03_Norm n⟩ :=
  func_ok' (C := c_ref03_Norm n) (n := n) (p := p_ref03_Norm) (ok_of mixed eqsOk ⟨s_ref03_Ticks n, s_ref03_Form n, trivial⟩ trivial trivial) Go.Proofs.Try.func11 (by kernel_rfl) (by kernel_rfl) (d_ref03_Norm n) (by kernel_rfl)

/-- carrefour/carrefourlaw28.ChartTicks -/
def h_law28_ChartTicks : Shape := ⟨slotsOf 3 [(0, .c (.hole (.int .i64))), (1, .agg [.hole (.int .i64), .hole (.int .i64)]), (2, .agg [.hole (.int .i64), .hole (.int .i64)])], [], []⟩
def o_law28_ChartTicks : List (Ex × Shape) := [(.ret, ⟨slotsOf 1 [(0, .c (.hole (.bool)))], [], []⟩)]
noncomputable def law28_ChartTicks (n : Nat) (x0 : Int × Int × Int × Int × Int) : Option (Bool) :=
  letJ (fun (x1 : Int × Bool × Int × Int × Int × Int) =>
    bif x1.2.1 then
      some true
    else
    (chart_Row n (x1.1, x1.2.2.1, x1.2.2.2.1, x1.2.2.2.2.1, x1.2.2.2.2.2, 1)).bind fun y3 =>
    (ref03_Cycle n x1.1).bind fun y4 =>
    bif !y4 then
      bif strEq y3 (ByteArray.mk #[]) then
        (law28_awake n ()).bind fun y5 =>
        some y5
      else
      some false
    else
      (ref03_Norm n (x1.1, x1.2.2.1, x1.2.2.2.1)).bind fun y6 =>
      (ref03_Norm n (x1.1, x1.2.2.2.2)).bind fun y7 =>
      (chart_Count n (y3, 35)).bind fun y8 =>
      letJ (fun (x13 : Bool) =>
        some x13) fun J14 =>
      bif ((ByteArray.size y3 : Nat) : Int) == x1.1 then
        (chart_Count n (y3, 62)).bind fun y9 =>
        bif (wrap64 (y8 + y9)) == y6.2 then
          (chart_Count n (y3, 60)).bind fun y10 =>
          bif (wrap64 (y8 + y10)) == y7.2 then
            (chart_Count n (y3, 46)).bind fun y11 =>
            bif y11 == (wrap64 ((wrap64 ((wrap64 (x1.1 - y6.2)) - y7.2)) + y8)) then
              (law28_awake n ()).bind fun y12 =>
              J14 y12
            else
            J14 false
          else
          J14 false
        else
        J14 false
      else
      J14 false) fun J2 =>
  bif decide (500 < x0.1) then
    J2 (x0.1, decide (x0.1 ≤ 6000), x0.2)
  else
  J2 (x0.1, false, x0.2)
def p_law28_ChartTicks : Plan := .two (.leaf) (.two (.two (.join ⟨slotsOf 74 [(0, .c (.hole (.int .i64))), (4, .c (.box 4 0)), (5, .c (.box 5 0)), (16, .c (.hole (.bool)))], [(4, 24, [.hole (.int .i64), .hole (.int .i64)]), (5, 24, [.hole (.int .i64), .hole (.int .i64)])], []⟩ (.leaf)) (.leaf)) (.two (.leaf) (.two (.leaf) (.two (.leaf) (.two (.leaf) (.two (.leaf) (.two (.join ⟨slotsOf 74 [(6, .c (.hole (.bool)))], [], []⟩ (.leaf)) (.leaf))))))))
noncomputable def c_law28_ChartTicks (n : Nat) : Cx := ⟨Go.Proofs.Try.prog, Θ, [24, 82], [(5, ⟨h_chart_Row, o_chart_Row, chart_Row n⟩), (10, ⟨h_ref03_Cycle, o_ref03_Cycle, ref03_Cycle n⟩), (12, ⟨h_chart_Count, o_chart_Count, chart_Count n⟩), (9, ⟨h_law28_awake, o_law28_awake, law28_awake n⟩), (11, ⟨h_ref03_Norm, o_ref03_Norm, ref03_Norm n⟩)], [], []⟩
theorem d_law28_ChartTicks (n : Nat) (x : h_law28_ChartTicks.X T) : denF (c_law28_ChartTicks n) n Go.Proofs.Try.f4 p_law28_ChartTicks h_law28_ChartTicks o_law28_ChartTicks x = law28_ChartTicks n x := by kernel_rfl
theorem s_law28_ChartTicks (n : Nat) : PCalls Go.Proofs.Try.prog Θ 4 ⟨h_law28_ChartTicks, o_law28_ChartTicks, law28_ChartTicks n⟩ :=
  func_ok' (C := c_law28_ChartTicks n) (n := n) (p := p_law28_ChartTicks) (ok_of mixed eqsOk ⟨s_chart_Row n, s_ref03_Cycle n, s_chart_Count n, s_law28_awake n, s_ref03_Norm n, trivial⟩ trivial trivial) Go.Proofs.Try.func4 (by kernel_rfl) (by kernel_rfl) (d_law28_ChartTicks n) (by kernel_rfl)

end Go.Proofs.Ytoafplpdjmiolaa.Fn
