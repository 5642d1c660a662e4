/- Functions of the program, each as a plain function, and that the machine does what it says. -/
import Derived.Test.YtemhdliapelleaaFn0
namespace Go.Proofs.Ytemhdliapelleaa.Fn
set_option linter.unusedVariables false
set_option maxRecDepth 100000
open Go Go.RowKit Go.Den
/-- carrefour/carrefourref03.Same -/
def h_ref03_Same : Shape := ⟨slotsOf 2 [(0, .c (.hole (.sl 23))), (1, .c (.hole (.sl 23)))], [], []⟩
def o_ref03_Same : List (Ex × Shape) := [(.ret, ⟨slotsOf 1 [(0, .c (.hole (.bool)))], [], []⟩)]
def ref03_Same (n : Nat) (x0 : (List (Int × Int)) × List (Int × Int)) : Option (Bool) :=
  bif !(((x0.1.length : Nat) : Int) == ((x0.2.length : Nat) : Int)) then
    some false
  else
  (iterL (Y := (Bool) ⊕ (Unit)) n (fun (x1 : (List (Int × Int)) × (List (Int × Int)) × Int) =>
    let e0 := x1.1.length
    let e1 := atI (0, 0) x1.1 x1.2.2
    let e2 := atI (0, 0) x1.2.1 x1.2.2
    bif decide (x1.2.2 < ((e0 : Nat) : Int)) then
      bif inB x1.2.2 e0 then
        bif inB x1.2.2 x1.2.1.length then
          bif !((e1.1 == e2.1) && ((e1.2 == e2.2) && true)) then
            some (.inr (.inl false))
          else
          some (.inl (x1.1, x1.2.1, wrap64 (x1.2.2 + 1)))
        else
        none
      else
      none
    else
    some (.inr (.inr ()))) (x0.1, x0.2, 0)).bind (Sum.elim (fun (z2 : Bool) =>
    some z2) (fun (z3 : Unit) =>
    some true))
def p_ref03_Same : Plan := .two (.leaf) (.two (.leaf) (.two (.two (.leaf) (.one (.loop ⟨slotsOf 26 [(0, .c (.hole (.sl 23))), (1, .c (.hole (.sl 23))), (5, .c (.hole (.int .i64)))], [], []⟩ [(.ret, ⟨slotsOf 26 [(4, .c (.hole (.bool)))], [], []⟩), (.exit 0, ⟨slotsOf 26 [], [], []⟩)] (.leaf)))) (.leaf)))
noncomputable def c_ref03_Same (n : Nat) : Cx := ⟨Go.Proofs.Try.prog, Θ, [23, 68], [], [], []⟩
theorem d_ref03_Same (n : Nat) (x : h_ref03_Same.X T) : denF (c_ref03_Same n) n Go.Proofs.Try.f23 p_ref03_Same h_ref03_Same o_ref03_Same x = ref03_Same n x := by kernel_rfl
theorem s_ref03_Same (n : Nat) : PCalls Go.Proofs.Try.prog Θ 23 ⟨h_ref03_Same, o_ref03_Same, ref03_Same n⟩ :=
  func_ok' (C := c_ref03_Same n) (n := n) (p := p_ref03_Same) (ok_of mixed eqsOk trivial trivial trivial) Go.Proofs.Try.func23 (by kernel_rfl) (by kernel_rfl) (d_ref03_Same n) (by kernel_rfl)

/-- carrefour/carrefourlaw03.awake -/
def h_law03_awake : Shape := ⟨slotsOf 0 [], [], []⟩
def o_law03_awake : List (Ex × Shape) := [(.ret, ⟨slotsOf 1 [(0, .c (.hole (.bool)))], [], []⟩)]
noncomputable def law03_awake (n : Nat) (x0 : Unit) : Option (Bool) :=
  (circle_Set n (10, (8, 4) :: ((1, 3) :: []))).bind fun y1 =>
  let e0 := y1.length
  let e1 := atI (0, 0) y1 0
  letJ (fun (x5 : Bool) =>
    some x5) fun J6 =>
  bif ((e0 : Nat) : Int) == 1 then
    bif inB 0 e0 then
      bif (e1.1 == 8) && ((e1.2 == 6) && true) then
        (circle_Rest n (10, y1)).bind fun y2 =>
        (ref03_Same n (y2, (4, 4) :: [])).bind fun y3 =>
        bif y3 then
          (circle_Gap n (10, 8, 4, 5, 1)).bind fun y4 =>
          J6 (y4 == 3)
        else
        J6 false
      else
      J6 false
    else
    none
  else
  J6 false
def p_law03_awake : Plan := .two (.leaf) (.two (.leaf) (.two (.join ⟨slotsOf 29 [(0, .c (.hole (.bool)))], [], []⟩ (.leaf)) (.leaf)))
noncomputable def c_law03_awake (n : Nat) : Cx := ⟨Go.Proofs.Try.prog, Θ, [23, 68], [(19, ⟨h_circle_Gap, o_circle_Gap, circle_Gap n⟩), (22, ⟨h_circle_Set, o_circle_Set, circle_Set n⟩), (34, ⟨h_circle_Rest, o_circle_Rest, circle_Rest n⟩), (23, ⟨h_ref03_Same, o_ref03_Same, ref03_Same n⟩)], [], []⟩
theorem d_law03_awake (n : Nat) (x : h_law03_awake.X T) : denF (c_law03_awake n) n Go.Proofs.Try.f21 p_law03_awake h_law03_awake o_law03_awake x = law03_awake n x := by kernel_rfl
theorem s_law03_awake (n : Nat) : PCalls Go.Proofs.Try.prog Θ 21 ⟨h_law03_awake, o_law03_awake, law03_awake n⟩ :=
  func_ok' (C := c_law03_awake n) (n := n) (p := p_law03_awake) (ok_of mixed eqsOk ⟨s_circle_Gap n, s_circle_Set n, s_circle_Rest n, s_ref03_Same n, trivial⟩ trivial trivial) Go.Proofs.Try.func21 (by kernel_rfl) (by kernel_rfl) (d_law03_awake n) (by kernel_rfl)

/-- carrefour/carrefourlaw03.CircleArcs -/
def h_law03_CircleArcs : Shape := ⟨slotsOf 3 [(0, .c (.hole (.int .i64))), (1, .agg [.hole (.int .i64), .hole (.int .i64), .hole (.int .i64), .hole (.int .i64)]), (2, .c (.hole (.int .i64)))], [], []⟩
def o_law03_CircleArcs : List (Ex × Shape) := [(.ret, ⟨slotsOf 1 [(0, .c (.hole (.bool)))], [], []⟩)]
noncomputable def law03_CircleArcs (n : Nat) (x0 : Int × Int × Int × Int × Int × Int) : Option (Bool) :=
  let e0 := inB 0 2
  let e1 := inB 1 2
  (law03_few n (x0.1, [])).bind fun y1 =>
  bif !y1 then
    some true
  else
  letJ (fun (x9 : Bool) =>
    some x9) fun J10 =>
  bif e0 then
    (circle_Norm n (x0.1, x0.2.1, x0.2.2.1)).bind fun y2 =>
    bif e0 then
      (ref03_Norm n (x0.1, x0.2.1, x0.2.2.1)).bind fun y3 =>
      bif (y2.1 == y3.1) && ((y2.2 == y3.2) && true) then
        bif e0 then
          (circle_In n (x0.1, x0.2.1, x0.2.2.1, x0.2.2.2.2.2)).bind fun y4 =>
          bif e0 then
            (ref03_In n (x0.1, x0.2.1, x0.2.2.1, x0.2.2.2.2.2)).bind fun y5 =>
            bif y4 == y5 then
              bif e0 then
                bif e1 then
                  (circle_Gap n (x0.1, x0.2.1, x0.2.2.1, x0.2.2.2.1, x0.2.2.2.2.1)).bind fun y6 =>
                  bif e0 then
                    bif e1 then
                      (ref03_Gap n (x0.1, x0.2.1, x0.2.2.1, x0.2.2.2.1, x0.2.2.2.2.1)).bind fun y7 =>
                      bif y6 == y7 then
                        (law03_awake n ()).bind fun y8 =>
                        J10 y8
                      else
                      J10 false
                    else
                    none
                  else
                  none
                else
                none
              else
              none
            else
            J10 false
          else
          none
        else
        none
      else
      J10 false
    else
    none
  else
  none
def p_law03_CircleArcs : Plan := .two (.leaf) (.two (.leaf) (.two (.join ⟨slotsOf 50 [(6, .c (.hole (.bool)))], [], []⟩ (.leaf)) (.leaf)))
noncomputable def c_law03_CircleArcs (n : Nat) : Cx := ⟨Go.Proofs.Try.prog, Θ, [23, 68], [(14, ⟨h_law03_few, o_law03_few, law03_few n⟩), (15, ⟨h_circle_Norm, o_circle_Norm, circle_Norm n⟩), (16, ⟨h_ref03_Norm, o_ref03_Norm, ref03_Norm n⟩), (17, ⟨h_circle_In, o_circle_In, circle_In n⟩), (18, ⟨h_ref03_In, o_ref03_In, ref03_In n⟩), (19, ⟨h_circle_Gap, o_circle_Gap, circle_Gap n⟩), (20, ⟨h_ref03_Gap, o_ref03_Gap, ref03_Gap n⟩), (21, ⟨h_law03_awake, o_law03_awake, law03_awake n⟩)], [], []⟩
theorem d_law03_CircleArcs (n : Nat) (x : h_law03_CircleArcs.X T) : denF (c_law03_CircleArcs n) n Go.Proofs.Try.f3 p_law03_CircleArcs h_law03_CircleArcs o_law03_CircleArcs x = law03_CircleArcs n x := by kernel_rfl
theorem s_law03_CircleArcs (n : Nat) : PCalls Go.Proofs.Try.prog Θ 3 ⟨h_law03_CircleArcs, o_law03_CircleArcs, law03_CircleArcs n⟩ :=
  func_ok' (C := c_law03_CircleArcs n) (n := n) (p := p_law03_CircleArcs) (ok_of mixed eqsOk ⟨s_law03_few n, s_circle_Norm n, s_ref03_Norm n, s_circle_In n, s_ref03_In n, s_circle_Gap n, s_ref03_Gap n, s_law03_awake n, trivial⟩ trivial trivial) Go.Proofs.Try.func3 (by kernel_rfl) (by kernel_rfl) (d_law03_CircleArcs n) (by kernel_rfl)

/-- carrefour/carrefourlaw03.CircleForm -/
def h_law03_CircleForm : Shape := ⟨slotsOf 3 [(0, .c (.hole (.int .i64))), (1, .c (.hole (.sl 23))), (2, .c (.hole (.int .i64)))], [], []⟩
def o_law03_CircleForm : List (Ex × Shape) := [(.ret, ⟨slotsOf 1 [(0, .c (.hole (.bool)))], [], []⟩)]
noncomputable def law03_CircleForm (n : Nat) (x0 : Int × (List (Int × Int)) × Int) : Option (Bool) :=
  (law03_few n (x0.1, x0.2.1 :: [])).bind fun y1 =>
  bif !y1 then
    some true
  else
  (circle_Set n (x0.1, x0.2.1)).bind fun y2 =>
  (circle_Set n (x0.1, y2)).bind fun y3 =>
  (ref03_Same n (y3, y2)).bind fun y4 =>
  bif !y4 then
    some false
  else
  (iterL (Y := (Int × (List (Int × Int)) × Int × (List (Int × Int)) × List (Int × Int))) n (fun (x6 : Int × (List (Int × Int)) × Int × Int × (List (Int × Int)) × List (Int × Int)) =>
    let e0 := (atI (0, 0) x6.2.1 x6.2.2.2.1) :: []
    bif decide (0 ≤ x6.2.2.2.1) then
      bif inB x6.2.2.2.1 x6.2.1.length then
        bif fitB (x6.2.2.2.2.2.length + e0.length) 16 then
          some (.inl (x6.1, x6.2.1, x6.2.2.1, wrap64 (x6.2.2.2.1 - 1), x6.2.2.2.2.1, x6.2.2.2.2.2 ++ e0))
        else
        none
      else
      none
    else
    some (.inr (x6.1, x6.2.1, x6.2.2.1, x6.2.2.2.2))) (x0.1, x0.2.1, x0.2.2, wrap64 (((x0.2.1.length : Nat) : Int) - 1), y2, [])).bind fun (z7 : Int × (List (Int × Int)) × Int × (List (Int × Int)) × List (Int × Int)) =>
    (iterL (Y := (Int × Int × Bool × Bool × (List (Int × Int)) × List (Int × Int))) n (fun (x8 : Int × (List (Int × Int)) × Int × Bool × Bool × Int × (List (Int × Int)) × List (Int × Int)) =>
      let e1 := x8.2.1.length
      let e2 := atI (0, 0) x8.2.1 x8.2.2.2.2.2.1
      bif decide (x8.2.2.2.2.2.1 < ((e1 : Nat) : Int)) then
        bif x8.2.2.2.1 then
          some (.inl (x8.1, x8.2.1, x8.2.2.1, true, x8.2.2.2.2.1, wrap64 (x8.2.2.2.2.2.1 + 1), x8.2.2.2.2.2.2))
        else
        bif inB x8.2.2.2.2.2.1 e1 then
          (circle_In n (x8.1, e2.1, e2.2, x8.2.2.1)).bind fun y9 =>
          some (.inl (x8.1, x8.2.1, x8.2.2.1, y9, x8.2.2.2.2.1, wrap64 (x8.2.2.2.2.2.1 + 1), x8.2.2.2.2.2.2))
        else
        none
      else
      some (.inr (x8.1, x8.2.2.1, x8.2.2.2.1, x8.2.2.2.2.1, x8.2.2.2.2.2.2))) (z7.1, z7.2.1, z7.2.2.1, false, false, 0, z7.2.2.2)).bind fun (z10 : Int × Int × Bool × Bool × (List (Int × Int)) × List (Int × Int)) =>
      (iterL (Y := (Bool) ⊕ (Int × Bool × Bool × (List (Int × Int)) × List (Int × Int))) n (fun (x11 : Int × Int × Bool × Bool × Int × (List (Int × Int)) × List (Int × Int)) =>
        let e3 := x11.2.2.2.2.2.1.length
        let e4 := atI (0, 0) x11.2.2.2.2.2.1 x11.2.2.2.2.1
        bif decide (x11.2.2.2.2.1 < ((e3 : Nat) : Int)) then
          letJ (fun (x13 : Int × Int × Bool × Bool × Int × (List (Int × Int)) × List (Int × Int)) =>
            let e5 := x13.2.2.2.2.2.1.length
            let e6 := inB x13.2.2.2.2.1 e5
            let e7 := atI (0, 0) x13.2.2.2.2.2.1 x13.2.2.2.2.1
            let e8 := e7.1
            let e9 := wrap64 (x13.2.2.2.2.1 - 1)
            let e10 := inB e9 e5
            let e11 := atI (0, 0) x13.2.2.2.2.2.1 e9
            letJ (fun (x15 : Int × Int × Bool × Bool × Int × Bool × (List (Int × Int)) × List (Int × Int)) =>
              bif x15.2.2.2.2.2.1 then
                some (.inr (.inl false))
              else
              some (.inl (x15.1, x15.2.1, x15.2.2.1, x15.2.2.2.1, wrap64 (x15.2.2.2.2.1 + 1), x15.2.2.2.2.2.2))) fun J16 =>
            bif e6 then
              bif decide (e8 < 0) then
                J16 (x13.1, x13.2.1, x13.2.2.1, x13.2.2.2.1, x13.2.2.2.2.1, true, x13.2.2.2.2.2)
              else
              bif e6 then
                bif decide (x13.1 ≤ e8) then
                  J16 (x13.1, x13.2.1, x13.2.2.1, x13.2.2.2.1, x13.2.2.2.2.1, true, x13.2.2.2.2.2)
                else
                bif e6 then
                  bif decide (e7.2 < 1) then
                    J16 (x13.1, x13.2.1, x13.2.2.1, x13.2.2.2.1, x13.2.2.2.2.1, true, x13.2.2.2.2.2)
                  else
                  bif decide (0 < x13.2.2.2.2.1) then
                    bif e6 then
                      bif e10 then
                        bif e10 then
                          J16 (x13.1, x13.2.1, x13.2.2.1, x13.2.2.2.1, x13.2.2.2.2.1, decide (e8 ≤ wrap64 (e11.1 + e11.2)), x13.2.2.2.2.2)
                        else
                        none
                      else
                      none
                    else
                    none
                  else
                  J16 (x13.1, x13.2.1, x13.2.2.1, x13.2.2.2.1, x13.2.2.2.2.1, false, x13.2.2.2.2.2)
                else
                none
              else
              none
            else
            none) fun J14 =>
          bif x11.2.2.2.1 then
            J14 (x11.1, x11.2.1, x11.2.2.1, true, x11.2.2.2.2)
          else
          bif inB x11.2.2.2.2.1 e3 then
            (circle_In n (x11.1, e4.1, e4.2, x11.2.1)).bind fun y12 =>
            J14 (x11.1, x11.2.1, x11.2.2.1, y12, x11.2.2.2.2)
          else
          none
        else
        some (.inr (.inr (x11.1, x11.2.2.1, x11.2.2.2.1, x11.2.2.2.2.2)))) (z10.1, z10.2.1, z10.2.2.1, z10.2.2.2.1, 0, z10.2.2.2.2)).bind (Sum.elim (fun (z17 : Bool) =>
        some z17) (fun (z18 : Int × Bool × Bool × (List (Int × Int)) × List (Int × Int)) =>
        bif z18.2.1 == z18.2.2.1 then
          (circle_Set n (z18.1, z18.2.2.2.2)).bind fun y19 =>
          (ref03_Same n (y19, z18.2.2.2.1)).bind fun y20 =>
          bif y20 then
            (law03_awake n ()).bind fun y21 =>
            some y21
          else
          some false
        else
        some false))
def p_law03_CircleForm : Plan := .two (.leaf) (.two (.leaf) (.two (.leaf) (.two (.leaf) (.two (.leaf) (.two (.two (.leaf) (.one (.loop ⟨slotsOf 135 [(0, .c (.hole (.int .i64))), (1, .c (.hole (.sl 23))), (2, .c (.hole (.int .i64))), (7, .c (.row 12100)), (8, .c (.row 41)), (9, .c (.hole (.int .i64)))], [], [(12100, 23), (41, 23)]⟩ [(.exit 0, ⟨slotsOf 135 [(0, .c (.hole (.int .i64))), (1, .c (.hole (.sl 23))), (2, .c (.hole (.int .i64))), (7, .c (.row 12100)), (8, .c (.row 41))], [], [(12100, 23), (41, 23)]⟩)] (.leaf)))) (.two (.leaf) (.two (.two (.leaf) (.one (.loop ⟨slotsOf 135 [(0, .c (.hole (.int .i64))), (1, .c (.hole (.sl 23))), (2, .c (.hole (.int .i64))), (7, .c (.row 12100)), (8, .c (.row 41)), (10, .c (.hole (.bool))), (11, .c (.hole (.bool))), (12, .c (.hole (.int .i64)))], [], [(12100, 23), (41, 23)]⟩ [(.exit 2, ⟨slotsOf 135 [(0, .c (.hole (.int .i64))), (2, .c (.hole (.int .i64))), (7, .c (.row 12100)), (8, .c (.row 41)), (10, .c (.hole (.bool))), (11, .c (.hole (.bool)))], [], [(12100, 23), (41, 23)]⟩)] (.leaf)))) (.two (.two (.leaf) (.one (.loop ⟨slotsOf 135 [(0, .c (.hole (.int .i64))), (2, .c (.hole (.int .i64))), (7, .c (.row 12100)), (8, .c (.row 41)), (10, .c (.hole (.bool))), (11, .c (.hole (.bool))), (13, .c (.hole (.int .i64)))], [], [(12100, 23), (41, 23)]⟩ [(.ret, ⟨slotsOf 135 [(6, .c (.hole (.bool)))], [], []⟩), (.exit 4, ⟨slotsOf 135 [(0, .c (.hole (.int .i64))), (7, .c (.row 12100)), (8, .c (.row 41)), (10, .c (.hole (.bool))), (11, .c (.hole (.bool)))], [], [(12100, 23), (41, 23)]⟩)] (.two (.leaf) (.two (.one (.two (.join ⟨slotsOf 135 [(0, .c (.hole (.int .i64))), (2, .c (.hole (.int .i64))), (7, .c (.row 12100)), (8, .c (.row 41)), (10, .c (.hole (.bool))), (11, .c (.hole (.bool))), (13, .c (.hole (.int .i64)))], [], [(12100, 23), (41, 23)]⟩ (.leaf)) (.two (.join ⟨slotsOf 135 [(0, .c (.hole (.int .i64))), (2, .c (.hole (.int .i64))), (7, .c (.row 12100)), (8, .c (.row 41)), (10, .c (.hole (.bool))), (11, .c (.hole (.bool))), (13, .c (.hole (.int .i64))), (121, .c (.hole (.bool)))], [], [(12100, 23), (41, 23)]⟩ (.leaf)) (.leaf)))) (.leaf)))))) (.leaf)))))))))
noncomputable def c_law03_CircleForm (n : Nat) : Cx := ⟨Go.Proofs.Try.prog, Θ, [23, 68], [(14, ⟨h_law03_few, o_law03_few, law03_few n⟩), (17, ⟨h_circle_In, o_circle_In, circle_In n⟩), (22, ⟨h_circle_Set, o_circle_Set, circle_Set n⟩), (23, ⟨h_ref03_Same, o_ref03_Same, ref03_Same n⟩), (21, ⟨h_law03_awake, o_law03_awake, law03_awake n⟩)], [], []⟩
theorem d_law03_CircleForm (n : Nat) (x : h_law03_CircleForm.X T) : denF (c_law03_CircleForm n) n Go.Proofs.Try.f4 p_law03_CircleForm h_law03_CircleForm o_law03_CircleForm x = law03_CircleForm n x := by kernel_rfl
theorem s_law03_CircleForm (n : Nat) : PCalls Go.Proofs.Try.prog Θ 4 ⟨h_law03_CircleForm, o_law03_CircleForm, law03_CircleForm n⟩ :=
  func_ok' (C := c_law03_CircleForm n) (n := n) (p := p_law03_CircleForm) (ok_of mixed eqsOk ⟨s_law03_few n, s_circle_In n, s_circle_Set n, s_ref03_Same n, s_law03_awake n, trivial⟩ trivial trivial) Go.Proofs.Try.func4 (by kernel_rfl) (by kernel_rfl) (d_law03_CircleForm n) (by kernel_rfl)

/-- carrefour/circle.Turn -/
def h_circle_Turn : Shape := ⟨slotsOf 3 [(0, .c (.hole (.int .i64))), (1, .c (.hole (.sl 23))), (2, .c (.hole (.int .i64)))], [], []⟩
def o_circle_Turn : List (Ex × Shape) := [(.ret, ⟨slotsOf 1 [(0, .c (.row 0))], [], [(0, 23)]⟩)]
noncomputable def circle_Turn (n : Nat) (x0 : Int × (List (Int × Int)) × Int) : Option (List (Int × Int)) :=
  (iterL (Y := (Int × List (Int × Int))) n (fun (x4 : Int × Int × (List (Int × Int)) × Int × Int × List (Int × Int)) =>
    bif decide (x4.2.2.2.2.1 < x4.2.2.2.1) then
      bif inB x4.2.2.2.2.1 x4.2.2.1.length then
        (circle_Norm n (x4.1, atI (0, 0) x4.2.2.1 x4.2.2.2.2.1)).bind fun y5 =>
        (circle_modulo n (x4.2.1, mx x4.1 1)).bind fun y6 =>
        let e0 := (wrap64 (y5.1 + y6), y5.2) :: []
        bif fitB (x4.2.2.2.2.2.length + e0.length) 16 then
          some (.inl (x4.1, x4.2.1, x4.2.2.1, x4.2.2.2.1, wrap64 (x4.2.2.2.2.1 + 1), x4.2.2.2.2.2 ++ e0))
        else
        none
      else
      none
    else
    some (.inr (x4.1, x4.2.2.2.2.2))) (x0.1, x0.2.2, x0.2.1, ((x0.2.1.length : Nat) : Int), 0, [])).bind fun (z7 : Int × List (Int × Int)) =>
    (circle_Set n z7).bind fun y8 =>
    some y8
def p_circle_Turn : Plan := .two (.leaf) (.two (.leaf) (.two (.two (.leaf) (.one (.loop ⟨slotsOf 36 [(0, .c (.hole (.int .i64))), (2, .c (.hole (.int .i64))), (7, .c (.row 31)), (10, .c (.hole (.sl 23))), (11, .c (.hole (.int .i64))), (12, .c (.hole (.int .i64)))], [], [(31, 23)]⟩ [(.exit 0, ⟨slotsOf 36 [(0, .c (.hole (.int .i64))), (7, .c (.row 31))], [], [(31, 23)]⟩)] (.leaf)))) (.leaf)))
noncomputable def c_circle_Turn (n : Nat) : Cx := ⟨Go.Proofs.Try.prog, Θ, [23, 68], [(50, ⟨h_circle_modulo, o_circle_modulo, circle_modulo n⟩), (15, ⟨h_circle_Norm, o_circle_Norm, circle_Norm n⟩), (22, ⟨h_circle_Set, o_circle_Set, circle_Set n⟩)], [], []⟩
theorem d_circle_Turn (n : Nat) (x : h_circle_Turn.X T) : denF (c_circle_Turn n) n Go.Proofs.Try.f24 p_circle_Turn h_circle_Turn o_circle_Turn x = circle_Turn n x := by kernel_rfl
theorem s_circle_Turn (n : Nat) : PCalls Go.Proofs.Try.prog Θ 24 ⟨h_circle_Turn, o_circle_Turn, circle_Turn n⟩ :=
  func_ok' (C := c_circle_Turn n) (n := n) (p := p_circle_Turn) (ok_of mixed eqsOk ⟨s_circle_modulo n, s_circle_Norm n, s_circle_Set n, trivial⟩ trivial trivial) Go.Proofs.Try.func24 (by kernel_rfl) (by kernel_rfl) (d_circle_Turn n) (by kernel_rfl)

/-- carrefour/carrefourref03.Turn -/
def h_ref03_Turn : Shape := ⟨slotsOf 3 [(0, .c (.hole (.int .i64))), (1, .c (.hole (.sl 23))), (2, .c (.hole (.int .i64)))], [], []⟩
def o_ref03_Turn : List (Ex × Shape) := [(.ret, ⟨slotsOf 1 [(0, .c (.hole (.sl 23)))], [], []⟩)]
def ref03_Turn (n : Nat) (x0 : Int × (List (Int × Int)) × Int) : Option (List (Int × Int)) :=
  (ref03_Ticks n (x0.1, x0.2.1)).bind fun y1 =>
  let e0 := ((y1.length : Nat) : Int)
  bif e0 == e0 && decide (0 ≤ e0) && decide (e0 * 1 ≤ 281474976710656) then
    (iterL (Y := (List Bool)) n (fun (x2 : Int × Int × Int × (List Bool) × List Bool) =>
      let e1 := x2.2.2.2.1.length
      bif decide (x2.2.2.1 < ((e1 : Nat) : Int)) then
        (ref03_Mod n (x2.2.1, x2.1)).bind fun y3 =>
        (ref03_Mod n (wrap64 (x2.2.2.1 + y3), x2.1)).bind fun y4 =>
        bif inB x2.2.2.1 e1 then
          bif inB y4 x2.2.2.2.2.length then
            some (.inl (x2.1, x2.2.1, wrap64 (x2.2.2.1 + 1), x2.2.2.2.1, List.set x2.2.2.2.2 (Int.toNat y4) (atI false x2.2.2.2.1 x2.2.2.1)))
          else
          none
        else
        none
      else
      some (.inr x2.2.2.2.2)) (x0.1, x0.2.2, 0, y1, List.replicate (Int.toNat e0) false)).bind fun (z5 : List Bool) =>
      (ref03_Form n z5).bind fun y6 =>
      some y6
  else
  none
def p_ref03_Turn : Plan := .two (.leaf) (.two (.leaf) (.two (.leaf) (.two (.two (.leaf) (.one (.loop ⟨slotsOf 37 [(0, .c (.hole (.int .i64))), (2, .c (.hole (.int .i64))), (7, .c (.row 11200)), (8, .c (.row 15)), (9, .c (.hole (.int .i64)))], [], [(11200, 4), (15, 4)]⟩ [(.exit 0, ⟨slotsOf 37 [(8, .c (.row 15))], [], [(15, 4)]⟩)] (.leaf)))) (.leaf))))
noncomputable def c_ref03_Turn (n : Nat) : Cx := ⟨Go.Proofs.Try.prog, Θ, [23, 68], [(28, ⟨h_ref03_Mod, o_ref03_Mod, ref03_Mod n⟩), (52, ⟨h_ref03_Ticks, o_ref03_Ticks, ref03_Ticks n⟩), (51, ⟨h_ref03_Form, o_ref03_Form, ref03_Form n⟩)], [], []⟩
theorem d_ref03_Turn (n : Nat) (x : h_ref03_Turn.X T) : denF (c_ref03_Turn n) n Go.Proofs.Try.f25 p_ref03_Turn h_ref03_Turn o_ref03_Turn x = ref03_Turn n x := by kernel_rfl
theorem s_ref03_Turn (n : Nat) : PCalls Go.Proofs.Try.prog Θ 25 ⟨h_ref03_Turn, o_ref03_Turn, ref03_Turn n⟩ :=
  func_ok' (C := c_ref03_Turn n) (n := n) (p := p_ref03_Turn) (ok_of mixed eqsOk ⟨s_ref03_Mod n, s_ref03_Ticks n, s_ref03_Form n, trivial⟩ trivial trivial) Go.Proofs.Try.func25 (by kernel_rfl) (by kernel_rfl) (d_ref03_Turn n) (by kernel_rfl)

/-- carrefour/circle.Total -/
def h_circle_Total : Shape := ⟨slotsOf 2 [(0, .c (.hole (.int .i64))), (1, .c (.hole (.sl 23)))], [], []⟩
def o_circle_Total : List (Ex × Shape) := [(.ret, ⟨slotsOf 1 [(0, .c (.hole (.int .i64)))], [], []⟩)]
noncomputable def circle_Total (n : Nat) (x0 : Int × List (Int × Int)) : Option (Int) :=
  (circle_pieces n x0).bind fun y1 =>
  (iterL (Y := (Int)) n (fun (x2 : Int × Int × Int × List (Int × Int)) =>
    let e0 := atI (0, 0) x2.2.2.2 x2.2.2.1
    bif decide (x2.2.2.1 < x2.2.1) then
      bif inB x2.2.2.1 x2.2.2.2.length then
        some (.inl (wrap64 (x2.1 + (wrap64 (e0.2 - e0.1))), x2.2.1, wrap64 (x2.2.2.1 + 1), x2.2.2.2))
      else
      none
    else
    some (.inr x2.1)) (0, ((y1.length : Nat) : Int), 0, y1)).bind fun (z3 : Int) =>
    some z3
def p_circle_Total : Plan := .two (.leaf) (.two (.leaf) (.two (.two (.leaf) (.one (.loop ⟨slotsOf 25 [(5, .c (.hole (.int .i64))), (10, .c (.row 11000)), (11, .c (.hole (.int .i64))), (12, .c (.hole (.int .i64)))], [], [(11000, 68)]⟩ [(.exit 0, ⟨slotsOf 25 [(5, .c (.hole (.int .i64)))], [], []⟩)] (.leaf)))) (.leaf)))
noncomputable def c_circle_Total (n : Nat) : Cx := ⟨Go.Proofs.Try.prog, Θ, [23, 68], [(54, ⟨h_circle_pieces, o_circle_pieces, circle_pieces n⟩)], [], []⟩
theorem d_circle_Total (n : Nat) (x : h_circle_Total.X T) : denF (c_circle_Total n) n Go.Proofs.Try.f26 p_circle_Total h_circle_Total o_circle_Total x = circle_Total n x := by kernel_rfl
theorem s_circle_Total (n : Nat) : PCalls Go.Proofs.Try.prog Θ 26 ⟨h_circle_Total, o_circle_Total, circle_Total n⟩ :=
  func_ok' (C := c_circle_Total n) (n := n) (p := p_circle_Total) (ok_of mixed eqsOk ⟨s_circle_pieces n, trivial⟩ trivial trivial) Go.Proofs.Try.func26 (by kernel_rfl) (by kernel_rfl) (d_circle_Total n) (by kernel_rfl)

/-- carrefour/carrefourlaw03.CircleTurns -/
def h_law03_CircleTurns : Shape := ⟨slotsOf 3 [(0, .c (.hole (.int .i64))), (1, .c (.hole (.sl 23))), (2, .agg [.hole (.int .i64), .hole (.int .i64)])], [], []⟩
def o_law03_CircleTurns : List (Ex × Shape) := [(.ret, ⟨slotsOf 1 [(0, .c (.hole (.bool)))], [], []⟩)]
noncomputable def law03_CircleTurns (n : Nat) (x0 : Int × (List (Int × Int)) × Int × Int) : Option (Bool) :=
  let e0 := inB 0 2
  let e1 := inB 1 2
  (law03_few n (x0.1, x0.2.1 :: [])).bind fun y1 =>
  bif !y1 then
    some true
  else
  bif e0 then
    (circle_Turn n (x0.1, x0.2.1, x0.2.2.1)).bind fun y2 =>
    letJ (fun (x7 : Int × (List (Int × Int)) × Bool × Int × Int × List (Int × Int)) =>
      bif x7.2.2.1 then
        some false
      else
      (ref03_Cycle n x7.1).bind fun y9 =>
      bif !y9 then
        bif ((x7.2.2.2.2.2.length : Nat) : Int) == 0 then
          (law03_awake n ()).bind fun y10 =>
          some y10
        else
        some false
      else
        bif e0 then
          (ref03_Mod n (x7.2.2.2.1, x7.1)).bind fun y11 =>
          bif e1 then
            (ref03_Mod n (x7.2.2.2.2.1, x7.1)).bind fun y12 =>
            bif !(x7.1 == 0) then
              bif e1 then
                (circle_Turn n (x7.1, x7.2.2.2.2.2, x7.2.2.2.2.1)).bind fun y13 =>
                (circle_Turn n (x7.1, x7.2.1, Int.tmod (wrap64 (y11 + y12)) x7.1)).bind fun y14 =>
                (ref03_Same n (y13, y14)).bind fun y15 =>
                bif y15 then
                  (law03_awake n ()).bind fun y16 =>
                  some y16
                else
                some false
              else
              none
            else
            none
          else
          none
        else
        none) fun J8 =>
    bif e0 then
      (ref03_Turn n (x0.1, x0.2.1, x0.2.2.1)).bind fun y3 =>
      (ref03_Same n (y2, y3)).bind fun y4 =>
      bif !y4 then
        J8 (x0.1, x0.2.1, true, x0.2.2.1, x0.2.2.2, y2)
      else
      (circle_Total n (x0.1, y2)).bind fun y5 =>
      (circle_Total n (x0.1, x0.2.1)).bind fun y6 =>
      J8 (x0.1, x0.2.1, !(y5 == y6), x0.2.2.1, x0.2.2.2, y2)
    else
    none
  else
  none
def p_law03_CircleTurns : Plan := .two (.leaf) (.two (.leaf) (.two (.leaf) (.two (.two (.join ⟨slotsOf 69 [(0, .c (.hole (.int .i64))), (1, .c (.hole (.sl 23))), (5, .c (.box 5 0)), (7, .c (.row 11800)), (35, .c (.hole (.bool)))], [(5, 35, [.hole (.int .i64), .hole (.int .i64)])], [(11800, 23)]⟩ (.leaf)) (.leaf)) (.leaf))))
noncomputable def c_law03_CircleTurns (n : Nat) : Cx := ⟨Go.Proofs.Try.prog, Θ, [23, 68], [(14, ⟨h_law03_few, o_law03_few, law03_few n⟩), (27, ⟨h_ref03_Cycle, o_ref03_Cycle, ref03_Cycle n⟩), (28, ⟨h_ref03_Mod, o_ref03_Mod, ref03_Mod n⟩), (23, ⟨h_ref03_Same, o_ref03_Same, ref03_Same n⟩), (21, ⟨h_law03_awake, o_law03_awake, law03_awake n⟩), (24, ⟨h_circle_Turn, o_circle_Turn, circle_Turn n⟩), (25, ⟨h_ref03_Turn, o_ref03_Turn, ref03_Turn n⟩), (26, ⟨h_circle_Total, o_circle_Total, circle_Total n⟩)], [], []⟩
theorem d_law03_CircleTurns (n : Nat) (x : h_law03_CircleTurns.X T) : denF (c_law03_CircleTurns n) n Go.Proofs.Try.f5 p_law03_CircleTurns h_law03_CircleTurns o_law03_CircleTurns x = law03_CircleTurns n x := by kernel_rfl
theorem s_law03_CircleTurns (n : Nat) : PCalls Go.Proofs.Try.prog Θ 5 ⟨h_law03_CircleTurns, o_law03_CircleTurns, law03_CircleTurns n⟩ :=
  func_ok' (C := c_law03_CircleTurns n) (n := n) (p := p_law03_CircleTurns) (ok_of mixed eqsOk ⟨s_law03_few n, s_ref03_Cycle n, s_ref03_Mod n, s_ref03_Same n, s_law03_awake n, s_circle_Turn n, s_ref03_Turn n, s_circle_Total n, trivial⟩ trivial trivial) Go.Proofs.Try.func5 (by kernel_rfl) (by kernel_rfl) (d_law03_CircleTurns n) (by kernel_rfl)

/-- cmp.isNaN[int64] -/
def h_cmp_isNaN : Shape := ⟨slotsOf 1 [(0, .c (.hole (.int .i64)))], [], []⟩
def o_cmp_isNaN : List (Ex × Shape) := [(.ret, ⟨slotsOf 1 [(0, .c (.hole (.bool)))], [], []⟩)]
def cmp_isNaN (n : Nat) (x0 : Int) : Option (Bool) :=
  some (!(x0 == x0))
def p_cmp_isNaN : Plan := .leaf
noncomputable def c_cmp_isNaN (n : Nat) : Cx := ⟨Go.Proofs.Try.prog, Θ, [23, 68], [], [], []⟩
theorem d_cmp_isNaN (n : Nat) (x : h_cmp_isNaN.X T) : denF (c_cmp_isNaN n) n Go.Proofs.Try.f73 p_cmp_isNaN h_cmp_isNaN o_cmp_isNaN x = cmp_isNaN n x := by kernel_rfl
theorem s_cmp_isNaN (n : Nat) : PCalls Go.Proofs.Try.prog Θ 73 ⟨h_cmp_isNaN, o_cmp_isNaN, cmp_isNaN n⟩ :=
  func_ok' (C := c_cmp_isNaN n) (n := n) (p := p_cmp_isNaN) (ok_of mixed eqsOk trivial trivial trivial) Go.Proofs.Try.func73 (by kernel_rfl) (by kernel_rfl) (d_cmp_isNaN n) (by kernel_rfl)

/-- cmp.Compare[int64] -/
def h_cmp_Compare : Shape := ⟨slotsOf 2 [(0, .c (.hole (.int .i64))), (1, .c (.hole (.int .i64)))], [], []⟩
def o_cmp_Compare : List (Ex × Shape) := [(.ret, ⟨slotsOf 1 [(0, .c (.hole (.int .i64)))], [], []⟩)]
def cmp_Compare (n : Nat) (x0 : Int × Int) : Option (Int) :=
  (cmp_isNaN n x0.1).bind fun y1 =>
  (cmp_isNaN n x0.2).bind fun y2 =>
  bif y1 then
    bif y2 then
      some 0
    else
    some (-1)
  else
    bif y2 then
      some 1
    else
    bif decide (x0.1 < x0.2) then
      some (-1)
    else
    bif decide (x0.2 < x0.1) then
      some 1
    else
    some 0
def p_cmp_Compare : Plan := .leaf
noncomputable def c_cmp_Compare (n : Nat) : Cx := ⟨Go.Proofs.Try.prog, Θ, [23, 68], [(73, ⟨h_cmp_isNaN, o_cmp_isNaN, cmp_isNaN n⟩)], [], []⟩
theorem d_cmp_Compare (n : Nat) (x : h_cmp_Compare.X T) : denF (c_cmp_Compare n) n Go.Proofs.Try.f57 p_cmp_Compare h_cmp_Compare o_cmp_Compare x = cmp_Compare n x := by kernel_rfl
theorem s_cmp_Compare (n : Nat) : PCalls Go.Proofs.Try.prog Θ 57 ⟨h_cmp_Compare, o_cmp_Compare, cmp_Compare n⟩ :=
  func_ok' (C := c_cmp_Compare n) (n := n) (p := p_cmp_Compare) (ok_of mixed eqsOk ⟨s_cmp_isNaN n, trivial⟩ trivial trivial) Go.Proofs.Try.func57 (by kernel_rfl) (by kernel_rfl) (d_cmp_Compare n) (by kernel_rfl)

/-- carrefour/circle.Widest$1 -/
def h_circle_Widest_1 : Shape := ⟨slotsOf 2 [(0, .agg [.hole (.int .i64), .hole (.int .i64)]), (1, .agg [.hole (.int .i64), .hole (.int .i64)])], [], []⟩
def o_circle_Widest_1 : List (Ex × Shape) := [(.ret, ⟨slotsOf 1 [(0, .c (.hole (.int .i64)))], [], []⟩)]
def circle_Widest_1 (n : Nat) (x0 : Int × Int × Int × Int) : Option (Int) :=
  (cmp_Compare n (x0.2.1, x0.2.2.2)).bind fun y1 =>
  some y1
def p_circle_Widest_1 : Plan := .leaf
noncomputable def c_circle_Widest_1 (n : Nat) : Cx := ⟨Go.Proofs.Try.prog, Θ, [23, 68], [(57, ⟨h_cmp_Compare, o_cmp_Compare, cmp_Compare n⟩)], [], []⟩
theorem d_circle_Widest_1 (n : Nat) (x : h_circle_Widest_1.X T) : denF (c_circle_Widest_1 n) n Go.Proofs.Try.f56 p_circle_Widest_1 h_circle_Widest_1 o_circle_Widest_1 x = circle_Widest_1 n x := by kernel_rfl
theorem s_circle_Widest_1 (n : Nat) : PCalls Go.Proofs.Try.prog Θ 56 ⟨h_circle_Widest_1, o_circle_Widest_1, circle_Widest_1 n⟩ :=
  func_ok' (C := c_circle_Widest_1 n) (n := n) (p := p_circle_Widest_1) (ok_of mixed eqsOk ⟨s_cmp_Compare n, trivial⟩ trivial trivial) Go.Proofs.Try.func56 (by kernel_rfl) (by kernel_rfl) (d_circle_Widest_1 n) (by kernel_rfl)

/-- slices.MaxFunc[[]carrefour/api.Arc,carrefour/api.Arc] -/
def h_slices_MaxFunc : Shape := ⟨slotsOf 2 [(0, .c (.hole (.sl 23))), (1, .c (.fn 56 []))], [], []⟩
def o_slices_MaxFunc : List (Ex × Shape) := [(.ret, ⟨slotsOf 1 [(0, .agg [.hole (.int .i64), .hole (.int .i64)])], [], []⟩)]
def slices_MaxFunc (n : Nat) (x0 : List (Int × Int)) : Option (Int × Int) :=
  let e0 := x0.length
  bif decide (((e0 : Nat) : Int) < 1) then
    none
  else
  bif inB 0 e0 then
    (iterL (Y := (Int × Int × Int × Int)) n (fun (x1 : (List (Int × Int)) × Int × Int × Int × Int × Int) =>
      let e1 := x1.1.length
      let e2 := inB x1.2.1 e1
      let e3 := atI (0, 0) x1.1 x1.2.1
      let e4 := wrap64 (x1.2.1 + 1)
      bif decide (x1.2.1 < ((e1 : Nat) : Int)) then
        bif e2 then
          (circle_Widest_1 n (e3.1, e3.2, x1.2.2.2.2)).bind fun y2 =>
          bif decide (0 < y2) then
            bif e2 then
              some (.inl (x1.1, e4, x1.2.2.1, x1.2.2.2.1, e3))
            else
            none
          else
          some (.inl (x1.1, e4, x1.2.2))
        else
        none
      else
      some (.inr x1.2.2)) (x0, 1, 0, 0, atI (0, 0) x0 0)).bind fun (z3 : Int × Int × Int × Int) =>
      some z3.2.2
  else
  none
def p_slices_MaxFunc : Plan := .two (.leaf) (.two (.leaf) (.two (.leaf) (.two (.two (.leaf) (.one (.loop ⟨slotsOf 33 [(0, .c (.hole (.sl 23))), (1, .c (.fn 56 [])), (4, .c (.box 4 0)), (5, .c (.box 5 0)), (6, .c (.hole (.int .i64)))], [(4, 23, [.hole (.int .i64), .hole (.int .i64)]), (5, 23, [.hole (.int .i64), .hole (.int .i64)])], []⟩ [(.exit 0, ⟨slotsOf 33 [(4, .c (.box 4 0)), (5, .c (.box 5 0))], [(4, 23, [.hole (.int .i64), .hole (.int .i64)]), (5, 23, [.hole (.int .i64), .hole (.int .i64)])], []⟩)] (.leaf)))) (.leaf))))
noncomputable def c_slices_MaxFunc (n : Nat) : Cx := ⟨Go.Proofs.Try.prog, Θ, [23, 68], [(56, ⟨h_circle_Widest_1, o_circle_Widest_1, circle_Widest_1 n⟩)], [], []⟩
theorem d_slices_MaxFunc (n : Nat) (x : h_slices_MaxFunc.X T) : denF (c_slices_MaxFunc n) n Go.Proofs.Try.f55 p_slices_MaxFunc h_slices_MaxFunc o_slices_MaxFunc x = slices_MaxFunc n x := by kernel_rfl
theorem s_slices_MaxFunc (n : Nat) : PCalls Go.Proofs.Try.prog Θ 55 ⟨h_slices_MaxFunc, o_slices_MaxFunc, slices_MaxFunc n⟩ :=
  func_ok' (C := c_slices_MaxFunc n) (n := n) (p := p_slices_MaxFunc) (ok_of mixed eqsOk ⟨s_circle_Widest_1 n, trivial⟩ trivial trivial) Go.Proofs.Try.func55 (by kernel_rfl) (by kernel_rfl) (d_slices_MaxFunc n) (by kernel_rfl)

/-- carrefour/circle.Widest -/
def h_circle_Widest : Shape := ⟨slotsOf 2 [(0, .c (.hole (.int .i64))), (1, .c (.hole (.sl 23)))], [], []⟩
def o_circle_Widest : List (Ex × Shape) := [(.ret, ⟨slotsOf 1 [(0, .agg [.hole (.int .i64), .hole (.int .i64)])], [], []⟩)]
noncomputable def circle_Widest (n : Nat) (x0 : Int × List (Int × Int)) : Option (Int × Int) :=
  (circle_Set n x0).bind fun y1 =>
  bif ((y1.length : Nat) : Int) == 0 then
    some (0, 0)
  else
  (slices_MaxFunc n y1).bind fun y2 =>
  some y2
def p_circle_Widest : Plan := .leaf
noncomputable def c_circle_Widest (n : Nat) : Cx := ⟨Go.Proofs.Try.prog, Θ, [23, 68], [(22, ⟨h_circle_Set, o_circle_Set, circle_Set n⟩), (55, ⟨h_slices_MaxFunc, o_slices_MaxFunc, slices_MaxFunc n⟩)], [], []⟩
theorem d_circle_Widest (n : Nat) (x : h_circle_Widest.X T) : denF (c_circle_Widest n) n Go.Proofs.Try.f29 p_circle_Widest h_circle_Widest o_circle_Widest x = circle_Widest n x := by kernel_rfl
theorem s_circle_Widest (n : Nat) : PCalls Go.Proofs.Try.prog Θ 29 ⟨h_circle_Widest, o_circle_Widest, circle_Widest n⟩ :=
  func_ok' (C := c_circle_Widest n) (n := n) (p := p_circle_Widest) (ok_of mixed eqsOk ⟨s_circle_Set n, s_slices_MaxFunc n, trivial⟩ trivial trivial) Go.Proofs.Try.func29 (by kernel_rfl) (by kernel_rfl) (d_circle_Widest n) (by kernel_rfl)

/-- carrefour/carrefourlaw03.CircleWidest -/
def h_law03_CircleWidest : Shape := ⟨slotsOf 3 [(0, .c (.hole (.int .i64))), (1, .c (.hole (.sl 23))), (2, .agg [.hole (.int .i64), .hole (.int .i64)])], [], []⟩
def o_law03_CircleWidest : List (Ex × Shape) := [(.ret, ⟨slotsOf 1 [(0, .c (.hole (.bool)))], [], []⟩)]
noncomputable def law03_CircleWidest (n : Nat) (x0 : Int × (List (Int × Int)) × Int × Int) : Option (Bool) :=
  (law03_few n (x0.1, x0.2.1 :: [])).bind fun y1 =>
  bif !y1 then
    some true
  else
  (circle_Widest n (x0.1, x0.2.1)).bind fun y2 =>
  (circle_Set n (x0.1, x0.2.1)).bind fun y3 =>
  letJ (fun (x4 : Int × (List (Int × Int)) × Bool × Int × Int × Int × Int × List (Int × Int)) =>
    (iterL (Y := (Bool) ⊕ (Int × (List (Int × Int)) × Bool × Int × Int × Int × Int)) n (fun (x6 : Int × (List (Int × Int)) × Bool × Int × Int × Int × Int × Int × List (Int × Int)) =>
      let e0 := x6.2.2.2.2.2.2.2.2.length
      let e1 := atI (0, 0) x6.2.2.2.2.2.2.2.2 x6.2.2.2.1
      bif decide (x6.2.2.2.1 < ((e0 : Nat) : Int)) then
        letJ (fun (x7 : Int × (List (Int × Int)) × Bool × Int × Int × Int × Int × Int × List (Int × Int)) =>
          let e2 := inB x7.2.2.2.1 x7.2.2.2.2.2.2.2.2.length
          let e3 := atI (0, 0) x7.2.2.2.2.2.2.2.2 x7.2.2.2.1
          let e4 := e3.2
          letJ (fun (x9 : Int × (List (Int × Int)) × Bool × Int × Bool × Int × Int × Int × Int × List (Int × Int)) =>
            bif x9.2.2.2.2.1 then
              some (.inr (.inl false))
            else
            some (.inl (x9.1, x9.2.1, x9.2.2.1, wrap64 (x9.2.2.2.1 + 1), x9.2.2.2.2.2))) fun J10 =>
          bif e2 then
            bif decide (x7.2.2.2.2.2.2.2.1 < e4) then
              J10 (x7.1, x7.2.1, x7.2.2.1, x7.2.2.2.1, true, x7.2.2.2.2)
            else
            bif e2 then
              bif e4 == x7.2.2.2.2.2.2.2.1 then
                bif e2 then
                  J10 (x7.1, x7.2.1, x7.2.2.1, x7.2.2.2.1, decide (e3.1 < x7.2.2.2.2.2.2.1), x7.2.2.2.2)
                else
                none
              else
              J10 (x7.1, x7.2.1, x7.2.2.1, x7.2.2.2.1, false, x7.2.2.2.2)
            else
            none
          else
          none) fun J8 =>
        bif x6.2.2.1 then
          J8 (x6.1, x6.2.1, true, x6.2.2.2)
        else
        bif inB x6.2.2.2.1 e0 then
          J8 (x6.1, x6.2.1, (e1.1 == x6.2.2.2.2.2.2.1) && ((e1.2 == x6.2.2.2.2.2.2.2.1) && true), x6.2.2.2)
        else
        none
      else
      some (.inr (.inr (x6.1, x6.2.1, x6.2.2.1, x6.2.2.2.2.1, x6.2.2.2.2.2.1, x6.2.2.2.2.2.2.1, x6.2.2.2.2.2.2.2.1)))) (x4.1, x4.2.1, x4.2.2.1, 0, x4.2.2.2)).bind (Sum.elim (fun (z11 : Bool) =>
      some z11) (fun (z12 : Int × (List (Int × Int)) × Bool × Int × Int × Int × Int) =>
      let e5 := z12.2.1.length
      let e6 := (z12.2.2.2.1, z12.2.2.2.2.1) :: []
      bif fitB e5 16 then
        bif fitB (e5 + e6.length) 16 then
          (circle_Widest n (z12.1, z12.2.1 ++ e6)).bind fun y13 =>
          letJ (fun (x16 : Bool) =>
            some x16) fun J17 =>
          bif z12.2.2.1 then
            bif decide (z12.2.2.2.2.2.2 ≤ y13.2) then
              (circle_Norm n (z12.1, z12.2.2.2.1, z12.2.2.2.2.1)).bind fun y14 =>
              bif decide (y14.2 ≤ y13.2) then
                (law03_awake n ()).bind fun y15 =>
                J17 y15
              else
              J17 false
            else
            J17 false
          else
          J17 false
        else
        none
      else
      none))) fun J5 =>
  bif ((y3.length : Nat) : Int) == 0 then
    J5 (x0.1, x0.2.1, (y2.1 == 0) && ((y2.2 == 0) && true), x0.2.2.1, x0.2.2.2, y2.1, y2.2, y3)
  else
  J5 (x0.1, x0.2.1, false, x0.2.2.1, x0.2.2.2, y2.1, y2.2, y3)
def p_law03_CircleWidest : Plan := .two (.leaf) (.two (.leaf) (.two (.leaf) (.two (.leaf) (.two (.join ⟨slotsOf 102 [(0, .c (.hole (.int .i64))), (1, .c (.hole (.sl 23))), (5, .c (.box 5 0)), (7, .c (.box 7 0)), (8, .c (.row 12200)), (9, .c (.hole (.bool)))], [(5, 23, [.hole (.int .i64), .hole (.int .i64)]), (7, 23, [.hole (.int .i64), .hole (.int .i64)])], [(12200, 23)]⟩ (.leaf)) (.two (.two (.leaf) (.one (.loop ⟨slotsOf 102 [(0, .c (.hole (.int .i64))), (1, .c (.hole (.sl 23))), (5, .c (.box 5 0)), (7, .c (.box 7 0)), (8, .c (.row 12200)), (9, .c (.hole (.bool))), (10, .c (.hole (.int .i64)))], [(5, 23, [.hole (.int .i64), .hole (.int .i64)]), (7, 23, [.hole (.int .i64), .hole (.int .i64)])], [(12200, 23)]⟩ [(.ret, ⟨slotsOf 102 [(6, .c (.hole (.bool)))], [], []⟩), (.exit 0, ⟨slotsOf 102 [(0, .c (.hole (.int .i64))), (1, .c (.hole (.sl 23))), (5, .c (.box 5 0)), (7, .c (.box 7 0)), (9, .c (.hole (.bool)))], [(5, 23, [.hole (.int .i64), .hole (.int .i64)]), (7, 23, [.hole (.int .i64), .hole (.int .i64)])], []⟩)] (.two (.leaf) (.two (.one (.two (.join ⟨slotsOf 102 [(0, .c (.hole (.int .i64))), (1, .c (.hole (.sl 23))), (5, .c (.box 5 0)), (7, .c (.box 7 0)), (8, .c (.row 12200)), (9, .c (.hole (.bool))), (10, .c (.hole (.int .i64)))], [(5, 23, [.hole (.int .i64), .hole (.int .i64)]), (7, 23, [.hole (.int .i64), .hole (.int .i64)])], [(12200, 23)]⟩ (.leaf)) (.two (.join ⟨slotsOf 102 [(0, .c (.hole (.int .i64))), (1, .c (.hole (.sl 23))), (5, .c (.box 5 0)), (7, .c (.box 7 0)), (8, .c (.row 12200)), (9, .c (.hole (.bool))), (10, .c (.hole (.int .i64))), (73, .c (.hole (.bool)))], [(5, 23, [.hole (.int .i64), .hole (.int .i64)]), (7, 23, [.hole (.int .i64), .hole (.int .i64)])], [(12200, 23)]⟩ (.leaf)) (.leaf)))) (.leaf)))))) (.two (.leaf) (.two (.join ⟨slotsOf 102 [(6, .c (.hole (.bool)))], [], []⟩ (.leaf)) (.leaf))))))))
noncomputable def c_law03_CircleWidest (n : Nat) : Cx := ⟨Go.Proofs.Try.prog, Θ, [23, 68], [(14, ⟨h_law03_few, o_law03_few, law03_few n⟩), (15, ⟨h_circle_Norm, o_circle_Norm, circle_Norm n⟩), (22, ⟨h_circle_Set, o_circle_Set, circle_Set n⟩), (21, ⟨h_law03_awake, o_law03_awake, law03_awake n⟩), (29, ⟨h_circle_Widest, o_circle_Widest, circle_Widest n⟩)], [], []⟩
theorem d_law03_CircleWidest (n : Nat) (x : h_law03_CircleWidest.X T) : denF (c_law03_CircleWidest n) n Go.Proofs.Try.f6 p_law03_CircleWidest h_law03_CircleWidest o_law03_CircleWidest x = law03_CircleWidest n x := by kernel_rfl
theorem s_law03_CircleWidest (n : Nat) : PCalls Go.Proofs.Try.prog Θ 6 ⟨h_law03_CircleWidest, o_law03_CircleWidest, law03_CircleWidest n⟩ :=
  func_ok' (C := c_law03_CircleWidest n) (n := n) (p := p_law03_CircleWidest) (ok_of mixed eqsOk ⟨s_law03_few n, s_circle_Norm n, s_circle_Set n, s_law03_awake n, s_circle_Widest n, trivial⟩ trivial trivial) Go.Proofs.Try.func6 (by kernel_rfl) (by kernel_rfl) (d_law03_CircleWidest n) (by kernel_rfl)

/-- carrefour/circle.common -/
def h_circle_common : Shape := ⟨slotsOf 2 [(0, .c (.hole (.sl 68))), (1, .c (.hole (.sl 68)))], [], []⟩
def o_circle_common : List (Ex × Shape) := [(.ret, ⟨slotsOf 1 [(0, .c (.row 0))], [], [(0, 68)]⟩)]
def circle_common (n : Nat) (x0 : (List (Int × Int)) × List (Int × Int)) : Option (List (Int × Int)) :=
  (iterL (Y := (List (Int × Int))) n (fun (x6 : (List (Int × Int)) × (List (Int × Int)) × List (Int × Int)) =>
    letJ (fun (x7 : (List (Int × Int)) × (List (Int × Int)) × Bool × List (Int × Int)) =>
      let e0 := inB 0 x7.1.length
      let e1 := inB 0 x7.2.1.length
      let e2 := atI (0, 0) x7.1 0
      let e3 := atI (0, 0) x7.2.1 0
      let e4 := mx e2.1 e3.1
      let e5 := mn e2.2 e3.2
      let e6 := (e4, e5) :: []
      bif x7.2.2.1 then
        bif e0 then
          bif e1 then
            bif e0 then
              bif e1 then
                letJ (fun (x9 : (List (Int × Int)) × (List (Int × Int)) × List (Int × Int)) =>
                  let e7 := x9.1.length
                  let e8 := x9.2.1.length
                  bif inB 0 e7 then
                    bif inB 0 e8 then
                      bif decide ((atI (0, 0) x9.1 0).2 < (atI (0, 0) x9.2.1 0).2) then
                        bif cutOk (some 1) none e7 then
                          some (.inl (cutList (some 1) none x9.1, x9.2))
                        else
                        none
                      else
                        bif cutOk (some 1) none e8 then
                          some (.inl (x9.1, cutList (some 1) none x9.2.1, x9.2.2))
                        else
                        none
                    else
                    none
                  else
                  none) fun J10 =>
                bif decide (e4 < e5) then
                  bif fitB (x7.2.2.2.length + e6.length) 16 then
                    J10 (x7.1, x7.2.1, x7.2.2.2 ++ e6)
                  else
                  none
                else
                J10 (x7.1, x7.2.1, x7.2.2.2)
              else
              none
            else
            none
          else
          none
        else
        none
      else
      some (.inr x7.2.2.2)) fun J8 =>
    bif decide (0 < ((x6.1.length : Nat) : Int)) then
      J8 (x6.1, x6.2.1, decide (0 < ((x6.2.1.length : Nat) : Int)), x6.2.2)
    else
    J8 (x6.1, x6.2.1, false, x6.2.2)) (x0.1, x0.2, [])).bind fun (z11 : List (Int × Int)) =>
    some z11
def p_circle_common : Plan := .two (.leaf) (.two (.leaf) (.two (.one (.loop ⟨slotsOf 57 [(0, .c (.hole (.sl 68))), (1, .c (.hole (.sl 68))), (5, .c (.row 42))], [], [(42, 68)]⟩ [(.exit 0, ⟨slotsOf 57 [(5, .c (.row 42))], [], [(42, 68)]⟩)] (.two (.two (.join ⟨slotsOf 57 [(0, .c (.hole (.sl 68))), (1, .c (.hole (.sl 68))), (5, .c (.row 42)), (15, .c (.hole (.bool)))], [], [(42, 68)]⟩ (.leaf)) (.leaf)) (.one (.two (.leaf) (.two (.join ⟨slotsOf 57 [(0, .c (.hole (.sl 68))), (1, .c (.hole (.sl 68))), (5, .c (.row 42))], [], [(42, 68)]⟩ (.leaf)) (.leaf))))))) (.leaf)))
noncomputable def c_circle_common (n : Nat) : Cx := ⟨Go.Proofs.Try.prog, Θ, [23, 68], [], [], []⟩
theorem d_circle_common (n : Nat) (x : h_circle_common.X T) : denF (c_circle_common n) n Go.Proofs.Try.f58 p_circle_common h_circle_common o_circle_common x = circle_common n x := by kernel_rfl
theorem s_circle_common (n : Nat) : PCalls Go.Proofs.Try.prog Θ 58 ⟨h_circle_common, o_circle_common, circle_common n⟩ :=
  func_ok' (C := c_circle_common n) (n := n) (p := p_circle_common) (ok_of mixed eqsOk trivial trivial trivial) Go.Proofs.Try.func58 (by kernel_rfl) (by kernel_rfl) (d_circle_common n) (by kernel_rfl)

/-- carrefour/circle.Meet -/
def h_circle_Meet : Shape := ⟨slotsOf 3 [(0, .c (.hole (.int .i64))), (1, .c (.hole (.sl 23))), (2, .c (.hole (.sl 23)))], [], []⟩
def o_circle_Meet : List (Ex × Shape) := [(.ret, ⟨slotsOf 1 [(0, .c (.row 0))], [], [(0, 23)]⟩)]
noncomputable def circle_Meet (n : Nat) (x0 : Int × (List (Int × Int)) × List (Int × Int)) : Option (List (Int × Int)) :=
  (circle_pieces n (x0.1, x0.2.1)).bind fun y1 =>
  (circle_pieces n (x0.1, x0.2.2)).bind fun y2 =>
  (circle_common n (y1, y2)).bind fun y3 =>
  (circle_arcs n (x0.1, y3)).bind fun y4 =>
  some y4
def p_circle_Meet : Plan := .leaf
noncomputable def c_circle_Meet (n : Nat) : Cx := ⟨Go.Proofs.Try.prog, Θ, [23, 68], [(54, ⟨h_circle_pieces, o_circle_pieces, circle_pieces n⟩), (53, ⟨h_circle_arcs, o_circle_arcs, circle_arcs n⟩), (58, ⟨h_circle_common, o_circle_common, circle_common n⟩)], [], []⟩
theorem d_circle_Meet (n : Nat) (x : h_circle_Meet.X T) : denF (c_circle_Meet n) n Go.Proofs.Try.f30 p_circle_Meet h_circle_Meet o_circle_Meet x = circle_Meet n x := by kernel_rfl
theorem s_circle_Meet (n : Nat) : PCalls Go.Proofs.Try.prog Θ 30 ⟨h_circle_Meet, o_circle_Meet, circle_Meet n⟩ :=
  func_ok' (C := c_circle_Meet n) (n := n) (p := p_circle_Meet) (ok_of mixed eqsOk ⟨s_circle_pieces n, s_circle_arcs n, s_circle_common n, trivial⟩ trivial trivial) Go.Proofs.Try.func30 (by kernel_rfl) (by kernel_rfl) (d_circle_Meet n) (by kernel_rfl)

/-- carrefour/carrefourref03.Meet -/
def h_ref03_Meet : Shape := ⟨slotsOf 3 [(0, .c (.hole (.int .i64))), (1, .c (.hole (.sl 23))), (2, .c (.hole (.sl 23)))], [], []⟩
def o_ref03_Meet : List (Ex × Shape) := [(.ret, ⟨slotsOf 1 [(0, .c (.hole (.sl 23)))], [], []⟩)]
def ref03_Meet (n : Nat) (x0 : Int × (List (Int × Int)) × List (Int × Int)) : Option (List (Int × Int)) :=
  let e0 := false :: []
  (ref03_Ticks n (x0.1, x0.2.1)).bind fun y1 =>
  (ref03_Ticks n (x0.1, x0.2.2)).bind fun y2 =>
  (iterL (Y := (List Bool)) n (fun (x4 : Int × (List Bool) × (List Bool) × List Bool) =>
    let e1 := x4.2.1.length
    let e2 := x4.2.2.2.length
    let e3 := (atI false x4.2.2.1 x4.1) :: []
    let e4 := wrap64 (x4.1 + 1)
    bif decide (x4.1 < ((e1 : Nat) : Int)) then
      bif inB x4.1 e1 then
        bif atI false x4.2.1 x4.1 then
          bif inB x4.1 x4.2.2.1.length then
            bif fitB (e2 + e3.length) 1 then
              some (.inl (e4, x4.2.1, x4.2.2.1, x4.2.2.2 ++ e3))
            else
            none
          else
          none
        else
          bif fitB (e2 + e0.length) 1 then
            some (.inl (e4, x4.2.1, x4.2.2.1, x4.2.2.2 ++ e0))
          else
          none
      else
      none
    else
    some (.inr x4.2.2.2)) (0, y1, y2, [])).bind fun (z5 : List Bool) =>
    (ref03_Form n z5).bind fun y6 =>
    some y6
def p_ref03_Meet : Plan := .two (.leaf) (.two (.leaf) (.two (.leaf) (.two (.leaf) (.two (.two (.leaf) (.one (.loop ⟨slotsOf 38 [(7, .c (.row 11300)), (8, .c (.row 11600)), (9, .c (.row 35)), (10, .c (.hole (.int .i64)))], [], [(11300, 4), (11600, 4), (35, 4)]⟩ [(.exit 0, ⟨slotsOf 38 [(9, .c (.row 35))], [], [(35, 4)]⟩)] (.leaf)))) (.leaf)))))
noncomputable def c_ref03_Meet (n : Nat) : Cx := ⟨Go.Proofs.Try.prog, Θ, [23, 68], [(52, ⟨h_ref03_Ticks, o_ref03_Ticks, ref03_Ticks n⟩), (51, ⟨h_ref03_Form, o_ref03_Form, ref03_Form n⟩)], [], []⟩
theorem d_ref03_Meet (n : Nat) (x : h_ref03_Meet.X T) : denF (c_ref03_Meet n) n Go.Proofs.Try.f31 p_ref03_Meet h_ref03_Meet o_ref03_Meet x = ref03_Meet n x := by kernel_rfl
theorem s_ref03_Meet (n : Nat) : PCalls Go.Proofs.Try.prog Θ 31 ⟨h_ref03_Meet, o_ref03_Meet, ref03_Meet n⟩ :=
  func_ok' (C := c_ref03_Meet n) (n := n) (p := p_ref03_Meet) (ok_of mixed eqsOk ⟨s_ref03_Ticks n, s_ref03_Form n, trivial⟩ trivial trivial) Go.Proofs.Try.func31 (by kernel_rfl) (by kernel_rfl) (d_ref03_Meet n) (by kernel_rfl)

/-- carrefour/circle.Less -/
def h_circle_Less : Shape := ⟨slotsOf 3 [(0, .c (.hole (.int .i64))), (1, .c (.hole (.sl 23))), (2, .c (.hole (.sl 23)))], [], []⟩
def o_circle_Less : List (Ex × Shape) := [(.ret, ⟨slotsOf 1 [(0, .c (.row 0))], [], [(0, 23)]⟩)]
noncomputable def circle_Less (n : Nat) (x0 : Int × (List (Int × Int)) × List (Int × Int)) : Option (List (Int × Int)) :=
  (circle_cycle n x0.1).bind fun y1 =>
  bif !y1 then
    some []
  else
  (circle_pieces n (x0.1, x0.2.1)).bind fun y2 =>
  (circle_pieces n (x0.1, x0.2.2)).bind fun y3 =>
  (circle_between n (x0.1, y3)).bind fun y4 =>
  (circle_common n (y2, y4)).bind fun y5 =>
  (circle_arcs n (x0.1, y5)).bind fun y6 =>
  some y6
def p_circle_Less : Plan := .leaf
noncomputable def c_circle_Less (n : Nat) : Cx := ⟨Go.Proofs.Try.prog, Θ, [23, 68], [(49, ⟨h_circle_cycle, o_circle_cycle, circle_cycle n⟩), (54, ⟨h_circle_pieces, o_circle_pieces, circle_pieces n⟩), (53, ⟨h_circle_arcs, o_circle_arcs, circle_arcs n⟩), (59, ⟨h_circle_between, o_circle_between, circle_between n⟩), (58, ⟨h_circle_common, o_circle_common, circle_common n⟩)], [], []⟩
theorem d_circle_Less (n : Nat) (x : h_circle_Less.X T) : denF (c_circle_Less n) n Go.Proofs.Try.f32 p_circle_Less h_circle_Less o_circle_Less x = circle_Less n x := by kernel_rfl
theorem s_circle_Less (n : Nat) : PCalls Go.Proofs.Try.prog Θ 32 ⟨h_circle_Less, o_circle_Less, circle_Less n⟩ :=
  func_ok' (C := c_circle_Less n) (n := n) (p := p_circle_Less) (ok_of mixed eqsOk ⟨s_circle_cycle n, s_circle_pieces n, s_circle_arcs n, s_circle_between n, s_circle_common n, trivial⟩ trivial trivial) Go.Proofs.Try.func32 (by kernel_rfl) (by kernel_rfl) (d_circle_Less n) (by kernel_rfl)

/-- carrefour/carrefourref03.Less -/
def h_ref03_Less : Shape := ⟨slotsOf 3 [(0, .c (.hole (.int .i64))), (1, .c (.hole (.sl 23))), (2, .c (.hole (.sl 23)))], [], []⟩
def o_ref03_Less : List (Ex × Shape) := [(.ret, ⟨slotsOf 1 [(0, .c (.hole (.sl 23)))], [], []⟩)]
def ref03_Less (n : Nat) (x0 : Int × (List (Int × Int)) × List (Int × Int)) : Option (List (Int × Int)) :=
  let e0 := false :: []
  (ref03_Ticks n (x0.1, x0.2.1)).bind fun y1 =>
  (ref03_Ticks n (x0.1, x0.2.2)).bind fun y2 =>
  (iterL (Y := (List Bool)) n (fun (x4 : Int × (List Bool) × (List Bool) × List Bool) =>
    let e1 := x4.2.1.length
    let e2 := x4.2.2.2.length
    let e3 := (!(atI false x4.2.2.1 x4.1)) :: []
    let e4 := wrap64 (x4.1 + 1)
    bif decide (x4.1 < ((e1 : Nat) : Int)) then
      bif inB x4.1 e1 then
        bif atI false x4.2.1 x4.1 then
          bif inB x4.1 x4.2.2.1.length then
            bif fitB (e2 + e3.length) 1 then
              some (.inl (e4, x4.2.1, x4.2.2.1, x4.2.2.2 ++ e3))
            else
            none
          else
          none
        else
          bif fitB (e2 + e0.length) 1 then
            some (.inl (e4, x4.2.1, x4.2.2.1, x4.2.2.2 ++ e0))
          else
          none
      else
      none
    else
    some (.inr x4.2.2.2)) (0, y1, y2, [])).bind fun (z5 : List Bool) =>
    (ref03_Form n z5).bind fun y6 =>
    some y6
def p_ref03_Less : Plan := .two (.leaf) (.two (.leaf) (.two (.leaf) (.two (.leaf) (.two (.two (.leaf) (.one (.loop ⟨slotsOf 39 [(7, .c (.row 11300)), (8, .c (.row 11600)), (9, .c (.row 36)), (10, .c (.hole (.int .i64)))], [], [(11300, 4), (11600, 4), (36, 4)]⟩ [(.exit 0, ⟨slotsOf 39 [(9, .c (.row 36))], [], [(36, 4)]⟩)] (.leaf)))) (.leaf)))))
noncomputable def c_ref03_Less (n : Nat) : Cx := ⟨Go.Proofs.Try.prog, Θ, [23, 68], [(52, ⟨h_ref03_Ticks, o_ref03_Ticks, ref03_Ticks n⟩), (51, ⟨h_ref03_Form, o_ref03_Form, ref03_Form n⟩)], [], []⟩
theorem d_ref03_Less (n : Nat) (x : h_ref03_Less.X T) : denF (c_ref03_Less n) n Go.Proofs.Try.f33 p_ref03_Less h_ref03_Less o_ref03_Less x = ref03_Less n x := by kernel_rfl
theorem s_ref03_Less (n : Nat) : PCalls Go.Proofs.Try.prog Θ 33 ⟨h_ref03_Less, o_ref03_Less, ref03_Less n⟩ :=
  func_ok' (C := c_ref03_Less n) (n := n) (p := p_ref03_Less) (ok_of mixed eqsOk ⟨s_ref03_Ticks n, s_ref03_Form n, trivial⟩ trivial trivial) Go.Proofs.Try.func33 (by kernel_rfl) (by kernel_rfl) (d_ref03_Less n) (by kernel_rfl)

/-- carrefour/carrefourref03.Rest -/
def h_ref03_Rest : Shape := ⟨slotsOf 2 [(0, .c (.hole (.int .i64))), (1, .c (.hole (.sl 23)))], [], []⟩
def o_ref03_Rest : List (Ex × Shape) := [(.ret, ⟨slotsOf 1 [(0, .c (.hole (.sl 23)))], [], []⟩)]
def ref03_Rest (n : Nat) (x0 : Int × List (Int × Int)) : Option (List (Int × Int)) :=
  (ref03_Ticks n x0).bind fun y1 =>
  (iterL (Y := (List Bool)) n (fun (x3 : Int × (List Bool) × List Bool) =>
    let e0 := x3.2.1.length
    let e1 := (!(atI false x3.2.1 x3.1)) :: []
    bif decide (x3.1 < ((e0 : Nat) : Int)) then
      bif inB x3.1 e0 then
        bif fitB (x3.2.2.length + e1.length) 1 then
          some (.inl (wrap64 (x3.1 + 1), x3.2.1, x3.2.2 ++ e1))
        else
        none
      else
      none
    else
    some (.inr x3.2.2)) (0, y1, [])).bind fun (z4 : List Bool) =>
    (ref03_Form n z4).bind fun y5 =>
    some y5
def p_ref03_Rest : Plan := .two (.leaf) (.two (.leaf) (.two (.leaf) (.two (.two (.leaf) (.one (.loop ⟨slotsOf 27 [(5, .c (.row 11000)), (6, .c (.row 24)), (7, .c (.hole (.int .i64)))], [], [(11000, 4), (24, 4)]⟩ [(.exit 0, ⟨slotsOf 27 [(6, .c (.row 24))], [], [(24, 4)]⟩)] (.leaf)))) (.leaf))))
noncomputable def c_ref03_Rest (n : Nat) : Cx := ⟨Go.Proofs.Try.prog, Θ, [23, 68], [(52, ⟨h_ref03_Ticks, o_ref03_Ticks, ref03_Ticks n⟩), (51, ⟨h_ref03_Form, o_ref03_Form, ref03_Form n⟩)], [], []⟩
theorem d_ref03_Rest (n : Nat) (x : h_ref03_Rest.X T) : denF (c_ref03_Rest n) n Go.Proofs.Try.f35 p_ref03_Rest h_ref03_Rest o_ref03_Rest x = ref03_Rest n x := by kernel_rfl
theorem s_ref03_Rest (n : Nat) : PCalls Go.Proofs.Try.prog Θ 35 ⟨h_ref03_Rest, o_ref03_Rest, ref03_Rest n⟩ :=
  func_ok' (C := c_ref03_Rest n) (n := n) (p := p_ref03_Rest) (ok_of mixed eqsOk ⟨s_ref03_Ticks n, s_ref03_Form n, trivial⟩ trivial trivial) Go.Proofs.Try.func35 (by kernel_rfl) (by kernel_rfl) (d_ref03_Rest n) (by kernel_rfl)

/-- carrefour/carrefourlaw03.CircleMeets -/
def h_law03_CircleMeets : Shape := ⟨slotsOf 3 [(0, .c (.hole (.int .i64))), (1, .c (.hole (.sl 23))), (2, .c (.hole (.sl 23)))], [], []⟩
def o_law03_CircleMeets : List (Ex × Shape) := [(.ret, ⟨slotsOf 1 [(0, .c (.hole (.bool)))], [], []⟩)]
noncomputable def law03_CircleMeets (n : Nat) (x0 : Int × (List (Int × Int)) × List (Int × Int)) : Option (Bool) :=
  (law03_few n (x0.1, x0.2.1 :: (x0.2.2 :: []))).bind fun y1 =>
  bif !y1 then
    some true
  else
  letJ (fun (x12 : Bool) =>
    some x12) fun J13 =>
  (circle_Meet n x0).bind fun y2 =>
  (ref03_Meet n x0).bind fun y3 =>
  (ref03_Same n (y2, y3)).bind fun y4 =>
  bif y4 then
    (circle_Less n x0).bind fun y5 =>
    (ref03_Less n x0).bind fun y6 =>
    (ref03_Same n (y5, y6)).bind fun y7 =>
    bif y7 then
      (circle_Rest n (x0.1, x0.2.1)).bind fun y8 =>
      (ref03_Rest n (x0.1, x0.2.1)).bind fun y9 =>
      (ref03_Same n (y8, y9)).bind fun y10 =>
      bif y10 then
        (law03_awake n ()).bind fun y11 =>
        J13 y11
      else
      J13 false
    else
    J13 false
  else
  J13 false
def p_law03_CircleMeets : Plan := .two (.leaf) (.two (.leaf) (.two (.join ⟨slotsOf 45 [(6, .c (.hole (.bool)))], [], []⟩ (.leaf)) (.leaf)))
noncomputable def c_law03_CircleMeets (n : Nat) : Cx := ⟨Go.Proofs.Try.prog, Θ, [23, 68], [(14, ⟨h_law03_few, o_law03_few, law03_few n⟩), (34, ⟨h_circle_Rest, o_circle_Rest, circle_Rest n⟩), (23, ⟨h_ref03_Same, o_ref03_Same, ref03_Same n⟩), (21, ⟨h_law03_awake, o_law03_awake, law03_awake n⟩), (30, ⟨h_circle_Meet, o_circle_Meet, circle_Meet n⟩), (31, ⟨h_ref03_Meet, o_ref03_Meet, ref03_Meet n⟩), (32, ⟨h_circle_Less, o_circle_Less, circle_Less n⟩), (33, ⟨h_ref03_Less, o_ref03_Less, ref03_Less n⟩), (35, ⟨h_ref03_Rest, o_ref03_Rest, ref03_Rest n⟩)], [], []⟩
theorem d_law03_CircleMeets (n : Nat) (x : h_law03_CircleMeets.X T) : denF (c_law03_CircleMeets n) n Go.Proofs.Try.f7 p_law03_CircleMeets h_law03_CircleMeets o_law03_CircleMeets x = law03_CircleMeets n x := by kernel_rfl
theorem s_law03_CircleMeets (n : Nat) : PCalls Go.Proofs.Try.prog Θ 7 ⟨h_law03_CircleMeets, o_law03_CircleMeets, law03_CircleMeets n⟩ :=
  func_ok' (C := c_law03_CircleMeets n) (n := n) (p := p_law03_CircleMeets) (ok_of mixed eqsOk ⟨s_law03_few n, s_circle_Rest n, s_ref03_Same n, s_law03_awake n, s_circle_Meet n, s_ref03_Meet n, s_circle_Less n, s_ref03_Less n, s_ref03_Rest n, trivial⟩ trivial trivial) Go.Proofs.Try.func7 (by kernel_rfl) (by kernel_rfl) (d_law03_CircleMeets n) (by kernel_rfl)

/-- carrefour/carrefourref03.Set -/
def h_ref03_Set : Shape := ⟨slotsOf 2 [(0, .c (.hole (.int .i64))), (1, .c (.hole (.sl 23)))], [], []⟩
def o_ref03_Set : List (Ex × Shape) := [(.ret, ⟨slotsOf 1 [(0, .c (.hole (.sl 23)))], [], []⟩)]
def ref03_Set (n : Nat) (x0 : Int × List (Int × Int)) : Option (List (Int × Int)) :=
  (ref03_Ticks n x0).bind fun y1 =>
  (ref03_Form n y1).bind fun y2 =>
  some y2
def p_ref03_Set : Plan := .leaf
noncomputable def c_ref03_Set (n : Nat) : Cx := ⟨Go.Proofs.Try.prog, Θ, [23, 68], [(52, ⟨h_ref03_Ticks, o_ref03_Ticks, ref03_Ticks n⟩), (51, ⟨h_ref03_Form, o_ref03_Form, ref03_Form n⟩)], [], []⟩
theorem d_ref03_Set (n : Nat) (x : h_ref03_Set.X T) : denF (c_ref03_Set n) n Go.Proofs.Try.f36 p_ref03_Set h_ref03_Set o_ref03_Set x = ref03_Set n x := by kernel_rfl
theorem s_ref03_Set (n : Nat) : PCalls Go.Proofs.Try.prog Θ 36 ⟨h_ref03_Set, o_ref03_Set, ref03_Set n⟩ :=
  func_ok' (C := c_ref03_Set n) (n := n) (p := p_ref03_Set) (ok_of mixed eqsOk ⟨s_ref03_Ticks n, s_ref03_Form n, trivial⟩ trivial trivial) Go.Proofs.Try.func36 (by kernel_rfl) (by kernel_rfl) (d_ref03_Set n) (by kernel_rfl)

/-- carrefour/carrefourref03.Total -/
def h_ref03_Total : Shape := ⟨slotsOf 2 [(0, .c (.hole (.int .i64))), (1, .c (.hole (.sl 23)))], [], []⟩
def o_ref03_Total : List (Ex × Shape) := [(.ret, ⟨slotsOf 1 [(0, .c (.hole (.int .i64)))], [], []⟩)]
def ref03_Total (n : Nat) (x0 : Int × List (Int × Int)) : Option (Int) :=
  (ref03_Ticks n x0).bind fun y1 =>
  (iterL (Y := (Int)) n (fun (x2 : Int × Int × List Bool) =>
    let e0 := x2.2.2.length
    bif decide (x2.2.1 < ((e0 : Nat) : Int)) then
      bif inB x2.2.1 e0 then
        bif atI false x2.2.2 x2.2.1 then
          some (.inl (wrap64 (x2.1 + 1), wrap64 (x2.2.1 + 1), x2.2.2))
        else
        some (.inl (x2.1, wrap64 (x2.2.1 + 1), x2.2.2))
      else
      none
    else
    some (.inr x2.1)) (0, 0, y1)).bind fun (z3 : Int) =>
    some z3
def p_ref03_Total : Plan := .two (.leaf) (.two (.leaf) (.two (.leaf) (.two (.two (.leaf) (.one (.loop ⟨slotsOf 24 [(5, .c (.row 11000)), (6, .c (.hole (.int .i64))), (7, .c (.hole (.int .i64)))], [], [(11000, 4)]⟩ [(.exit 0, ⟨slotsOf 24 [(6, .c (.hole (.int .i64)))], [], []⟩)] (.leaf)))) (.leaf))))
noncomputable def c_ref03_Total (n : Nat) : Cx := ⟨Go.Proofs.Try.prog, Θ, [23, 68], [(52, ⟨h_ref03_Ticks, o_ref03_Ticks, ref03_Ticks n⟩)], [], []⟩
theorem d_ref03_Total (n : Nat) (x : h_ref03_Total.X T) : denF (c_ref03_Total n) n Go.Proofs.Try.f37 p_ref03_Total h_ref03_Total o_ref03_Total x = ref03_Total n x := by kernel_rfl
theorem s_ref03_Total (n : Nat) : PCalls Go.Proofs.Try.prog Θ 37 ⟨h_ref03_Total, o_ref03_Total, ref03_Total n⟩ :=
  func_ok' (C := c_ref03_Total n) (n := n) (p := p_ref03_Total) (ok_of mixed eqsOk ⟨s_ref03_Ticks n, trivial⟩ trivial trivial) Go.Proofs.Try.func37 (by kernel_rfl) (by kernel_rfl) (d_ref03_Total n) (by kernel_rfl)

/-- carrefour/carrefourref03.Widest -/
def h_ref03_Widest : Shape := ⟨slotsOf 2 [(0, .c (.hole (.int .i64))), (1, .c (.hole (.sl 23)))], [], []⟩
def o_ref03_Widest : List (Ex × Shape) := [(.ret, ⟨slotsOf 1 [(0, .agg [.hole (.int .i64), .hole (.int .i64)])], [], []⟩)]
def ref03_Widest (n : Nat) (x0 : Int × List (Int × Int)) : Option (Int × Int) :=
  (ref03_Set n x0).bind fun y1 =>
  (iterL (Y := (Int × Int × Int × Int)) n (fun (x2 : (List (Int × Int)) × Int × Int × Int × Int × Int) =>
    let e0 := x2.1.length
    let e1 := inB x2.2.1 e0
    let e2 := atI (0, 0) x2.1 x2.2.1
    let e3 := wrap64 (x2.2.1 + 1)
    bif decide (x2.2.1 < ((e0 : Nat) : Int)) then
      bif e1 then
        bif decide (x2.2.2.2.2.2 < e2.2) then
          bif e1 then
            some (.inl (x2.1, e3, x2.2.2.1, x2.2.2.2.1, e2))
          else
          none
        else
        some (.inl (x2.1, e3, x2.2.2))
      else
      none
    else
    some (.inr x2.2.2)) (y1, 0, 0, 0, 0, 0)).bind fun (z3 : Int × Int × Int × Int) =>
    some z3.2.2
def p_ref03_Widest : Plan := .two (.leaf) (.two (.leaf) (.two (.leaf) (.two (.two (.leaf) (.one (.loop ⟨slotsOf 31 [(4, .c (.box 4 0)), (5, .c (.hole (.sl 23))), (6, .c (.box 6 0)), (7, .c (.hole (.int .i64)))], [(4, 23, [.hole (.int .i64), .hole (.int .i64)]), (6, 23, [.hole (.int .i64), .hole (.int .i64)])], []⟩ [(.exit 0, ⟨slotsOf 31 [(4, .c (.box 4 0)), (6, .c (.box 6 0))], [(4, 23, [.hole (.int .i64), .hole (.int .i64)]), (6, 23, [.hole (.int .i64), .hole (.int .i64)])], []⟩)] (.leaf)))) (.leaf))))
noncomputable def c_ref03_Widest (n : Nat) : Cx := ⟨Go.Proofs.Try.prog, Θ, [23, 68], [(36, ⟨h_ref03_Set, o_ref03_Set, ref03_Set n⟩)], [], []⟩
theorem d_ref03_Widest (n : Nat) (x : h_ref03_Widest.X T) : denF (c_ref03_Widest n) n Go.Proofs.Try.f38 p_ref03_Widest h_ref03_Widest o_ref03_Widest x = ref03_Widest n x := by kernel_rfl
theorem s_ref03_Widest (n : Nat) : PCalls Go.Proofs.Try.prog Θ 38 ⟨h_ref03_Widest, o_ref03_Widest, ref03_Widest n⟩ :=
  func_ok' (C := c_ref03_Widest n) (n := n) (p := p_ref03_Widest) (ok_of mixed eqsOk ⟨s_ref03_Set n, trivial⟩ trivial trivial) Go.Proofs.Try.func38 (by kernel_rfl) (by kernel_rfl) (d_ref03_Widest n) (by kernel_rfl)

/-- carrefour/carrefourlaw03.CircleSets -/
def h_law03_CircleSets : Shape := ⟨slotsOf 2 [(0, .c (.hole (.int .i64))), (1, .c (.hole (.sl 23)))], [], []⟩
def o_law03_CircleSets : List (Ex × Shape) := [(.ret, ⟨slotsOf 1 [(0, .c (.hole (.bool)))], [], []⟩)]
noncomputable def law03_CircleSets (n : Nat) (x0 : Int × List (Int × Int)) : Option (Bool) :=
  (law03_few n (x0.1, x0.2 :: [])).bind fun y1 =>
  bif !y1 then
    some true
  else
  letJ (fun (x10 : Bool) =>
    some x10) fun J11 =>
  (circle_Set n x0).bind fun y2 =>
  (ref03_Set n x0).bind fun y3 =>
  (ref03_Same n (y2, y3)).bind fun y4 =>
  bif y4 then
    (circle_Total n x0).bind fun y5 =>
    (ref03_Total n x0).bind fun y6 =>
    bif y5 == y6 then
      (circle_Widest n x0).bind fun y7 =>
      (ref03_Widest n x0).bind fun y8 =>
      bif (y7.1 == y8.1) && ((y7.2 == y8.2) && true) then
        (law03_awake n ()).bind fun y9 =>
        J11 y9
      else
      J11 false
    else
    J11 false
  else
  J11 false
def p_law03_CircleSets : Plan := .two (.leaf) (.two (.leaf) (.two (.join ⟨slotsOf 38 [(4, .c (.hole (.bool)))], [], []⟩ (.leaf)) (.leaf)))
noncomputable def c_law03_CircleSets (n : Nat) : Cx := ⟨Go.Proofs.Try.prog, Θ, [23, 68], [(14, ⟨h_law03_few, o_law03_few, law03_few n⟩), (22, ⟨h_circle_Set, o_circle_Set, circle_Set n⟩), (23, ⟨h_ref03_Same, o_ref03_Same, ref03_Same n⟩), (21, ⟨h_law03_awake, o_law03_awake, law03_awake n⟩), (26, ⟨h_circle_Total, o_circle_Total, circle_Total n⟩), (29, ⟨h_circle_Widest, o_circle_Widest, circle_Widest n⟩), (36, ⟨h_ref03_Set, o_ref03_Set, ref03_Set n⟩), (37, ⟨h_ref03_Total, o_ref03_Total, ref03_Total n⟩), (38, ⟨h_ref03_Widest, o_ref03_Widest, ref03_Widest n⟩)], [], []⟩
theorem d_law03_CircleSets (n : Nat) (x : h_law03_CircleSets.X T) : denF (c_law03_CircleSets n) n Go.Proofs.Try.f8 p_law03_CircleSets h_law03_CircleSets o_law03_CircleSets x = law03_CircleSets n x := by kernel_rfl
theorem s_law03_CircleSets (n : Nat) : PCalls Go.Proofs.Try.prog Θ 8 ⟨h_law03_CircleSets, o_law03_CircleSets, law03_CircleSets n⟩ :=
  func_ok' (C := c_law03_CircleSets n) (n := n) (p := p_law03_CircleSets) (ok_of mixed eqsOk ⟨s_law03_few n, s_circle_Set n, s_ref03_Same n, s_law03_awake n, s_circle_Total n, s_circle_Widest n, s_ref03_Set n, s_ref03_Total n, s_ref03_Widest n, trivial⟩ trivial trivial) Go.Proofs.Try.func8 (by kernel_rfl) (by kernel_rfl) (d_law03_CircleSets n) (by kernel_rfl)

end Go.Proofs.Ytemhdliapelleaa.Fn
