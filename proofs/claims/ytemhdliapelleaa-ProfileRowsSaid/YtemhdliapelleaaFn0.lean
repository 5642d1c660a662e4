/- Functions of the program, each as a plain function, and that the machine does what it says. -/
import Derived.Test.YtemhdliapelleaaCopy
namespace Go.Proofs.Ytemhdliapelleaa.Fn
set_option linter.unusedVariables false
set_option maxRecDepth 100000
open Go Go.RowKit Go.Den
/-- carrefour/profile.Turn -/
def h_profile_Turn : Shape := ⟨slotsOf 2 [(0, .c (.hole (.sl 2))), (1, .c (.hole (.int .i64)))], [], []⟩
def o_profile_Turn : List (Ex × Shape) := [(.ret, ⟨slotsOf 1 [(0, .c (.row 0))], [], [(0, 2)]⟩)]
def profile_Turn (n : Nat) (x : List Int × Int) : Option (List Int) := turnF x
theorem s_profile_Turn (n : Nat) : PCalls Go.Proofs.Try.prog Θ 44 ⟨h_profile_Turn, o_profile_Turn, profile_Turn n⟩ := turn_calls

/-- slices.SortFunc[[]carrefour/circle.piece,carrefour/circle.piece] -/
def h_slices_SortFunc : Shape := ⟨slotsOf 2 [(0, .c (.row 1000000)), (1, .c (.fn 72 []))], [], [(1000000, 68)]⟩
def o_slices_SortFunc : List (Ex × Shape) := [(.ret, ⟨slotsOf 0 [], [], [(1000000, 68)]⟩)]
def slices_SortFunc (n : Nat) (x : List (Int × Int)) : Option (List (Int × Int)) := sortF (0, 0) (fun a b : Int × Int => Go.Lib.compareInt a.1 b.1) x
theorem s_slices_SortFunc (n : Nat) : PCalls Go.Proofs.Try.prog Θ 71 ⟨h_slices_SortFunc, o_slices_SortFunc, slices_SortFunc n⟩ := sortPc_calls

/-- carrefour/carrefourlaw03.few -/
def h_law03_few : Shape := ⟨slotsOf 2 [(0, .c (.hole (.int .i64))), (1, .c (.hole (.sl 31)))], [], []⟩
def o_law03_few : List (Ex × Shape) := [(.ret, ⟨slotsOf 1 [(0, .c (.hole (.bool)))], [], []⟩)]
def law03_few (n : Nat) (x0 : Int × List (List (Int × Int))) : Option (Bool) :=
  (iterL (Y := (Bool) ⊕ (Int)) n (fun (x1 : Int × (List (List (Int × Int))) × Int) =>
    let e0 := x1.2.1.length
    bif decide (x1.2.2 < ((e0 : Nat) : Int)) then
      bif inB x1.2.2 e0 then
        bif decide (30 < ((List.length (atI [] x1.2.1 x1.2.2) : Nat) : Int)) then
          some (.inr (.inl false))
        else
        some (.inl (x1.1, x1.2.1, wrap64 (x1.2.2 + 1)))
      else
      none
    else
    some (.inr (.inr x1.1))) (x0.1, x0.2, 0)).bind (Sum.elim (fun (z2 : Bool) =>
    some z2) (fun (z3 : Int) =>
    bif decide (z3 ≤ 300) then
      some true
    else
    some (decide (6000 < z3))))
def p_law03_few : Plan := .two (.leaf) (.two (.two (.leaf) (.one (.loop ⟨slotsOf 24 [(0, .c (.hole (.int .i64))), (1, .c (.hole (.sl 31))), (5, .c (.hole (.int .i64)))], [], []⟩ [(.ret, ⟨slotsOf 24 [(4, .c (.hole (.bool)))], [], []⟩), (.exit 0, ⟨slotsOf 24 [(0, .c (.hole (.int .i64)))], [], []⟩)] (.leaf)))) (.leaf))
noncomputable def c_law03_few (n : Nat) : Cx := ⟨Go.Proofs.Try.prog, Θ, [23, 68], [], [], []⟩
theorem d_law03_few (n : Nat) (x : h_law03_few.X T) : denF (c_law03_few n) n Go.Proofs.Try.f14 p_law03_few h_law03_few o_law03_few x = law03_few n x := by kernel_rfl
theorem s_law03_few (n : Nat) : PCalls Go.Proofs.Try.prog Θ 14 ⟨h_law03_few, o_law03_few, law03_few n⟩ :=
  func_ok' (C := c_law03_few n) (n := n) (p := p_law03_few) (ok_of mixed eqsOk trivial trivial trivial) Go.Proofs.Try.func14 (by kernel_rfl) (by kernel_rfl) (d_law03_few n) (by kernel_rfl)

/-- carrefour/circle.cycle -/
def h_circle_cycle : Shape := ⟨slotsOf 1 [(0, .c (.hole (.int .i64)))], [], []⟩
def o_circle_cycle : List (Ex × Shape) := [(.ret, ⟨slotsOf 1 [(0, .c (.hole (.bool)))], [], []⟩)]
def circle_cycle (n : Nat) (x0 : Int) : Option (Bool) :=
  bif decide (1 ≤ x0) then
    some (decide (x0 ≤ 6000))
  else
  some false
def p_circle_cycle : Plan := .leaf
noncomputable def c_circle_cycle (n : Nat) : Cx := ⟨Go.Proofs.Try.prog, Θ, [23, 68], [], [], []⟩
theorem d_circle_cycle (n : Nat) (x : h_circle_cycle.X T) : denF (c_circle_cycle n) n Go.Proofs.Try.f49 p_circle_cycle h_circle_cycle o_circle_cycle x = circle_cycle n x := by kernel_rfl
theorem s_circle_cycle (n : Nat) : PCalls Go.Proofs.Try.prog Θ 49 ⟨h_circle_cycle, o_circle_cycle, circle_cycle n⟩ :=
  func_ok' (C := c_circle_cycle n) (n := n) (p := p_circle_cycle) (ok_of mixed eqsOk trivial trivial trivial) Go.Proofs.Try.func49 (by kernel_rfl) (by kernel_rfl) (d_circle_cycle n) (by kernel_rfl)

/-- carrefour/whole.Mod -/
def h_whole_Mod : Shape := ⟨slotsOf 2 [(0, .c (.hole (.int .i64))), (1, .c (.hole (.int .i64)))], [], []⟩
def o_whole_Mod : List (Ex × Shape) := [(.ret, ⟨slotsOf 2 [(0, .c (.hole (.int .i64))), (1, .c (.hole (.int .i64)))], [], []⟩)]
def whole_Mod (n : Nat) (x0 : Int × Int) : Option (Int × Int) :=
  let e0 := Int.tmod x0.1 x0.2
  bif decide (x0.2 < 1) then
    some (0, 1)
  else
  bif !(x0.2 == 0) then
    bif decide (e0 < 0) then
      some (wrap64 (e0 + x0.2), 0)
    else
    some (e0, 0)
  else
  none
def p_whole_Mod : Plan := .leaf
noncomputable def c_whole_Mod (n : Nat) : Cx := ⟨Go.Proofs.Try.prog, Θ, [23, 68], [], [], []⟩
theorem d_whole_Mod (n : Nat) (x : h_whole_Mod.X T) : denF (c_whole_Mod n) n Go.Proofs.Try.f66 p_whole_Mod h_whole_Mod o_whole_Mod x = whole_Mod n x := by kernel_rfl
theorem s_whole_Mod (n : Nat) : PCalls Go.Proofs.Try.prog Θ 66 ⟨h_whole_Mod, o_whole_Mod, whole_Mod n⟩ :=
  func_ok' (C := c_whole_Mod n) (n := n) (p := p_whole_Mod) (ok_of mixed eqsOk trivial trivial trivial) Go.Proofs.Try.func66 (by kernel_rfl) (by kernel_rfl) (d_whole_Mod n) (by kernel_rfl)

/-- carrefour/circle.modulo -/
def h_circle_modulo : Shape := ⟨slotsOf 2 [(0, .c (.hole (.int .i64))), (1, .c (.hole (.int .i64)))], [], []⟩
def o_circle_modulo : List (Ex × Shape) := [(.ret, ⟨slotsOf 1 [(0, .c (.hole (.int .i64)))], [], []⟩)]
def circle_modulo (n : Nat) (x0 : Int × Int) : Option (Int) :=
  (whole_Mod n x0).bind fun y1 =>
  some y1.1
def p_circle_modulo : Plan := .leaf
noncomputable def c_circle_modulo (n : Nat) : Cx := ⟨Go.Proofs.Try.prog, Θ, [23, 68], [(66, ⟨h_whole_Mod, o_whole_Mod, whole_Mod n⟩)], [], []⟩
theorem d_circle_modulo (n : Nat) (x : h_circle_modulo.X T) : denF (c_circle_modulo n) n Go.Proofs.Try.f50 p_circle_modulo h_circle_modulo o_circle_modulo x = circle_modulo n x := by kernel_rfl
theorem s_circle_modulo (n : Nat) : PCalls Go.Proofs.Try.prog Θ 50 ⟨h_circle_modulo, o_circle_modulo, circle_modulo n⟩ :=
  func_ok' (C := c_circle_modulo n) (n := n) (p := p_circle_modulo) (ok_of mixed eqsOk ⟨s_whole_Mod n, trivial⟩ trivial trivial) Go.Proofs.Try.func50 (by kernel_rfl) (by kernel_rfl) (d_circle_modulo n) (by kernel_rfl)

/-- carrefour/circle.Norm -/
def h_circle_Norm : Shape := ⟨slotsOf 2 [(0, .c (.hole (.int .i64))), (1, .agg [.hole (.int .i64), .hole (.int .i64)])], [], []⟩
def o_circle_Norm : List (Ex × Shape) := [(.ret, ⟨slotsOf 1 [(0, .agg [.hole (.int .i64), .hole (.int .i64)])], [], []⟩)]
def circle_Norm (n : Nat) (x0 : Int × Int × Int) : Option (Int × Int) :=
  letJ (fun (x2 : Int × Bool × Int × Int × Int × Int) =>
    bif x2.2.1 then
      some (0, 0)
    else
    bif decide (x2.1 ≤ x2.2.2.2.1) then
      some (0, x2.1)
    else
    (circle_modulo n (x2.2.2.1, x2.1)).bind fun y4 =>
    some (y4, x2.2.2.2.1)) fun J3 =>
  (circle_cycle n x0.1).bind fun y1 =>
  bif !y1 then
    J3 (x0.1, true, x0.2.1, x0.2.2, 0, 0)
  else
  J3 (x0.1, decide (x0.2.2 < 1), x0.2.1, x0.2.2, 0, 0)
def p_circle_Norm : Plan := .two (.leaf) (.two (.one (.two (.join ⟨slotsOf 29 [(0, .c (.hole (.int .i64))), (3, .c (.box 3 0)), (4, .c (.box 4 0)), (5, .c (.hole (.bool)))], [(3, 23, [.hole (.int .i64), .hole (.int .i64)]), (4, 23, [.hole (.int .i64), .hole (.int .i64)])], []⟩ (.leaf)) (.leaf))) (.leaf))
noncomputable def c_circle_Norm (n : Nat) : Cx := ⟨Go.Proofs.Try.prog, Θ, [23, 68], [(49, ⟨h_circle_cycle, o_circle_cycle, circle_cycle n⟩), (50, ⟨h_circle_modulo, o_circle_modulo, circle_modulo n⟩)], [], []⟩
theorem d_circle_Norm (n : Nat) (x : h_circle_Norm.X T) : denF (c_circle_Norm n) n Go.Proofs.Try.f15 p_circle_Norm h_circle_Norm o_circle_Norm x = circle_Norm n x := by kernel_rfl
theorem s_circle_Norm (n : Nat) : PCalls Go.Proofs.Try.prog Θ 15 ⟨h_circle_Norm, o_circle_Norm, circle_Norm n⟩ :=
  func_ok' (C := c_circle_Norm n) (n := n) (p := p_circle_Norm) (ok_of mixed eqsOk ⟨s_circle_cycle n, s_circle_modulo n, trivial⟩ trivial trivial) Go.Proofs.Try.func15 (by kernel_rfl) (by kernel_rfl) (d_circle_Norm n) (by kernel_rfl)

/-- carrefour/carrefourref03.Cycle -/
def h_ref03_Cycle : Shape := ⟨slotsOf 1 [(0, .c (.hole (.int .i64)))], [], []⟩
def o_ref03_Cycle : List (Ex × Shape) := [(.ret, ⟨slotsOf 1 [(0, .c (.hole (.bool)))], [], []⟩)]
def ref03_Cycle (n : Nat) (x0 : Int) : Option (Bool) :=
  bif decide (1 ≤ x0) then
    some (decide (x0 ≤ 6000))
  else
  some false
def p_ref03_Cycle : Plan := .leaf
noncomputable def c_ref03_Cycle (n : Nat) : Cx := ⟨Go.Proofs.Try.prog, Θ, [23, 68], [], [], []⟩
theorem d_ref03_Cycle (n : Nat) (x : h_ref03_Cycle.X T) : denF (c_ref03_Cycle n) n Go.Proofs.Try.f27 p_ref03_Cycle h_ref03_Cycle o_ref03_Cycle x = ref03_Cycle n x := by kernel_rfl
theorem s_ref03_Cycle (n : Nat) : PCalls Go.Proofs.Try.prog Θ 27 ⟨h_ref03_Cycle, o_ref03_Cycle, ref03_Cycle n⟩ :=
  func_ok' (C := c_ref03_Cycle n) (n := n) (p := p_ref03_Cycle) (ok_of mixed eqsOk trivial trivial trivial) Go.Proofs.Try.func27 (by kernel_rfl) (by kernel_rfl) (d_ref03_Cycle n) (by kernel_rfl)

/-- carrefour/carrefourref03.Mod -/
def h_ref03_Mod : Shape := ⟨slotsOf 2 [(0, .c (.hole (.int .i64))), (1, .c (.hole (.int .i64)))], [], []⟩
def o_ref03_Mod : List (Ex × Shape) := [(.ret, ⟨slotsOf 1 [(0, .c (.hole (.int .i64)))], [], []⟩)]
def ref03_Mod (n : Nat) (x0 : Int × Int) : Option (Int) :=
  let e0 := Int.tmod x0.1 x0.2
  bif !(x0.2 == 0) then
    bif decide (e0 < 0) then
      some (wrap64 (e0 + x0.2))
    else
    some e0
  else
  none
def p_ref03_Mod : Plan := .leaf
noncomputable def c_ref03_Mod (n : Nat) : Cx := ⟨Go.Proofs.Try.prog, Θ, [23, 68], [], [], []⟩
theorem d_ref03_Mod (n : Nat) (x : h_ref03_Mod.X T) : denF (c_ref03_Mod n) n Go.Proofs.Try.f28 p_ref03_Mod h_ref03_Mod o_ref03_Mod x = ref03_Mod n x := by kernel_rfl
theorem s_ref03_Mod (n : Nat) : PCalls Go.Proofs.Try.prog Θ 28 ⟨h_ref03_Mod, o_ref03_Mod, ref03_Mod n⟩ :=
  func_ok' (C := c_ref03_Mod n) (n := n) (p := p_ref03_Mod) (ok_of mixed eqsOk trivial trivial trivial) Go.Proofs.Try.func28 (by kernel_rfl) (by kernel_rfl) (d_ref03_Mod n) (by kernel_rfl)

/-- carrefour/carrefourref03.Ticks -/
def h_ref03_Ticks : Shape := ⟨slotsOf 2 [(0, .c (.hole (.int .i64))), (1, .c (.hole (.sl 23)))], [], []⟩
def o_ref03_Ticks : List (Ex × Shape) := [(.ret, ⟨slotsOf 1 [(0, .c (.row 0))], [], [(0, 4)]⟩)]
def ref03_Ticks (n : Nat) (x0 : Int × List (Int × Int)) : Option (List Bool) :=
  (ref03_Cycle n x0.1).bind fun y1 =>
  bif !y1 then
    some []
  else
  bif x0.1 == x0.1 && decide (0 ≤ x0.1) && decide (x0.1 * 1 ≤ 281474976710656) then
    (iterL (Y := (List Bool)) n (fun (x2 : Int × (List (Int × Int)) × Int × List Bool) =>
      let e0 := x2.2.1.length
      let e1 := inB x2.2.2.1 e0
      let e2 := atI (0, 0) x2.2.1 x2.2.2.1
      bif decide (x2.2.2.1 < ((e0 : Nat) : Int)) then
        bif e1 then
          bif e1 then
            (ref03_Mod n (e2.1, x2.1)).bind fun y3 =>
            (iterL (Y := (Int × (List (Int × Int)) × Int × List Bool)) n (fun (x4 : Int × (List (Int × Int)) × Int × Int × Int × Int × List Bool) =>
              let e3 := Int.tmod (wrap64 (x4.2.2.2.2.1 + x4.2.2.2.2.2.1)) x4.1
              bif decide (x4.2.2.2.2.2.1 < x4.2.2.2.1) then
                bif !(x4.1 == 0) then
                  bif inB e3 x4.2.2.2.2.2.2.length then
                    some (.inl (x4.1, x4.2.1, x4.2.2.1, x4.2.2.2.1, x4.2.2.2.2.1, wrap64 (x4.2.2.2.2.2.1 + 1), List.set x4.2.2.2.2.2.2 (Int.toNat e3) true))
                  else
                  none
                else
                none
              else
              some (.inr (x4.1, x4.2.1, x4.2.2.1, x4.2.2.2.2.2.2))) (x2.1, x2.2.1, x2.2.2.1, mn e2.2 x2.1, y3, 0, x2.2.2.2)).bind fun (z5 : Int × (List (Int × Int)) × Int × List Bool) =>
              some (.inl (z5.1, z5.2.1, wrap64 (z5.2.2.1 + 1), z5.2.2.2))
          else
          none
        else
        none
      else
      some (.inr x2.2.2.2)) (x0.1, x0.2, 0, List.replicate (Int.toNat x0.1) false)).bind fun (z6 : List Bool) =>
      some z6
  else
  none
def p_ref03_Ticks : Plan := .two (.leaf) (.two (.leaf) (.two (.leaf) (.two (.two (.leaf) (.one (.loop ⟨slotsOf 48 [(0, .c (.hole (.int .i64))), (1, .c (.hole (.sl 23))), (5, .c (.row 14)), (6, .c (.hole (.int .i64)))], [], [(14, 4)]⟩ [(.exit 0, ⟨slotsOf 48 [(5, .c (.row 14))], [], [(14, 4)]⟩)] (.two (.leaf) (.two (.one (.two (.leaf) (.two (.leaf) (.two (.leaf) (.one (.loop ⟨slotsOf 48 [(0, .c (.hole (.int .i64))), (1, .c (.hole (.sl 23))), (5, .c (.row 14)), (6, .c (.hole (.int .i64))), (7, .c (.hole (.int .i64))), (8, .c (.hole (.int .i64))), (9, .c (.hole (.int .i64)))], [], [(14, 4)]⟩ [(.exit 2, ⟨slotsOf 48 [(0, .c (.hole (.int .i64))), (1, .c (.hole (.sl 23))), (5, .c (.row 14)), (6, .c (.hole (.int .i64)))], [], [(14, 4)]⟩)] (.leaf))))))) (.leaf)))))) (.leaf))))
noncomputable def c_ref03_Ticks (n : Nat) : Cx := ⟨Go.Proofs.Try.prog, Θ, [23, 68], [(27, ⟨h_ref03_Cycle, o_ref03_Cycle, ref03_Cycle n⟩), (28, ⟨h_ref03_Mod, o_ref03_Mod, ref03_Mod n⟩)], [], []⟩
theorem d_ref03_Ticks (n : Nat) (x : h_ref03_Ticks.X T) : denF (c_ref03_Ticks n) n Go.Proofs.Try.f52 p_ref03_Ticks h_ref03_Ticks o_ref03_Ticks x = ref03_Ticks n x := by kernel_rfl
theorem s_ref03_Ticks (n : Nat) : PCalls Go.Proofs.Try.prog Θ 52 ⟨h_ref03_Ticks, o_ref03_Ticks, ref03_Ticks n⟩ :=
  func_ok' (C := c_ref03_Ticks n) (n := n) (p := p_ref03_Ticks) (ok_of mixed eqsOk ⟨s_ref03_Cycle n, s_ref03_Mod n, trivial⟩ trivial trivial) Go.Proofs.Try.func52 (by kernel_rfl) (by kernel_rfl) (d_ref03_Ticks n) (by kernel_rfl)

/-- carrefour/carrefourref03.Form -/
def h_ref03_Form : Shape := ⟨slotsOf 1 [(0, .c (.hole (.sl 4)))], [], []⟩
def o_ref03_Form : List (Ex × Shape) := [(.ret, ⟨slotsOf 1 [(0, .c (.hole (.sl 23)))], [], []⟩)]
def ref03_Form (n : Nat) (x0 : List Bool) : Option (List (Int × Int)) :=
  (iterL (Y := ((List Bool) × Int × Int)) n (fun (x1 : (List Bool) × Int × Int × Int) =>
    let e0 := wrap64 (x1.2.2.2 + 1)
    bif decide (x1.2.2.2 < x1.2.1) then
      bif inB x1.2.2.2 x1.1.length then
        bif atI false x1.1 x1.2.2.2 then
          some (.inl (x1.1, x1.2.1, wrap64 (x1.2.2.1 + 1), e0))
        else
        some (.inl (x1.1, x1.2.1, x1.2.2.1, e0))
      else
      none
    else
    some (.inr (x1.1, x1.2.1, x1.2.2.1))) (x0, ((x0.length : Nat) : Int), 0, 0)).bind fun (z2 : (List Bool) × Int × Int) =>
    letJ (fun (x3 : (List Bool) × Int × Bool) =>
      bif x3.2.2 then
        some ((0, x3.2.1) :: [])
      else
      (iterL (Y := (List (Int × Int))) n (fun (x10 : (List Bool) × Int × Int × List (Int × Int)) =>
        let e1 := x10.1.length
        let e2 := Int.tmod (wrap64 ((wrap64 (x10.2.2.1 + x10.2.1)) - 1)) x10.2.1
        bif decide (x10.2.2.1 < x10.2.1) then
          letJ (fun (x11 : (List Bool) × Int × Int × Bool × List (Int × Int)) =>
            bif x11.2.2.2.1 then
              some (.inl (x11.1, x11.2.1, wrap64 (x11.2.2.1 + 1), x11.2.2.2.2))
            else
            (iterL (Y := ((List Bool) × Int × Int × Int × List (Int × Int))) n (fun (x13 : (List Bool) × Int × Int × Int × List (Int × Int)) =>
              let e3 := Int.tmod (wrap64 (x13.2.2.1 + x13.2.2.2.1)) x13.2.1
              bif !(x13.2.1 == 0) then
                bif inB e3 x13.1.length then
                  bif atI false x13.1 e3 then
                    some (.inl (x13.1, x13.2.1, x13.2.2.1, wrap64 (x13.2.2.2.1 + 1), x13.2.2.2.2))
                  else
                  some (.inr x13)
                else
                none
              else
              none) (x11.1, x11.2.1, x11.2.2.1, 0, x11.2.2.2.2)).bind fun (z14 : (List Bool) × Int × Int × Int × List (Int × Int)) =>
              let e4 := (z14.2.2.1, z14.2.2.2.1) :: []
              bif fitB (z14.2.2.2.2.length + e4.length) 16 then
                some (.inl (z14.1, z14.2.1, wrap64 (z14.2.2.1 + 1), z14.2.2.2.2 ++ e4))
              else
              none) fun J12 =>
          bif inB x10.2.2.1 e1 then
            bif !(atI false x10.1 x10.2.2.1) then
              J12 (x10.1, x10.2.1, x10.2.2.1, true, x10.2.2.2)
            else
            bif !(x10.2.1 == 0) then
              bif inB e2 e1 then
                J12 (x10.1, x10.2.1, x10.2.2.1, atI false x10.1 e2, x10.2.2.2)
              else
              none
            else
            none
          else
          none
        else
        some (.inr x10.2.2.2)) (x3.1, x3.2.1, 0, [])).bind fun (z15 : List (Int × Int)) =>
        some z15) fun J4 =>
    bif z2.2.2 == z2.2.1 then
      J4 (z2.1, z2.2.1, decide (0 < z2.2.1))
    else
    J4 (z2.1, z2.2.1, false)
def p_ref03_Form : Plan := .two (.leaf) (.two (.leaf) (.two (.leaf) (.two (.two (.leaf) (.one (.loop ⟨slotsOf 70 [(0, .c (.hole (.sl 4))), (3, .c (.hole (.int .i64))), (4, .c (.hole (.int .i64))), (5, .c (.hole (.int .i64)))], [], []⟩ [(.exit 0, ⟨slotsOf 70 [(0, .c (.hole (.sl 4))), (3, .c (.hole (.int .i64))), (4, .c (.hole (.int .i64)))], [], []⟩)] (.leaf)))) (.two (.two (.join ⟨slotsOf 70 [(0, .c (.hole (.sl 4))), (3, .c (.hole (.int .i64))), (28, .c (.hole (.bool)))], [], []⟩ (.leaf)) (.leaf)) (.two (.leaf) (.two (.two (.leaf) (.one (.loop ⟨slotsOf 70 [(0, .c (.hole (.sl 4))), (3, .c (.hole (.int .i64))), (6, .c (.row 68)), (7, .c (.hole (.int .i64)))], [], [(68, 23)]⟩ [(.exit 2, ⟨slotsOf 70 [(6, .c (.row 68))], [], [(68, 23)]⟩)] (.two (.leaf) (.two (.one (.two (.two (.join ⟨slotsOf 70 [(0, .c (.hole (.sl 4))), (3, .c (.hole (.int .i64))), (6, .c (.row 68)), (7, .c (.hole (.int .i64))), (52, .c (.hole (.bool)))], [], [(68, 23)]⟩ (.leaf)) (.leaf)) (.two (.leaf) (.two (.one (.loop ⟨slotsOf 70 [(0, .c (.hole (.sl 4))), (3, .c (.hole (.int .i64))), (6, .c (.row 68)), (7, .c (.hole (.int .i64))), (8, .c (.hole (.int .i64)))], [], [(68, 23)]⟩ [(.exit 4, ⟨slotsOf 70 [(0, .c (.hole (.sl 4))), (3, .c (.hole (.int .i64))), (6, .c (.row 68)), (7, .c (.hole (.int .i64))), (8, .c (.hole (.int .i64)))], [], [(68, 23)]⟩)] (.leaf))) (.leaf))))) (.leaf)))))) (.leaf)))))))
noncomputable def c_ref03_Form (n : Nat) : Cx := ⟨Go.Proofs.Try.prog, Θ, [23, 68], [], [], []⟩
theorem d_ref03_Form (n : Nat) (x : h_ref03_Form.X T) : denF (c_ref03_Form n) n Go.Proofs.Try.f51 p_ref03_Form h_ref03_Form o_ref03_Form x = ref03_Form n x := by kernel_rfl
theorem s_ref03_Form (n : Nat) : PCalls Go.Proofs.Try.prog Θ 51 ⟨h_ref03_Form, o_ref03_Form, ref03_Form n⟩ :=
  func_ok' (C := c_ref03_Form n) (n := n) (p := p_ref03_Form) (ok_of mixed eqsOk trivial trivial trivial) Go.Proofs.Try.func51 (by kernel_rfl) (by kernel_rfl) (d_ref03_Form n) (by kernel_rfl)

/-- carrefour/carrefourref03.Norm -/
def h_ref03_Norm : Shape := ⟨slotsOf 2 [(0, .c (.hole (.int .i64))), (1, .agg [.hole (.int .i64), .hole (.int .i64)])], [], []⟩
def o_ref03_Norm : List (Ex × Shape) := [(.ret, ⟨slotsOf 1 [(0, .agg [.hole (.int .i64), .hole (.int .i64)])], [], []⟩)]
def ref03_Norm (n : Nat) (x0 : Int × Int × Int) : Option (Int × Int) :=
  (ref03_Ticks n (x0.1, x0.2 :: [])).bind fun y1 =>
  (ref03_Form n y1).bind fun y2 =>
  let e0 := y2.length
  bif ((e0 : Nat) : Int) == 0 then
    some (0, 0)
  else
  bif inB 0 e0 then
    some (atI (0, 0) y2 0)
  else
  none
def p_ref03_Norm : Plan := .leaf
noncomputable def c_ref03_Norm (n : Nat) : Cx := ⟨Go.Proofs.Try.prog, Θ, [23, 68], [(52, ⟨h_ref03_Ticks, o_ref03_Ticks, ref03_Ticks n⟩), (51, ⟨h_ref03_Form, o_ref03_Form, ref03_Form n⟩)], [], []⟩
theorem d_ref03_Norm (n : Nat) (x : h_ref03_Norm.X T) : denF (c_ref03_Norm n) n Go.Proofs.Try.f16 p_ref03_Norm h_ref03_Norm o_ref03_Norm x = ref03_Norm n x := by kernel_rfl
theorem s_ref03_Norm (n : Nat) : PCalls Go.Proofs.Try.prog Θ 16 ⟨h_ref03_Norm, o_ref03_Norm, ref03_Norm n⟩ :=
  func_ok' (C := c_ref03_Norm n) (n := n) (p := p_ref03_Norm) (ok_of mixed eqsOk ⟨s_ref03_Ticks n, s_ref03_Form n, trivial⟩ trivial trivial) Go.Proofs.Try.func16 (by kernel_rfl) (by kernel_rfl) (d_ref03_Norm n) (by kernel_rfl)

/-- carrefour/circle.In -/
def h_circle_In : Shape := ⟨slotsOf 3 [(0, .c (.hole (.int .i64))), (1, .agg [.hole (.int .i64), .hole (.int .i64)]), (2, .c (.hole (.int .i64)))], [], []⟩
def o_circle_In : List (Ex × Shape) := [(.ret, ⟨slotsOf 1 [(0, .c (.hole (.bool)))], [], []⟩)]
def circle_In (n : Nat) (x0 : Int × Int × Int × Int) : Option (Bool) :=
  (circle_Norm n (x0.1, x0.2.1, x0.2.2.1)).bind fun y1 =>
  bif decide (0 < y1.2) then
    (circle_modulo n (x0.2.2.2, x0.1)).bind fun y2 =>
    (circle_modulo n (wrap64 (y2 - y1.1), x0.1)).bind fun y3 =>
    some (decide (y3 < y1.2))
  else
  some false
def p_circle_In : Plan := .leaf
noncomputable def c_circle_In (n : Nat) : Cx := ⟨Go.Proofs.Try.prog, Θ, [23, 68], [(50, ⟨h_circle_modulo, o_circle_modulo, circle_modulo n⟩), (15, ⟨h_circle_Norm, o_circle_Norm, circle_Norm n⟩)], [], []⟩
theorem d_circle_In (n : Nat) (x : h_circle_In.X T) : denF (c_circle_In n) n Go.Proofs.Try.f17 p_circle_In h_circle_In o_circle_In x = circle_In n x := by kernel_rfl
theorem s_circle_In (n : Nat) : PCalls Go.Proofs.Try.prog Θ 17 ⟨h_circle_In, o_circle_In, circle_In n⟩ :=
  func_ok' (C := c_circle_In n) (n := n) (p := p_circle_In) (ok_of mixed eqsOk ⟨s_circle_modulo n, s_circle_Norm n, trivial⟩ trivial trivial) Go.Proofs.Try.func17 (by kernel_rfl) (by kernel_rfl) (d_circle_In n) (by kernel_rfl)

/-- carrefour/carrefourref03.In -/
def h_ref03_In : Shape := ⟨slotsOf 3 [(0, .c (.hole (.int .i64))), (1, .agg [.hole (.int .i64), .hole (.int .i64)]), (2, .c (.hole (.int .i64)))], [], []⟩
def o_ref03_In : List (Ex × Shape) := [(.ret, ⟨slotsOf 1 [(0, .c (.hole (.bool)))], [], []⟩)]
def ref03_In (n : Nat) (x0 : Int × Int × Int × Int) : Option (Bool) :=
  letJ (fun (x2 : Int × Int × Bool × Int × Int) =>
    bif x2.2.2.1 then
      some false
    else
    bif decide (x2.1 ≤ x2.2.2.2.2) then
      some true
    else
    (ref03_Mod n (x2.2.1, x2.1)).bind fun y4 =>
    (ref03_Mod n (x2.2.2.2.1, x2.1)).bind fun y5 =>
    (ref03_Mod n (wrap64 (y4 - y5), x2.1)).bind fun y6 =>
    some (decide (y6 < x2.2.2.2.2))) fun J3 =>
  (ref03_Cycle n x0.1).bind fun y1 =>
  bif !y1 then
    J3 (x0.1, x0.2.2.2, true, x0.2.1, x0.2.2.1)
  else
  J3 (x0.1, x0.2.2.2, decide (x0.2.2.1 < 1), x0.2.1, x0.2.2.1)
def p_ref03_In : Plan := .two (.leaf) (.two (.two (.join ⟨slotsOf 34 [(0, .c (.hole (.int .i64))), (2, .c (.hole (.int .i64))), (4, .c (.box 4 0)), (14, .c (.hole (.bool)))], [(4, 23, [.hole (.int .i64), .hole (.int .i64)])], []⟩ (.leaf)) (.leaf)) (.leaf))
noncomputable def c_ref03_In (n : Nat) : Cx := ⟨Go.Proofs.Try.prog, Θ, [23, 68], [(27, ⟨h_ref03_Cycle, o_ref03_Cycle, ref03_Cycle n⟩), (28, ⟨h_ref03_Mod, o_ref03_Mod, ref03_Mod n⟩)], [], []⟩
theorem d_ref03_In (n : Nat) (x : h_ref03_In.X T) : denF (c_ref03_In n) n Go.Proofs.Try.f18 p_ref03_In h_ref03_In o_ref03_In x = ref03_In n x := by kernel_rfl
theorem s_ref03_In (n : Nat) : PCalls Go.Proofs.Try.prog Θ 18 ⟨h_ref03_In, o_ref03_In, ref03_In n⟩ :=
  func_ok' (C := c_ref03_In n) (n := n) (p := p_ref03_In) (ok_of mixed eqsOk ⟨s_ref03_Cycle n, s_ref03_Mod n, trivial⟩ trivial trivial) Go.Proofs.Try.func18 (by kernel_rfl) (by kernel_rfl) (d_ref03_In n) (by kernel_rfl)

/-- carrefour/circle.Gap -/
def h_circle_Gap : Shape := ⟨slotsOf 3 [(0, .c (.hole (.int .i64))), (1, .agg [.hole (.int .i64), .hole (.int .i64)]), (2, .agg [.hole (.int .i64), .hole (.int .i64)])], [], []⟩
def o_circle_Gap : List (Ex × Shape) := [(.ret, ⟨slotsOf 1 [(0, .c (.hole (.int .i64)))], [], []⟩)]
def circle_Gap (n : Nat) (x0 : Int × Int × Int × Int × Int) : Option (Int) :=
  (circle_Norm n (x0.1, x0.2.1, x0.2.2.1)).bind fun y1 =>
  (circle_Norm n (x0.1, x0.2.2.2)).bind fun y2 =>
  letJ (fun (x3 : Int × Bool × Int × Int × Int × Int) =>
    bif x3.2.1 then
      some 0
    else
    (circle_modulo n (wrap64 ((wrap64 (x3.2.2.2.2.1 - x3.2.2.1)) - x3.2.2.2.1), x3.1)).bind fun y5 =>
    some y5) fun J4 =>
  bif y1.2 == 0 then
    J4 (x0.1, true, y1.1, y1.2, y2)
  else
  bif y2.2 == 0 then
    J4 (x0.1, true, y1.1, y1.2, y2)
  else
  bif y1.2 == x0.1 then
    J4 (x0.1, true, y1.1, y1.2, y2)
  else
  J4 (x0.1, y2.2 == x0.1, y1.1, y1.2, y2)
def p_circle_Gap : Plan := .two (.leaf) (.two (.leaf) (.two (.two (.join ⟨slotsOf 43 [(0, .c (.hole (.int .i64))), (4, .c (.box 4 0)), (5, .c (.box 5 0)), (32, .c (.hole (.bool)))], [(4, 23, [.hole (.int .i64), .hole (.int .i64)]), (5, 23, [.hole (.int .i64), .hole (.int .i64)])], []⟩ (.leaf)) (.leaf)) (.leaf)))
noncomputable def c_circle_Gap (n : Nat) : Cx := ⟨Go.Proofs.Try.prog, Θ, [23, 68], [(50, ⟨h_circle_modulo, o_circle_modulo, circle_modulo n⟩), (15, ⟨h_circle_Norm, o_circle_Norm, circle_Norm n⟩)], [], []⟩
theorem d_circle_Gap (n : Nat) (x : h_circle_Gap.X T) : denF (c_circle_Gap n) n Go.Proofs.Try.f19 p_circle_Gap h_circle_Gap o_circle_Gap x = circle_Gap n x := by kernel_rfl
theorem s_circle_Gap (n : Nat) : PCalls Go.Proofs.Try.prog Θ 19 ⟨h_circle_Gap, o_circle_Gap, circle_Gap n⟩ :=
  func_ok' (C := c_circle_Gap n) (n := n) (p := p_circle_Gap) (ok_of mixed eqsOk ⟨s_circle_modulo n, s_circle_Norm n, trivial⟩ trivial trivial) Go.Proofs.Try.func19 (by kernel_rfl) (by kernel_rfl) (d_circle_Gap n) (by kernel_rfl)

/-- carrefour/carrefourref03.Gap -/
def h_ref03_Gap : Shape := ⟨slotsOf 3 [(0, .c (.hole (.int .i64))), (1, .agg [.hole (.int .i64), .hole (.int .i64)]), (2, .agg [.hole (.int .i64), .hole (.int .i64)])], [], []⟩
def o_ref03_Gap : List (Ex × Shape) := [(.ret, ⟨slotsOf 1 [(0, .c (.hole (.int .i64)))], [], []⟩)]
def ref03_Gap (n : Nat) (x0 : Int × Int × Int × Int × Int) : Option (Int) :=
  letJ (fun (x2 : Int × Bool × Int × Int × Int × Int) =>
    bif x2.2.1 then
      some 0
    else
    (iterL (Y := (Int)) n (fun (x4 : Int × Int × Int × Int × Int × Int) =>
      (ref03_Mod n (x4.2.2.1, x4.1)).bind fun y5 =>
      (ref03_Mod n (wrap64 ((wrap64 (y5 + x4.2.2.2.1)) + x4.2.1), x4.1)).bind fun y6 =>
      (ref03_Mod n (x4.2.2.2.2.1, x4.1)).bind fun y7 =>
      bif !(y6 == y7) then
        some (.inl (x4.1, wrap64 (x4.2.1 + 1), x4.2.2))
      else
      some (.inr x4.2.1)) (x2.1, 0, x2.2.2)).bind fun (z8 : Int) =>
      some z8) fun J3 =>
  (ref03_Cycle n x0.1).bind fun y1 =>
  bif !y1 then
    J3 (x0.1, true, x0.2)
  else
  bif decide (x0.2.2.1 < 1) then
    J3 (x0.1, true, x0.2)
  else
  bif decide (x0.2.2.2.2 < 1) then
    J3 (x0.1, true, x0.2)
  else
  bif decide (x0.1 ≤ x0.2.2.1) then
    J3 (x0.1, true, x0.2)
  else
  J3 (x0.1, decide (x0.1 ≤ x0.2.2.2.2), x0.2)
def p_ref03_Gap : Plan := .two (.leaf) (.two (.two (.join ⟨slotsOf 52 [(0, .c (.hole (.int .i64))), (4, .c (.box 4 0)), (5, .c (.box 5 0)), (32, .c (.hole (.bool)))], [(4, 23, [.hole (.int .i64), .hole (.int .i64)]), (5, 23, [.hole (.int .i64), .hole (.int .i64)])], []⟩ (.leaf)) (.leaf)) (.two (.leaf) (.two (.one (.loop ⟨slotsOf 52 [(0, .c (.hole (.int .i64))), (4, .c (.box 4 0)), (5, .c (.box 5 0)), (7, .c (.hole (.int .i64)))], [(4, 23, [.hole (.int .i64), .hole (.int .i64)]), (5, 23, [.hole (.int .i64), .hole (.int .i64)])], []⟩ [(.exit 0, ⟨slotsOf 52 [(7, .c (.hole (.int .i64)))], [], []⟩)] (.leaf))) (.leaf))))
noncomputable def c_ref03_Gap (n : Nat) : Cx := ⟨Go.Proofs.Try.prog, Θ, [23, 68], [(27, ⟨h_ref03_Cycle, o_ref03_Cycle, ref03_Cycle n⟩), (28, ⟨h_ref03_Mod, o_ref03_Mod, ref03_Mod n⟩)], [], []⟩
theorem d_ref03_Gap (n : Nat) (x : h_ref03_Gap.X T) : denF (c_ref03_Gap n) n Go.Proofs.Try.f20 p_ref03_Gap h_ref03_Gap o_ref03_Gap x = ref03_Gap n x := by kernel_rfl
theorem s_ref03_Gap (n : Nat) : PCalls Go.Proofs.Try.prog Θ 20 ⟨h_ref03_Gap, o_ref03_Gap, ref03_Gap n⟩ :=
  func_ok' (C := c_ref03_Gap n) (n := n) (p := p_ref03_Gap) (ok_of mixed eqsOk ⟨s_ref03_Cycle n, s_ref03_Mod n, trivial⟩ trivial trivial) Go.Proofs.Try.func20 (by kernel_rfl) (by kernel_rfl) (d_ref03_Gap n) (by kernel_rfl)

/-- carrefour/circle.cut -/
def h_circle_cut : Shape := ⟨slotsOf 2 [(0, .c (.hole (.int .i64))), (1, .c (.hole (.sl 23)))], [], []⟩
def o_circle_cut : List (Ex × Shape) := [(.ret, ⟨slotsOf 1 [(0, .c (.fn 76 [0, 1]))], [(0, 31, [.hole (.sl 23)]), (1, 2, [.hole (.int .i64)])], []⟩)]
def circle_cut (n : Nat) (x0 : Int × List (Int × Int)) : Option ((List (Int × Int)) × Int) :=
  some (x0.2, x0.1)
def p_circle_cut : Plan := .leaf
noncomputable def c_circle_cut (n : Nat) : Cx := ⟨Go.Proofs.Try.prog, Θ, [23, 68], [], [], []⟩
theorem d_circle_cut (n : Nat) (x : h_circle_cut.X T) : denF (c_circle_cut n) n Go.Proofs.Try.f70 p_circle_cut h_circle_cut o_circle_cut x = circle_cut n x := by kernel_rfl
theorem s_circle_cut (n : Nat) : PCalls Go.Proofs.Try.prog Θ 70 ⟨h_circle_cut, o_circle_cut, circle_cut n⟩ :=
  func_ok' (C := c_circle_cut n) (n := n) (p := p_circle_cut) (ok_of mixed eqsOk trivial trivial trivial) Go.Proofs.Try.func70 (by kernel_rfl) (by kernel_rfl) (d_circle_cut n) (by kernel_rfl)

/-- carrefour/circle.pieces_round -/
def h_circle_pieces_round : Shape := ⟨slotsOf 2 [(0, .agg [.hole (.int .i64), .hole (.int .i64)]), (1, .c (.box 1000000 0))], [(1000000, 65, [.row 1000000])], [(1000000, 68)]⟩
def o_circle_pieces_round : List (Ex × Shape) := [(.ret, ⟨slotsOf 1 [(0, .c (.hole (.bool)))], [(1000000, 65, [.row 2000000])], [(2000000, 68)]⟩)]
noncomputable def R_540 : Rng := rng Go.Proofs.Try.f54 0 [5]
def yok_540 : Prop := Θ.Y 540 = some R_540
def circle_pieces_round (n : Nat) (x0 : Int × Int × List (Int × Int)) : Option (Bool × List (Int × Int)) :=
  let e0 := (x0.1, x0.2.1) :: []
  bif fitB (x0.2.2.length + e0.length) 16 then
    some (true, x0.2.2 ++ e0)
  else
  none
def p_circle_pieces_round : Plan := .leaf
noncomputable def c_circle_pieces_round (n : Nat) : Cx := ⟨Go.Proofs.Try.prog, Θ, [23, 68], [], [], []⟩
theorem d_circle_pieces_round (n : Nat) (x : h_circle_pieces_round.X T) : denY (c_circle_pieces_round n) n R_540 p_circle_pieces_round h_circle_pieces_round o_circle_pieces_round x = circle_pieces_round n x := by kernel_rfl
theorem yokT_540 : yok_540 := by unfold yok_540; kernel_rfl
theorem s_circle_pieces_round (n : Nat) : PYields Go.Proofs.Try.prog Θ 540 ⟨h_circle_pieces_round, o_circle_pieces_round, circle_pieces_round n⟩ :=
  yield_ok (C := c_circle_pieces_round n) (n := n) (R := R_540) (p := p_circle_pieces_round) (ok_of mixed eqsOk trivial trivial trivial) yokT_540 (by kernel_rfl) (by kernel_rfl) (by kernel_rfl) (by kernel_rfl) (d_circle_pieces_round n)

/-- carrefour/circle.cut$1 -/
def h_circle_cut_1 : Shape := ⟨slotsOf 3 [(0, .yld 540 [.c (.box 1000000 0)]), (1, .c (.box 1000001 0)), (2, .c (.box 1000002 0))], [(1000000, 65, [.row 1000000]), (1000001, 31, [.hole (.sl 23)]), (1000002, 2, [.hole (.int .i64)])], [(1000000, 68)]⟩
def o_circle_cut_1 : List (Ex × Shape) := [(.ret, ⟨slotsOf 0 [], [(1000000, 65, [.row 2000000]), (1000001, 31, [.hole (.sl 23)]), (1000002, 2, [.hole (.int .i64)])], [(2000000, 68)]⟩)]
def circle_cut_1 (n : Nat) (x0 : (List (Int × Int)) × Int × List (Int × Int)) : Option ((List (Int × Int)) × Int × List (Int × Int)) :=
  (iterL (Y := ((List (Int × Int)) × Int × List (Int × Int)) ⊕ ((List (Int × Int)) × Int × List (Int × Int))) n (fun (x7 : (List (Int × Int)) × Int × Int × (List (Int × Int)) × Int × List (Int × Int)) =>
    bif decide (x7.2.2.1 < x7.2.1) then
      bif inB x7.2.2.1 x7.1.length then
        (circle_Norm n (x7.2.2.2.2.1, atI (0, 0) x7.1 x7.2.2.1)).bind fun y8 =>
        let e0 := wrap64 (y8.1 + y8.2)
        bif y8.2 == 0 then
          some (.inl (x7.1, x7.2.1, wrap64 (x7.2.2.1 + 1), x7.2.2.2))
        else
        letJ (fun (x11 : (List (Int × Int)) × Int × Int × Bool × (List (Int × Int)) × Int × List (Int × Int)) =>
          bif x11.2.2.2.1 then
            some (.inr (.inl x11.2.2.2.2))
          else
          some (.inl (x11.1, x11.2.1, wrap64 (x11.2.2.1 + 1), x11.2.2.2.2))) fun J12 =>
        (circle_pieces_round n (y8.1, mn e0 x7.2.2.2.2.1, x7.2.2.2.2.2)).bind fun y9 =>
        bif !y9.1 then
          J12 (x7.1, x7.2.1, x7.2.2.1, true, x7.2.2.2.1, x7.2.2.2.2.1, y9.2)
        else
        bif decide (x7.2.2.2.2.1 < e0) then
          (circle_pieces_round n (0, wrap64 (e0 - x7.2.2.2.2.1), y9.2)).bind fun y10 =>
          J12 (x7.1, x7.2.1, x7.2.2.1, !y10.1, x7.2.2.2.1, x7.2.2.2.2.1, y10.2)
        else
        J12 (x7.1, x7.2.1, x7.2.2.1, false, x7.2.2.2.1, x7.2.2.2.2.1, y9.2)
      else
      none
    else
    some (.inr (.inr x7.2.2.2))) (x0.1, ((x0.1.length : Nat) : Int), 0, x0)).bind (Sum.elim (fun (z13 : (List (Int × Int)) × Int × List (Int × Int)) =>
    some z13) (fun (z14 : (List (Int × Int)) × Int × List (Int × Int)) =>
    some z14))
def p_circle_cut_1 : Plan := .two (.leaf) (.one (.loop ⟨slotsOf 48 [(0, .yld 540 [.c (.box 1000000 0)]), (2, .c (.box 1000002 0)), (7, .c (.hole (.sl 23))), (8, .c (.hole (.int .i64))), (9, .c (.hole (.int .i64)))], [(1000000, 65, [.row 2000000]), (1000001, 31, [.hole (.sl 23)]), (1000002, 2, [.hole (.int .i64)])], [(2000000, 68)]⟩ [(.ret, ⟨slotsOf 48 [], [(1000000, 65, [.row 2000000]), (1000001, 31, [.hole (.sl 23)]), (1000002, 2, [.hole (.int .i64)])], [(2000000, 68)]⟩), (.exit 0, ⟨slotsOf 48 [], [(1000000, 65, [.row 2000000]), (1000001, 31, [.hole (.sl 23)]), (1000002, 2, [.hole (.int .i64)])], [(2000000, 68)]⟩)] (.two (.leaf) (.two (.leaf) (.two (.one (.two (.leaf) (.two (.leaf) (.two (.leaf) (.two (.leaf) (.two (.join ⟨slotsOf 48 [(0, .yld 540 [.c (.box 1000000 0)]), (2, .c (.box 1000002 0)), (7, .c (.hole (.sl 23))), (8, .c (.hole (.int .i64))), (9, .c (.hole (.int .i64))), (46, .c (.hole (.bool)))], [(1000000, 65, [.row 2000000]), (1000001, 31, [.hole (.sl 23)]), (1000002, 2, [.hole (.int .i64)])], [(2000000, 68)]⟩ (.leaf)) (.leaf))))))) (.leaf))))))
noncomputable def c_circle_cut_1 (n : Nat) : Cx := ⟨Go.Proofs.Try.prog, Θ, [23, 68], [(15, ⟨h_circle_Norm, o_circle_Norm, circle_Norm n⟩)], [(540, ⟨h_circle_pieces_round, o_circle_pieces_round, circle_pieces_round n⟩)], []⟩
theorem d_circle_cut_1 (n : Nat) (x : h_circle_cut_1.X T) : denF (c_circle_cut_1 n) n Go.Proofs.Try.f76 p_circle_cut_1 h_circle_cut_1 o_circle_cut_1 x = circle_cut_1 n x := by kernel_rfl
theorem s_circle_cut_1 (n : Nat) : PCalls Go.Proofs.Try.prog Θ 76 ⟨h_circle_cut_1, o_circle_cut_1, circle_cut_1 n⟩ :=
  func_ok' (C := c_circle_cut_1 n) (n := n) (p := p_circle_cut_1) (ok_of mixed eqsOk ⟨s_circle_Norm n, trivial⟩ ⟨s_circle_pieces_round n, trivial⟩ trivial) Go.Proofs.Try.func76 (by kernel_rfl) (by kernel_rfl) (d_circle_cut_1 n) (by kernel_rfl)

/-- carrefour/circle.pieces -/
def h_circle_pieces : Shape := ⟨slotsOf 2 [(0, .c (.hole (.int .i64))), (1, .c (.hole (.sl 23)))], [], []⟩
def o_circle_pieces : List (Ex × Shape) := [(.ret, ⟨slotsOf 1 [(0, .c (.row 0))], [], [(0, 68)]⟩)]
noncomputable def circle_pieces (n : Nat) (x0 : Int × List (Int × Int)) : Option (List (Int × Int)) :=
  (circle_cut n x0).bind fun y1 =>
  ifY yok_540 (
    (circle_cut_1 n (y1.1, y1.2, [])).bind fun y2 =>
    (slices_SortFunc n y2.2.2).bind fun y3 =>
    (iterL (Y := (List (Int × Int))) n (fun (x5 : Int × Int × (List (Int × Int)) × List (Int × Int)) =>
      bif decide (x5.2.1 < x5.1) then
        bif inB x5.2.1 x5.2.2.2.length then
          letJ (fun (x6 : Int × Int × Int × Bool × Int × Int × (List (Int × Int)) × List (Int × Int)) =>
            bif x6.2.2.2.1 then
              bif inB (wrap64 (x6.1 - 1)) x6.2.2.2.2.2.2.1.length then
                bif inB (wrap64 (x6.1 - 1)) x6.2.2.2.2.2.2.1.length then
                  some (.inl (x6.2.1, wrap64 (x6.2.2.1 + 1), List.set x6.2.2.2.2.2.2.1 (Int.toNat (wrap64 (x6.1 - 1))) ((atI (0, 0) x6.2.2.2.2.2.2.1 (wrap64 (x6.1 - 1))).1, mx (atI (0, 0) x6.2.2.2.2.2.2.1 (wrap64 (x6.1 - 1))).2 x6.2.2.2.2.2.1), x6.2.2.2.2.2.2.2))
                else
                none
              else
              none
            else
              bif fitB (x6.2.2.2.2.2.2.1.length + (List.length ((x6.2.2.2.2.1, x6.2.2.2.2.2.1) :: []))) 16 then
                some (.inl (x6.2.1, wrap64 (x6.2.2.1 + 1), x6.2.2.2.2.2.2.1 ++ ((x6.2.2.2.2.1, x6.2.2.2.2.2.1) :: []), x6.2.2.2.2.2.2.2))
              else
              none) fun J7 =>
          bif decide (0 < ((x5.2.2.1.length : Nat) : Int)) then
            bif inB (wrap64 (((x5.2.2.1.length : Nat) : Int) - 1)) x5.2.2.1.length then
              J7 (((x5.2.2.1.length : Nat) : Int), x5.1, x5.2.1, decide ((atI (0, 0) x5.2.2.2 x5.2.1).1 ≤ (atI (0, 0) x5.2.2.1 (wrap64 (((x5.2.2.1.length : Nat) : Int) - 1))).2), (atI (0, 0) x5.2.2.2 x5.2.1).1, (atI (0, 0) x5.2.2.2 x5.2.1).2, x5.2.2)
            else
            none
          else
          J7 (((x5.2.2.1.length : Nat) : Int), x5.1, x5.2.1, false, (atI (0, 0) x5.2.2.2 x5.2.1).1, (atI (0, 0) x5.2.2.2 x5.2.1).2, x5.2.2)
        else
        none
      else
      some (.inr x5.2.2.1)) (((y3.length : Nat) : Int), 0, [], y3)).bind fun (z8 : List (Int × Int)) =>
      some z8)
def p_circle_pieces : Plan := .two (.leaf) (.two (.leaf) (.two (.two (.leaf) (.one (.range 540 [5]))) (.two (.leaf) (.two (.leaf) (.two (.two (.leaf) (.one (.loop ⟨slotsOf 62 [(7, .c (.row 59)), (21, .c (.row 910500)), (22, .c (.hole (.int .i64))), (23, .c (.hole (.int .i64)))], [], [(59, 68), (910500, 68)]⟩ [(.exit 2, ⟨slotsOf 62 [(7, .c (.row 59))], [], [(59, 68)]⟩)] (.two (.leaf) (.two (.leaf) (.two (.one (.two (.leaf) (.two (.two (.leaf) (.two (.join ⟨slotsOf 62 [(7, .c (.row 59)), (9, .c (.box 9 0)), (10, .c (.hole (.int .i64))), (21, .c (.row 910500)), (22, .c (.hole (.int .i64))), (23, .c (.hole (.int .i64))), (41, .c (.hole (.bool)))], [(9, 68, [.hole (.int .i64), .hole (.int .i64)])], [(59, 68), (910500, 68)]⟩ (.leaf)) (.leaf))) (.leaf)))) (.leaf))))))) (.leaf))))))
noncomputable def c_circle_pieces (n : Nat) : Cx := ⟨Go.Proofs.Try.prog, Θ, [23, 68], [(71, ⟨h_slices_SortFunc, o_slices_SortFunc, slices_SortFunc n⟩), (70, ⟨h_circle_cut, o_circle_cut, circle_cut n⟩), (76, ⟨h_circle_cut_1, o_circle_cut_1, circle_cut_1 n⟩)], [], []⟩
theorem d_circle_pieces (n : Nat) (x : h_circle_pieces.X T) : denF (c_circle_pieces n) n Go.Proofs.Try.f54 p_circle_pieces h_circle_pieces o_circle_pieces x = circle_pieces n x := by kernel_rfl
theorem s_circle_pieces (n : Nat) : PCalls Go.Proofs.Try.prog Θ 54 ⟨h_circle_pieces, o_circle_pieces, circle_pieces n⟩ :=
  func_ok' (C := c_circle_pieces n) (n := n) (p := p_circle_pieces) (ok_of mixed eqsOk ⟨s_slices_SortFunc n, s_circle_cut n, s_circle_cut_1 n, trivial⟩ trivial trivial) Go.Proofs.Try.func54 (by kernel_rfl) (by kernel_rfl) (d_circle_pieces n) (by kernel_rfl)

/-- slices.Clone[[]carrefour/circle.piece,carrefour/circle.piece] -/
def h_slices_Clone : Shape := ⟨slotsOf 1 [(0, .c (.hole (.sl 68)))], [], []⟩
def o_slices_Clone : List (Ex × Shape) := [(.ret, ⟨slotsOf 1 [(0, .c (.row 0))], [], [(0, 68)]⟩)]
noncomputable def slices_Clone (n : Nat) (x0 : List (Int × Int)) : Option (List (Int × Int)) :=
  let e0 := fitB x0.length 16
  bif List.isEmpty x0 then
    both (
      some []) (
      bif e0 then
        some x0
      else
      none)
  else
    bif e0 then
      some x0
    else
    none
def p_slices_Clone : Plan := .leaf
noncomputable def c_slices_Clone (n : Nat) : Cx := ⟨Go.Proofs.Try.prog, Θ, [23, 68], [], [], []⟩
theorem d_slices_Clone (n : Nat) (x : h_slices_Clone.X T) : denF (c_slices_Clone n) n Go.Proofs.Try.f69 p_slices_Clone h_slices_Clone o_slices_Clone x = slices_Clone n x := by kernel_rfl
theorem s_slices_Clone (n : Nat) : PCalls Go.Proofs.Try.prog Θ 69 ⟨h_slices_Clone, o_slices_Clone, slices_Clone n⟩ :=
  func_ok' (C := c_slices_Clone n) (n := n) (p := p_slices_Clone) (ok_of mixed eqsOk trivial trivial trivial) Go.Proofs.Try.func69 (by kernel_rfl) (by kernel_rfl) (d_slices_Clone n) (by kernel_rfl)

/-- carrefour/circle.arcs -/
def h_circle_arcs : Shape := ⟨slotsOf 2 [(0, .c (.hole (.int .i64))), (1, .c (.hole (.sl 68)))], [], []⟩
def o_circle_arcs : List (Ex × Shape) := [(.ret, ⟨slotsOf 1 [(0, .c (.row 0))], [], [(0, 23)]⟩)]
noncomputable def circle_arcs (n : Nat) (x0 : Int × List (Int × Int)) : Option (List (Int × Int)) :=
  let e0 := x0.2.length
  let e1 := ((e0 : Nat) : Int)
  let e2 := wrap64 (e1 - 1)
  bif e1 == 0 then
    some []
  else
  letJ (fun (x4 : List (Int × Int)) =>
    (iterL (Y := (List (Int × Int))) n (fun (x7 : (List (Int × Int)) × Int × Int × List (Int × Int)) =>
      let e3 := atI (0, 0) x7.1 x7.2.2.1
      let e4 := e3.1
      let e5 := (e4, wrap64 (e3.2 - e4)) :: []
      bif decide (x7.2.2.1 < x7.2.1) then
        bif inB x7.2.2.1 x7.1.length then
          bif fitB (x7.2.2.2.length + e5.length) 16 then
            some (.inl (x7.1, x7.2.1, wrap64 (x7.2.2.1 + 1), x7.2.2.2 ++ e5))
          else
          none
        else
        none
      else
      some (.inr x7.2.2.2)) (x4, ((x4.length : Nat) : Int), 0, [])).bind fun (z8 : List (Int × Int)) =>
      some z8) fun J5 =>
  letJ (fun (x1 : Int × (List (Int × Int)) × Int × Bool) =>
    let e6 := x1.2.1.length
    let e7 := ((atI (0, 0) x1.2.1 x1.2.2.1).1, wrap64 (x1.1 + (atI (0, 0) x1.2.1 0).2)) :: []
    bif x1.2.2.2 then
      bif cutOk (some 1) (some x1.2.2.1) e6 then
        (slices_Clone n (cutList (some 1) (some x1.2.2.1) x1.2.1)).bind fun y3 =>
        bif inB x1.2.2.1 e6 then
          bif inB 0 e6 then
            bif fitB (y3.length + e7.length) 16 then
              J5 (y3 ++ e7)
            else
            none
          else
          none
        else
        none
      else
      none
    else
    J5 x1.2.1) fun J2 =>
  bif decide (0 < e2) then
    bif inB 0 e0 then
      bif (atI (0, 0) x0.2 0).1 == 0 then
        bif inB e2 e0 then
          J2 (x0.1, x0.2, e2, (atI (0, 0) x0.2 e2).2 == x0.1)
        else
        none
      else
      J2 (x0.1, x0.2, e2, false)
    else
    none
  else
  J2 (x0.1, x0.2, e2, false)
def p_circle_arcs : Plan := .two (.leaf) (.two (.leaf) (.two (.leaf) (.two (.join ⟨slotsOf 70 [(1, .c (.hole (.sl 68)))], [], []⟩ (.two (.join ⟨slotsOf 70 [(0, .c (.hole (.int .i64))), (1, .c (.hole (.sl 68))), (5, .c (.hole (.int .i64))), (32, .c (.hole (.bool)))], [], []⟩ (.leaf)) (.leaf))) (.two (.leaf) (.two (.two (.leaf) (.one (.loop ⟨slotsOf 70 [(6, .c (.row 67)), (51, .c (.hole (.sl 68))), (52, .c (.hole (.int .i64))), (53, .c (.hole (.int .i64)))], [], [(67, 23)]⟩ [(.exit 0, ⟨slotsOf 70 [(6, .c (.row 67))], [], [(67, 23)]⟩)] (.leaf)))) (.leaf))))))
noncomputable def c_circle_arcs (n : Nat) : Cx := ⟨Go.Proofs.Try.prog, Θ, [23, 68], [(69, ⟨h_slices_Clone, o_slices_Clone, slices_Clone n⟩)], [], []⟩
theorem d_circle_arcs (n : Nat) (x : h_circle_arcs.X T) : denF (c_circle_arcs n) n Go.Proofs.Try.f53 p_circle_arcs h_circle_arcs o_circle_arcs x = circle_arcs n x := by kernel_rfl
theorem s_circle_arcs (n : Nat) : PCalls Go.Proofs.Try.prog Θ 53 ⟨h_circle_arcs, o_circle_arcs, circle_arcs n⟩ :=
  func_ok' (C := c_circle_arcs n) (n := n) (p := p_circle_arcs) (ok_of mixed eqsOk ⟨s_slices_Clone n, trivial⟩ trivial trivial) Go.Proofs.Try.func53 (by kernel_rfl) (by kernel_rfl) (d_circle_arcs n) (by kernel_rfl)

/-- carrefour/circle.Set -/
def h_circle_Set : Shape := ⟨slotsOf 2 [(0, .c (.hole (.int .i64))), (1, .c (.hole (.sl 23)))], [], []⟩
def o_circle_Set : List (Ex × Shape) := [(.ret, ⟨slotsOf 1 [(0, .c (.row 0))], [], [(0, 23)]⟩)]
noncomputable def circle_Set (n : Nat) (x0 : Int × List (Int × Int)) : Option (List (Int × Int)) :=
  (circle_pieces n x0).bind fun y1 =>
  (circle_arcs n (x0.1, y1)).bind fun y2 =>
  some y2
def p_circle_Set : Plan := .leaf
noncomputable def c_circle_Set (n : Nat) : Cx := ⟨Go.Proofs.Try.prog, Θ, [23, 68], [(54, ⟨h_circle_pieces, o_circle_pieces, circle_pieces n⟩), (53, ⟨h_circle_arcs, o_circle_arcs, circle_arcs n⟩)], [], []⟩
theorem d_circle_Set (n : Nat) (x : h_circle_Set.X T) : denF (c_circle_Set n) n Go.Proofs.Try.f22 p_circle_Set h_circle_Set o_circle_Set x = circle_Set n x := by kernel_rfl
theorem s_circle_Set (n : Nat) : PCalls Go.Proofs.Try.prog Θ 22 ⟨h_circle_Set, o_circle_Set, circle_Set n⟩ :=
  func_ok' (C := c_circle_Set n) (n := n) (p := p_circle_Set) (ok_of mixed eqsOk ⟨s_circle_pieces n, s_circle_arcs n, trivial⟩ trivial trivial) Go.Proofs.Try.func22 (by kernel_rfl) (by kernel_rfl) (d_circle_Set n) (by kernel_rfl)

/-- carrefour/circle.between -/
def h_circle_between : Shape := ⟨slotsOf 2 [(0, .c (.hole (.int .i64))), (1, .c (.hole (.sl 68)))], [], []⟩
def o_circle_between : List (Ex × Shape) := [(.ret, ⟨slotsOf 1 [(0, .c (.row 0))], [], [(0, 68)]⟩)]
def circle_between (n : Nat) (x0 : Int × List (Int × Int)) : Option (List (Int × Int)) :=
  (iterL (Y := (Int × Int × List (Int × Int))) n (fun (x2 : Int × Int × (List (Int × Int)) × Int × Int × List (Int × Int)) =>
    let e0 := atI (0, 0) x2.2.2.1 x2.2.2.2.2.1
    let e1 := e0.1
    let e2 := (x2.2.1, e1) :: []
    let e3 := e0.2
    let e4 := wrap64 (x2.2.2.2.2.1 + 1)
    bif decide (x2.2.2.2.2.1 < x2.2.2.2.1) then
      bif inB x2.2.2.2.2.1 x2.2.2.1.length then
        bif decide (x2.2.1 < e1) then
          bif fitB (x2.2.2.2.2.2.length + e2.length) 16 then
            some (.inl (x2.1, e3, x2.2.2.1, x2.2.2.2.1, e4, x2.2.2.2.2.2 ++ e2))
          else
          none
        else
        some (.inl (x2.1, e3, x2.2.2.1, x2.2.2.2.1, e4, x2.2.2.2.2.2))
      else
      none
    else
    some (.inr (x2.1, x2.2.1, x2.2.2.2.2.2))) (x0.1, 0, x0.2, ((x0.2.length : Nat) : Int), 0, [])).bind fun (z3 : Int × Int × List (Int × Int)) =>
    let e5 := (z3.2.1, z3.1) :: []
    bif decide (z3.2.1 < z3.1) then
      bif fitB (z3.2.2.length + e5.length) 16 then
        some (z3.2.2 ++ e5)
      else
      none
    else
    some z3.2.2
def p_circle_between : Plan := .two (.leaf) (.two (.leaf) (.two (.leaf) (.two (.two (.leaf) (.one (.loop ⟨slotsOf 39 [(0, .c (.hole (.int .i64))), (5, .c (.row 25)), (6, .c (.hole (.int .i64))), (9, .c (.hole (.sl 68))), (10, .c (.hole (.int .i64))), (11, .c (.hole (.int .i64)))], [], [(25, 68)]⟩ [(.exit 0, ⟨slotsOf 39 [(0, .c (.hole (.int .i64))), (5, .c (.row 25)), (6, .c (.hole (.int .i64)))], [], [(25, 68)]⟩)] (.leaf)))) (.leaf))))
noncomputable def c_circle_between (n : Nat) : Cx := ⟨Go.Proofs.Try.prog, Θ, [23, 68], [], [], []⟩
theorem d_circle_between (n : Nat) (x : h_circle_between.X T) : denF (c_circle_between n) n Go.Proofs.Try.f59 p_circle_between h_circle_between o_circle_between x = circle_between n x := by kernel_rfl
theorem s_circle_between (n : Nat) : PCalls Go.Proofs.Try.prog Θ 59 ⟨h_circle_between, o_circle_between, circle_between n⟩ :=
  func_ok' (C := c_circle_between n) (n := n) (p := p_circle_between) (ok_of mixed eqsOk trivial trivial trivial) Go.Proofs.Try.func59 (by kernel_rfl) (by kernel_rfl) (d_circle_between n) (by kernel_rfl)

/-- carrefour/circle.Rest -/
def h_circle_Rest : Shape := ⟨slotsOf 2 [(0, .c (.hole (.int .i64))), (1, .c (.hole (.sl 23)))], [], []⟩
def o_circle_Rest : List (Ex × Shape) := [(.ret, ⟨slotsOf 1 [(0, .c (.row 0))], [], [(0, 23)]⟩)]
noncomputable def circle_Rest (n : Nat) (x0 : Int × List (Int × Int)) : Option (List (Int × Int)) :=
  (circle_cycle n x0.1).bind fun y1 =>
  bif !y1 then
    some []
  else
  (circle_pieces n x0).bind fun y2 =>
  (circle_between n (x0.1, y2)).bind fun y3 =>
  (circle_arcs n (x0.1, y3)).bind fun y4 =>
  some y4
def p_circle_Rest : Plan := .leaf
noncomputable def c_circle_Rest (n : Nat) : Cx := ⟨Go.Proofs.Try.prog, Θ, [23, 68], [(49, ⟨h_circle_cycle, o_circle_cycle, circle_cycle n⟩), (54, ⟨h_circle_pieces, o_circle_pieces, circle_pieces n⟩), (53, ⟨h_circle_arcs, o_circle_arcs, circle_arcs n⟩), (59, ⟨h_circle_between, o_circle_between, circle_between n⟩)], [], []⟩
theorem d_circle_Rest (n : Nat) (x : h_circle_Rest.X T) : denF (c_circle_Rest n) n Go.Proofs.Try.f34 p_circle_Rest h_circle_Rest o_circle_Rest x = circle_Rest n x := by kernel_rfl
theorem s_circle_Rest (n : Nat) : PCalls Go.Proofs.Try.prog Θ 34 ⟨h_circle_Rest, o_circle_Rest, circle_Rest n⟩ :=
  func_ok' (C := c_circle_Rest n) (n := n) (p := p_circle_Rest) (ok_of mixed eqsOk ⟨s_circle_cycle n, s_circle_pieces n, s_circle_arcs n, s_circle_between n, trivial⟩ trivial trivial) Go.Proofs.Try.func34 (by kernel_rfl) (by kernel_rfl) (d_circle_Rest n) (by kernel_rfl)

end Go.Proofs.Ytemhdliapelleaa.Fn
