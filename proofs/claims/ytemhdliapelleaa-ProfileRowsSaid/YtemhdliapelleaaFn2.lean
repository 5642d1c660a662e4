/- Functions of the program, each as a plain function, and that the machine does what it says. -/
import Derived.Test.YtemhdliapelleaaFn1
namespace Go.Proofs.Ytemhdliapelleaa.Fn
set_option linter.unusedVariables false
set_option maxRecDepth 100000
open Go Go.RowKit Go.Den
/-- carrefour/carrefourlaw03.CircleRests -/
def h_law03_CircleRests : Shape := ⟨slotsOf 3 [(0, .c (.hole (.int .i64))), (1, .c (.hole (.sl 23))), (2, .c (.hole (.sl 23)))], [], []⟩
def o_law03_CircleRests : List (Ex × Shape) := [(.ret, ⟨slotsOf 1 [(0, .c (.hole (.bool)))], [], []⟩)]
noncomputable def law03_CircleRests (n : Nat) (x0 : Int × (List (Int × Int)) × List (Int × Int)) : Option (Bool) :=
  (law03_few n (x0.1, x0.2.1 :: (x0.2.2 :: []))).bind fun y1 =>
  bif !y1 then
    some true
  else
  (circle_Rest n (x0.1, x0.2.1)).bind fun y2 =>
  letJ (fun (x7 : Int × (List (Int × Int)) × (List (Int × Int)) × Bool × List (Int × Int)) =>
    bif x7.2.2.2.1 then
      some false
    else
    letJ (fun (x12 : Int × (List (Int × Int)) × (List (Int × Int)) × Bool × List (Int × Int)) =>
      let e0 := x12.2.2.2.2.length
      bif x12.2.2.2.1 then
        some false
      else
      (circle_Meet n (x12.1, x12.2.1, x12.2.2.1)).bind fun y14 =>
      (circle_Rest n (x12.1, y14)).bind fun y15 =>
      bif fitB e0 16 then
        (circle_Rest n (x12.1, x12.2.2.1)).bind fun y16 =>
        bif fitB (e0 + y16.length) 16 then
          (circle_Set n (x12.1, x12.2.2.2.2 ++ y16)).bind fun y17 =>
          (circle_Less n (x12.1, x12.2.1, x12.2.2.1)).bind fun y18 =>
          (ref03_Same n (y15, y17)).bind fun y19 =>
          bif y19 then
            (circle_Rest n (x12.1, x12.2.2.1)).bind fun y20 =>
            (circle_Meet n (x12.1, x12.2.1, y20)).bind fun y21 =>
            (ref03_Same n (y18, y21)).bind fun y22 =>
            bif y22 then
              (law03_awake n ()).bind fun y23 =>
              some y23
            else
            some false
          else
          some false
        else
        none
      else
      none) fun J13 =>
    (ref03_Cycle n x7.1).bind fun y9 =>
    bif y9 then
      (circle_Total n (x7.1, x7.2.1)).bind fun y10 =>
      (circle_Total n (x7.1, x7.2.2.2.2)).bind fun y11 =>
      J13 (x7.1, x7.2.1, x7.2.2.1, !((wrap64 (y10 + y11)) == x7.1), x7.2.2.2.2)
    else
    J13 (x7.1, x7.2.1, x7.2.2.1, false, x7.2.2.2.2)) fun J8 =>
  (circle_Meet n (x0.1, x0.2.1, y2)).bind fun y3 =>
  bif !(((y3.length : Nat) : Int) == 0) then
    J8 (x0.1, x0.2.1, x0.2.2, true, y2)
  else
  (circle_Rest n (x0.1, y2)).bind fun y4 =>
  (circle_Set n (x0.1, x0.2.1)).bind fun y5 =>
  (ref03_Same n (y4, y5)).bind fun y6 =>
  J8 (x0.1, x0.2.1, x0.2.2, !y6, y2)
def p_law03_CircleRests : Plan := .two (.leaf) (.two (.leaf) (.two (.leaf) (.two (.two (.join ⟨slotsOf 84 [(0, .c (.hole (.int .i64))), (1, .c (.hole (.sl 23))), (2, .c (.hole (.sl 23))), (7, .c (.row 11900)), (35, .c (.hole (.bool)))], [], [(11900, 23)]⟩ (.leaf)) (.leaf)) (.two (.two (.join ⟨slotsOf 84 [(0, .c (.hole (.int .i64))), (1, .c (.hole (.sl 23))), (2, .c (.hole (.sl 23))), (7, .c (.row 11900)), (48, .c (.hole (.bool)))], [], [(11900, 23)]⟩ (.leaf)) (.leaf)) (.leaf)))))
noncomputable def c_law03_CircleRests (n : Nat) : Cx := ⟨Go.Proofs.Try.prog, Θ, [23, 68], [(14, ⟨h_law03_few, o_law03_few, law03_few n⟩), (27, ⟨h_ref03_Cycle, o_ref03_Cycle, ref03_Cycle n⟩), (22, ⟨h_circle_Set, o_circle_Set, circle_Set n⟩), (34, ⟨h_circle_Rest, o_circle_Rest, circle_Rest n⟩), (23, ⟨h_ref03_Same, o_ref03_Same, ref03_Same n⟩), (21, ⟨h_law03_awake, o_law03_awake, law03_awake n⟩), (26, ⟨h_circle_Total, o_circle_Total, circle_Total n⟩), (30, ⟨h_circle_Meet, o_circle_Meet, circle_Meet n⟩), (32, ⟨h_circle_Less, o_circle_Less, circle_Less n⟩)], [], []⟩
theorem d_law03_CircleRests (n : Nat) (x : h_law03_CircleRests.X T) : denF (c_law03_CircleRests n) n Go.Proofs.Try.f9 p_law03_CircleRests h_law03_CircleRests o_law03_CircleRests x = law03_CircleRests n x := by kernel_rfl
theorem s_law03_CircleRests (n : Nat) : PCalls Go.Proofs.Try.prog Θ 9 ⟨h_law03_CircleRests, o_law03_CircleRests, law03_CircleRests n⟩ :=
  func_ok' (C := c_law03_CircleRests n) (n := n) (p := p_law03_CircleRests) (ok_of mixed eqsOk ⟨s_law03_few n, s_ref03_Cycle n, s_circle_Set n, s_circle_Rest n, s_ref03_Same n, s_law03_awake n, s_circle_Total n, s_circle_Meet n, s_circle_Less n, trivial⟩ trivial trivial) Go.Proofs.Try.func9 (by kernel_rfl) (by kernel_rfl) (d_law03_CircleRests n) (by kernel_rfl)

/-- carrefour/profile.few$1 -/
def h_profile_few_1 : Shape := ⟨slotsOf 1 [(0, .c (.hole (.int .i64)))], [], []⟩
def o_profile_few_1 : List (Ex × Shape) := [(.ret, ⟨slotsOf 1 [(0, .c (.hole (.bool)))], [], []⟩)]
def profile_few_1 (n : Nat) (x0 : Int) : Option (Bool) :=
  bif decide (x0 < 0) then
    some true
  else
  some (decide (1000000000 < x0))
def p_profile_few_1 : Plan := .leaf
noncomputable def c_profile_few_1 (n : Nat) : Cx := ⟨Go.Proofs.Try.prog, Θ, [23, 68], [], [], []⟩
theorem d_profile_few_1 (n : Nat) (x : h_profile_few_1.X T) : denF (c_profile_few_1 n) n Go.Proofs.Try.f75 p_profile_few_1 h_profile_few_1 o_profile_few_1 x = profile_few_1 n x := by kernel_rfl
theorem s_profile_few_1 (n : Nat) : PCalls Go.Proofs.Try.prog Θ 75 ⟨h_profile_few_1, o_profile_few_1, profile_few_1 n⟩ :=
  func_ok' (C := c_profile_few_1 n) (n := n) (p := p_profile_few_1) (ok_of mixed eqsOk trivial trivial trivial) Go.Proofs.Try.func75 (by kernel_rfl) (by kernel_rfl) (d_profile_few_1 n) (by kernel_rfl)

/-- slices.IndexFunc[[]int64,int64] -/
def h_slices_IndexFunc : Shape := ⟨slotsOf 2 [(0, .c (.hole (.sl 2))), (1, .c (.fn 75 []))], [], []⟩
def o_slices_IndexFunc : List (Ex × Shape) := [(.ret, ⟨slotsOf 1 [(0, .c (.hole (.int .i64)))], [], []⟩)]
def slices_IndexFunc (n : Nat) (x0 : List Int) : Option (Int) :=
  (iterL (Y := (Int) ⊕ (Unit)) n (fun (x1 : (List Int) × Int × Int) =>
    bif decide (x1.2.2 < x1.2.1) then
      bif inB x1.2.2 x1.1.length then
        (profile_few_1 n (atI 0 x1.1 x1.2.2)).bind fun y2 =>
        bif y2 then
          some (.inr (.inl x1.2.2))
        else
        some (.inl (x1.1, x1.2.1, wrap64 (x1.2.2 + 1)))
      else
      none
    else
    some (.inr (.inr ()))) (x0, ((x0.length : Nat) : Int), 0)).bind (Sum.elim (fun (z3 : Int) =>
    some z3) (fun (z4 : Unit) =>
    some (-1)))
def p_slices_IndexFunc : Plan := .two (.leaf) (.two (.two (.leaf) (.one (.loop ⟨slotsOf 19 [(0, .c (.hole (.sl 2))), (1, .c (.fn 75 [])), (7, .c (.hole (.int .i64))), (8, .c (.hole (.int .i64)))], [], []⟩ [(.ret, ⟨slotsOf 19 [(4, .c (.hole (.int .i64)))], [], []⟩), (.exit 0, ⟨slotsOf 19 [], [], []⟩)] (.leaf)))) (.leaf))
noncomputable def c_slices_IndexFunc (n : Nat) : Cx := ⟨Go.Proofs.Try.prog, Θ, [23, 68], [(75, ⟨h_profile_few_1, o_profile_few_1, profile_few_1 n⟩)], [], []⟩
theorem d_slices_IndexFunc (n : Nat) (x : h_slices_IndexFunc.X T) : denF (c_slices_IndexFunc n) n Go.Proofs.Try.f79 p_slices_IndexFunc h_slices_IndexFunc o_slices_IndexFunc x = slices_IndexFunc n x := by kernel_rfl
theorem s_slices_IndexFunc (n : Nat) : PCalls Go.Proofs.Try.prog Θ 79 ⟨h_slices_IndexFunc, o_slices_IndexFunc, slices_IndexFunc n⟩ :=
  func_ok' (C := c_slices_IndexFunc n) (n := n) (p := p_slices_IndexFunc) (ok_of mixed eqsOk ⟨s_profile_few_1 n, trivial⟩ trivial trivial) Go.Proofs.Try.func79 (by kernel_rfl) (by kernel_rfl) (d_slices_IndexFunc n) (by kernel_rfl)

/-- slices.ContainsFunc[[]int64,int64] -/
def h_slices_ContainsFunc : Shape := ⟨slotsOf 2 [(0, .c (.hole (.sl 2))), (1, .c (.fn 75 []))], [], []⟩
def o_slices_ContainsFunc : List (Ex × Shape) := [(.ret, ⟨slotsOf 1 [(0, .c (.hole (.bool)))], [], []⟩)]
def slices_ContainsFunc (n : Nat) (x0 : List Int) : Option (Bool) :=
  (slices_IndexFunc n x0).bind fun y1 =>
  some (decide (0 ≤ y1))
def p_slices_ContainsFunc : Plan := .leaf
noncomputable def c_slices_ContainsFunc (n : Nat) : Cx := ⟨Go.Proofs.Try.prog, Θ, [23, 68], [(79, ⟨h_slices_IndexFunc, o_slices_IndexFunc, slices_IndexFunc n⟩)], [], []⟩
theorem d_slices_ContainsFunc (n : Nat) (x : h_slices_ContainsFunc.X T) : denF (c_slices_ContainsFunc n) n Go.Proofs.Try.f74 p_slices_ContainsFunc h_slices_ContainsFunc o_slices_ContainsFunc x = slices_ContainsFunc n x := by kernel_rfl
theorem s_slices_ContainsFunc (n : Nat) : PCalls Go.Proofs.Try.prog Θ 74 ⟨h_slices_ContainsFunc, o_slices_ContainsFunc, slices_ContainsFunc n⟩ :=
  func_ok' (C := c_slices_ContainsFunc n) (n := n) (p := p_slices_ContainsFunc) (ok_of mixed eqsOk ⟨s_slices_IndexFunc n, trivial⟩ trivial trivial) Go.Proofs.Try.func74 (by kernel_rfl) (by kernel_rfl) (d_slices_ContainsFunc n) (by kernel_rfl)

/-- carrefour/profile.few -/
def h_profile_few : Shape := ⟨slotsOf 1 [(0, .c (.hole (.sl 2)))], [], []⟩
def o_profile_few : List (Ex × Shape) := [(.ret, ⟨slotsOf 1 [(0, .c (.hole (.bool)))], [], []⟩)]
def profile_few (n : Nat) (x0 : List Int) : Option (Bool) :=
  (slices_ContainsFunc n x0).bind fun y1 =>
  some (!y1)
def p_profile_few : Plan := .leaf
noncomputable def c_profile_few (n : Nat) : Cx := ⟨Go.Proofs.Try.prog, Θ, [23, 68], [(74, ⟨h_slices_ContainsFunc, o_slices_ContainsFunc, slices_ContainsFunc n⟩)], [], []⟩
theorem d_profile_few (n : Nat) (x : h_profile_few.X T) : denF (c_profile_few n) n Go.Proofs.Try.f60 p_profile_few h_profile_few o_profile_few x = profile_few n x := by kernel_rfl
theorem s_profile_few (n : Nat) : PCalls Go.Proofs.Try.prog Θ 60 ⟨h_profile_few, o_profile_few, profile_few n⟩ :=
  func_ok' (C := c_profile_few n) (n := n) (p := p_profile_few) (ok_of mixed eqsOk ⟨s_slices_ContainsFunc n, trivial⟩ trivial trivial) Go.Proofs.Try.func60 (by kernel_rfl) (by kernel_rfl) (d_profile_few n) (by kernel_rfl)

/-- carrefour/profile.Sum -/
def h_profile_Sum : Shape := ⟨slotsOf 1 [(0, .c (.hole (.sl 2)))], [], []⟩
def o_profile_Sum : List (Ex × Shape) := [(.ret, ⟨slotsOf 1 [(0, .c (.hole (.int .i64)))], [], []⟩)]
def profile_Sum (n : Nat) (x0 : List Int) : Option (Int) :=
  letJ (fun (x2 : (List Int) × Bool) =>
    bif x2.2 then
      some 0
    else
    (iterL (Y := (Int)) n (fun (x4 : Int × (List Int) × Int × Int) =>
      bif decide (x4.2.2.2 < x4.2.2.1) then
        bif inB x4.2.2.2 x4.2.1.length then
          some (.inl (wrap64 (x4.1 + (atI 0 x4.2.1 x4.2.2.2)), x4.2.1, x4.2.2.1, wrap64 (x4.2.2.2 + 1)))
        else
        none
      else
      some (.inr x4.1)) (0, x2.1, ((x2.1.length : Nat) : Int), 0)).bind fun (z5 : Int) =>
      some z5) fun J3 =>
  bif decide (6000 < ((x0.length : Nat) : Int)) then
    J3 (x0, true)
  else
  (profile_few n x0).bind fun y1 =>
  J3 (x0, !y1)
def p_profile_Sum : Plan := .two (.leaf) (.two (.two (.join ⟨slotsOf 25 [(0, .c (.hole (.sl 2))), (13, .c (.hole (.bool)))], [], []⟩ (.leaf)) (.leaf)) (.two (.leaf) (.two (.two (.leaf) (.one (.loop ⟨slotsOf 25 [(3, .c (.hole (.int .i64))), (14, .c (.hole (.sl 2))), (15, .c (.hole (.int .i64))), (16, .c (.hole (.int .i64)))], [], []⟩ [(.exit 0, ⟨slotsOf 25 [(3, .c (.hole (.int .i64)))], [], []⟩)] (.leaf)))) (.leaf))))
noncomputable def c_profile_Sum (n : Nat) : Cx := ⟨Go.Proofs.Try.prog, Θ, [23, 68], [(60, ⟨h_profile_few, o_profile_few, profile_few n⟩)], [], []⟩
theorem d_profile_Sum (n : Nat) (x : h_profile_Sum.X T) : denF (c_profile_Sum n) n Go.Proofs.Try.f43 p_profile_Sum h_profile_Sum o_profile_Sum x = profile_Sum n x := by kernel_rfl
theorem s_profile_Sum (n : Nat) : PCalls Go.Proofs.Try.prog Θ 43 ⟨h_profile_Sum, o_profile_Sum, profile_Sum n⟩ :=
  func_ok' (C := c_profile_Sum n) (n := n) (p := p_profile_Sum) (ok_of mixed eqsOk ⟨s_profile_few n, trivial⟩ trivial trivial) Go.Proofs.Try.func43 (by kernel_rfl) (by kernel_rfl) (d_profile_Sum n) (by kernel_rfl)

/-- carrefour/profile.newLight -/
def h_profile_newLight : Shape := ⟨slotsOf 3 [(0, .c (.hole (.int .i64))), (1, .agg [.hole (.int .i64), .hole (.int .i64)]), (2, .c (.hole (.int .i64)))], [], []⟩
def o_profile_newLight : List (Ex × Shape) := [(.ret, ⟨slotsOf 1 [(0, .c (.box 0 0))], [(0, 92, [.hole (.int .i64), .row 0, .hole (.int .i64)])], [(0, 4)]⟩)]
noncomputable def profile_newLight (n : Nat) (x0 : Int × Int × Int × Int) : Option (Int × Int × List Bool) :=
  bif x0.1 == x0.1 && decide (0 ≤ x0.1) && decide (x0.1 * 1 ≤ 281474976710656) then
    (circle_Set n (x0.1, (x0.2.1, x0.2.2.1) :: [])).bind fun y1 =>
    (iterL (Y := (Int × Int × List Bool)) n (fun (x2 : Int × Int × Int × Int × Int × (List (Int × Int)) × List Bool) =>
      let e0 := atI (0, 0) x2.2.2.2.2.2.1 x2.2.2.1
      let e1 := e0.2
      bif decide (x2.2.2.1 < x2.2.1) then
        bif inB x2.2.2.1 x2.2.2.2.2.2.1.length then
          (iterL (Y := (Int × Int × Int × Int × Int × (List (Int × Int)) × List Bool)) n (fun (x3 : Int × Int × Int × Int × Int × Int × Int × Int × Int × (List (Int × Int)) × List Bool) =>
            let e2 := Int.tmod (wrap64 (x3.2.2.2.2.2.2.2.1 + x3.2.2.2.2.1)) x3.1
            bif decide (x3.2.2.2.2.1 < x3.2.2.2.1) then
              bif !(x3.1 == 0) then
                bif inB e2 x3.2.2.2.2.2.2.2.2.2.2.length then
                  some (.inl (x3.1, x3.2.1, x3.2.2.1, x3.2.2.2.1, wrap64 (x3.2.2.2.2.1 + 1), x3.2.2.2.2.2.1, x3.2.2.2.2.2.2.1, x3.2.2.2.2.2.2.2.1, x3.2.2.2.2.2.2.2.2.1, x3.2.2.2.2.2.2.2.2.2.1, List.set x3.2.2.2.2.2.2.2.2.2.2 (Int.toNat e2) true))
                else
                none
              else
              none
            else
            some (.inr (x3.1, x3.2.1, x3.2.2.1, x3.2.2.2.2.2.1, x3.2.2.2.2.2.2.1, x3.2.2.2.2.2.2.2.2.2))) (x2.1, x2.2.1, x2.2.2.1, e1, 0, x2.2.2.2.1, x2.2.2.2.2.1, e0.1, e1, x2.2.2.2.2.2)).bind fun (z4 : Int × Int × Int × Int × Int × (List (Int × Int)) × List Bool) =>
            some (.inl (z4.1, z4.2.1, wrap64 (z4.2.2.1 + 1), z4.2.2.2))
        else
        none
      else
      some (.inr (x2.2.2.2.1, x2.2.2.2.2.1, x2.2.2.2.2.2.2))) (x0.1, ((y1.length : Nat) : Int), 0, x0.1, x0.2.2.2, y1, List.replicate (Int.toNat x0.1) false)).bind fun (z5 : Int × Int × List Bool) =>
      some z5
  else
  none
def p_profile_newLight : Plan := .two (.leaf) (.two (.leaf) (.two (.two (.leaf) (.one (.loop ⟨slotsOf 45 [(0, .c (.hole (.int .i64))), (7, .c (.box 16 0)), (20, .c (.row 12000)), (21, .c (.hole (.int .i64))), (22, .c (.hole (.int .i64)))], [(16, 92, [.hole (.int .i64), .row 13, .hole (.int .i64)])], [(12000, 23), (13, 4)]⟩ [(.exit 0, ⟨slotsOf 45 [(7, .c (.box 16 0))], [(16, 92, [.hole (.int .i64), .row 13, .hole (.int .i64)])], [(13, 4)]⟩)] (.two (.leaf) (.two (.leaf) (.two (.one (.two (.leaf) (.two (.leaf) (.one (.loop ⟨slotsOf 45 [(0, .c (.hole (.int .i64))), (7, .c (.box 16 0)), (9, .c (.box 9 0)), (20, .c (.row 12000)), (21, .c (.hole (.int .i64))), (22, .c (.hole (.int .i64))), (27, .c (.hole (.int .i64))), (28, .c (.hole (.int .i64)))], [(16, 92, [.hole (.int .i64), .row 13, .hole (.int .i64)]), (9, 23, [.hole (.int .i64), .hole (.int .i64)])], [(12000, 23), (13, 4)]⟩ [(.exit 2, ⟨slotsOf 45 [(0, .c (.hole (.int .i64))), (7, .c (.box 16 0)), (20, .c (.row 12000)), (21, .c (.hole (.int .i64))), (22, .c (.hole (.int .i64)))], [(16, 92, [.hole (.int .i64), .row 13, .hole (.int .i64)])], [(12000, 23), (13, 4)]⟩)] (.leaf)))))) (.leaf))))))) (.leaf)))
noncomputable def c_profile_newLight (n : Nat) : Cx := ⟨Go.Proofs.Try.prog, Θ, [23, 68], [(22, ⟨h_circle_Set, o_circle_Set, circle_Set n⟩)], [], []⟩
theorem d_profile_newLight (n : Nat) (x : h_profile_newLight.X T) : denF (c_profile_newLight n) n Go.Proofs.Try.f61 p_profile_newLight h_profile_newLight o_profile_newLight x = profile_newLight n x := by kernel_rfl
theorem s_profile_newLight (n : Nat) : PCalls Go.Proofs.Try.prog Θ 61 ⟨h_profile_newLight, o_profile_newLight, profile_newLight n⟩ :=
  func_ok' (C := c_profile_newLight n) (n := n) (p := p_profile_newLight) (ok_of mixed eqsOk ⟨s_circle_Set n, trivial⟩ trivial trivial) Go.Proofs.Try.func61 (by kernel_rfl) (by kernel_rfl) (d_profile_newLight n) (by kernel_rfl)

/-- (*carrefour/profile.light).room -/
def h_profile_light_room : Shape := ⟨slotsOf 2 [(0, .cel [.int .i64, .sl 4, .int .i64]), (1, .c (.hole (.int .i64)))], [], []⟩
def o_profile_light_room : List (Ex × Shape) := [(.ret, ⟨slotsOf 1 [(0, .c (.hole (.int .i64)))], [], []⟩)]
def profile_light_room (n : Nat) (x0 : Int × (List Bool) × Int × Int) : Option (Int) :=
  bif inB x0.2.2.2 x0.2.1.length then
    bif atI false x0.2.1 x0.2.2.2 then
      some x0.2.2.1
    else
    some 0
  else
  none
def p_profile_light_room : Plan := .leaf
noncomputable def c_profile_light_room (n : Nat) : Cx := ⟨Go.Proofs.Try.prog, Θ, [23, 68], [], [], []⟩
theorem d_profile_light_room (n : Nat) (x : h_profile_light_room.X T) : denF (c_profile_light_room n) n Go.Proofs.Try.f63 p_profile_light_room h_profile_light_room o_profile_light_room x = profile_light_room n x := by kernel_rfl
theorem s_profile_light_room (n : Nat) : PCalls Go.Proofs.Try.prog Θ 63 ⟨h_profile_light_room, o_profile_light_room, profile_light_room n⟩ :=
  func_ok' (C := c_profile_light_room n) (n := n) (p := p_profile_light_room) (ok_of mixed eqsOk trivial trivial trivial) Go.Proofs.Try.func63 (by kernel_rfl) (by kernel_rfl) (d_profile_light_room n) (by kernel_rfl)

/-- (*carrefour/profile.light).steady -/
def h_profile_light_steady : Shape := ⟨slotsOf 2 [(0, .cel [.int .i64, .sl 4, .int .i64]), (1, .c (.hole (.sl 2)))], [], []⟩
def o_profile_light_steady : List (Ex × Shape) := [(.ret, ⟨slotsOf 1 [(0, .c (.hole (.int .i64)))], [], []⟩)]
def profile_light_steady (n : Nat) (x0 : Int × (List Bool) × Int × List Int) : Option (Int) :=
  (iterL (Y := (Int)) n (fun (x1 : Int × (List Bool) × Int × (List Int) × Int × Int × Int) =>
    bif decide (0 ≤ x1.2.2.2.2.2.2) then
      bif inB x1.2.2.2.2.2.2 x1.2.2.2.1.length then
        (profile_light_room n (x1.1, x1.2.1, x1.2.2.1, x1.2.2.2.2.2.2)).bind fun y2 =>
        let e0 := wrap64 (x1.2.2.2.2.2.1 + (wrap64 ((atI 0 x1.2.2.2.1 x1.2.2.2.2.2.2) - y2)))
        some (.inl (x1.1, x1.2.1, x1.2.2.1, x1.2.2.2.1, mx x1.2.2.2.2.1 e0, e0, wrap64 (x1.2.2.2.2.2.2 - 1)))
      else
      none
    else
    some (.inr x1.2.2.2.2.1)) (x0.1, x0.2.1, x0.2.2.1, x0.2.2.2, 0, 0, wrap64 (x0.1 - 1))).bind fun (z3 : Int) =>
    some z3
def p_profile_light_steady : Plan := .two (.leaf) (.two (.leaf) (.two (.two (.leaf) (.one (.loop ⟨slotsOf 31 [(0, .cel [.int .i64, .sl 4, .int .i64]), (1, .c (.hole (.sl 2))), (5, .c (.hole (.int .i64))), (6, .c (.hole (.int .i64))), (7, .c (.hole (.int .i64)))], [], []⟩ [(.exit 0, ⟨slotsOf 31 [(5, .c (.hole (.int .i64)))], [], []⟩)] (.leaf)))) (.leaf)))
noncomputable def c_profile_light_steady (n : Nat) : Cx := ⟨Go.Proofs.Try.prog, Θ, [23, 68], [(63, ⟨h_profile_light_room, o_profile_light_room, profile_light_room n⟩)], [], []⟩
theorem d_profile_light_steady (n : Nat) (x : h_profile_light_steady.X T) : denF (c_profile_light_steady n) n Go.Proofs.Try.f62 p_profile_light_steady h_profile_light_steady o_profile_light_steady x = profile_light_steady n x := by kernel_rfl
theorem s_profile_light_steady (n : Nat) : PCalls Go.Proofs.Try.prog Θ 62 ⟨h_profile_light_steady, o_profile_light_steady, profile_light_steady n⟩ :=
  func_ok' (C := c_profile_light_steady n) (n := n) (p := p_profile_light_steady) (ok_of mixed eqsOk ⟨s_profile_light_room n, trivial⟩ trivial trivial) Go.Proofs.Try.func62 (by kernel_rfl) (by kernel_rfl) (d_profile_light_steady n) (by kernel_rfl)

/-- carrefour/profile.Pass -/
def h_profile_Pass : Shape := ⟨slotsOf 4 [(0, .c (.hole (.int .i64))), (1, .agg [.hole (.int .i64), .hole (.int .i64)]), (2, .c (.hole (.int .i64))), (3, .c (.hole (.sl 2)))], [], []⟩
def o_profile_Pass : List (Ex × Shape) := [(.ret, ⟨slotsOf 4 [(0, .c (.row 0)), (1, .c (.hole (.int .i64))), (2, .c (.hole (.int .i64))), (3, .c (.hole (.int .i64)))], [], [(0, 2)]⟩)]
noncomputable def profile_Pass (n : Nat) (x0 : Int × Int × Int × Int × List Int) : Option (Int × Int × Int × List Int) :=
  letJ (fun (x2 : Int × Int × (List Int) × Int × Bool × Int × Int) =>
    bif x2.2.2.2.2.1 then
      some (0, 0, 1, [])
    else
    (profile_Sum n x2.2.2.1).bind fun y4 =>
    (circle_Norm n (x2.1, x2.2.2.2.2.2)).bind fun y5 =>
    bif decide (wrap64 (x2.2.1 * y5.2) < y4) then
      some (0, 0, 150, [])
    else
    (profile_newLight n (x2.1, x2.2.2.2.2.2.1, x2.2.2.2.2.2.2, x2.2.1)).bind fun y6 =>
    (profile_light_steady n (y6.1, y6.2.2, y6.2.1, x2.2.2.1)).bind fun y7 =>
    bif x2.1 == x2.1 && decide (0 ≤ x2.1) && decide (x2.1 * 8 ≤ 281474976710656) then
      (iterL (Y := (Int × Int × List Int)) n (fun (x8 : Int × Int × Int × (List Int) × Int × Int × Int × Int × (List Int) × List Bool) =>
        let e0 := atI 0 x8.2.2.2.1 x8.2.2.2.2.2.1
        bif decide (x8.2.2.2.2.2.1 < x8.2.2.2.2.1) then
          bif inB x8.2.2.2.2.2.1 x8.2.2.2.1.length then
            (profile_light_room n (x8.2.2.2.2.2.2.1, x8.2.2.2.2.2.2.2.2.2, x8.2.2.2.2.2.2.2.1, x8.2.2.2.2.2.1)).bind fun y9 =>
            let e1 := List.set x8.2.2.2.2.2.2.2.2.1 (Int.toNat x8.2.2.2.2.2.1) (mn (wrap64 (x8.2.2.1 + e0)) y9)
            let e2 := wrap64 (x8.2.2.1 + (wrap64 (e0 - (atI 0 e1 x8.2.2.2.2.2.1))))
            bif inB x8.2.2.2.2.2.1 x8.2.2.2.2.2.2.2.2.1.length then
              bif inB x8.2.2.2.2.2.1 e1.length then
                some (.inl (x8.1, wrap64 (x8.2.1 + e2), e2, x8.2.2.2.1, x8.2.2.2.2.1, wrap64 (x8.2.2.2.2.2.1 + 1), x8.2.2.2.2.2.2.1, x8.2.2.2.2.2.2.2.1, e1, x8.2.2.2.2.2.2.2.2.2))
              else
              none
            else
            none
          else
          none
        else
        some (.inr (x8.1, x8.2.1, x8.2.2.2.2.2.2.2.2.1))) (y7, x2.2.2.2.1, y7, x2.2.2.1, ((x2.2.2.1.length : Nat) : Int), 0, y6.1, y6.2.1, List.replicate (Int.toNat x2.1) 0, y6.2.2)).bind fun (z10 : Int × Int × List Int) =>
        some (z10.1, z10.2.1, 0, z10.2.2)
    else
    none) fun J3 =>
  bif decide (x0.1 < 1) then
    J3 (x0.1, x0.2.2.2.1, x0.2.2.2.2, 0, true, x0.2.1, x0.2.2.1)
  else
  bif decide (6000 < x0.1) then
    J3 (x0.1, x0.2.2.2.1, x0.2.2.2.2, 0, true, x0.2.1, x0.2.2.1)
  else
  bif !(((x0.2.2.2.2.length : Nat) : Int) == x0.1) then
    J3 (x0.1, x0.2.2.2.1, x0.2.2.2.2, 0, true, x0.2.1, x0.2.2.1)
  else
  (profile_few n x0.2.2.2.2).bind fun y1 =>
  bif !y1 then
    J3 (x0.1, x0.2.2.2.1, x0.2.2.2.2, 0, true, x0.2.1, x0.2.2.1)
  else
  bif decide (x0.2.2.2.1 < 0) then
    J3 (x0.1, x0.2.2.2.1, x0.2.2.2.2, 0, true, x0.2.1, x0.2.2.1)
  else
  J3 (x0.1, x0.2.2.2.1, x0.2.2.2.2, 0, decide (1000000000 < x0.2.2.2.1), x0.2.1, x0.2.2.1)
def p_profile_Pass : Plan := .two (.leaf) (.two (.two (.join ⟨slotsOf 92 [(0, .c (.hole (.int .i64))), (2, .c (.hole (.int .i64))), (3, .c (.hole (.sl 2))), (5, .c (.box 5 0)), (10, .c (.hole (.int .i64))), (40, .c (.hole (.bool)))], [(5, 23, [.hole (.int .i64), .hole (.int .i64)])], []⟩ (.leaf)) (.leaf)) (.two (.leaf) (.two (.leaf) (.two (.leaf) (.two (.leaf) (.two (.leaf) (.two (.two (.leaf) (.one (.loop ⟨slotsOf 92 [(8, .c (.row 58)), (9, .c (.hole (.int .i64))), (10, .c (.hole (.int .i64))), (12, .c (.box 15300 0)), (13, .c (.hole (.int .i64))), (60, .c (.hole (.sl 2))), (61, .c (.hole (.int .i64))), (62, .c (.hole (.int .i64)))], [(15300, 92, [.hole (.int .i64), .row 15300, .hole (.int .i64)])], [(58, 2), (15300, 4)]⟩ [(.exit 0, ⟨slotsOf 92 [(8, .c (.row 58)), (9, .c (.hole (.int .i64))), (10, .c (.hole (.int .i64)))], [], [(58, 2)]⟩)] (.leaf)))) (.leaf))))))))
noncomputable def c_profile_Pass (n : Nat) : Cx := ⟨Go.Proofs.Try.prog, Θ, [23, 68], [(15, ⟨h_circle_Norm, o_circle_Norm, circle_Norm n⟩), (60, ⟨h_profile_few, o_profile_few, profile_few n⟩), (43, ⟨h_profile_Sum, o_profile_Sum, profile_Sum n⟩), (61, ⟨h_profile_newLight, o_profile_newLight, profile_newLight n⟩), (63, ⟨h_profile_light_room, o_profile_light_room, profile_light_room n⟩), (62, ⟨h_profile_light_steady, o_profile_light_steady, profile_light_steady n⟩)], [], []⟩
theorem d_profile_Pass (n : Nat) (x : h_profile_Pass.X T) : denF (c_profile_Pass n) n Go.Proofs.Try.f39 p_profile_Pass h_profile_Pass o_profile_Pass x = profile_Pass n x := by kernel_rfl
theorem s_profile_Pass (n : Nat) : PCalls Go.Proofs.Try.prog Θ 39 ⟨h_profile_Pass, o_profile_Pass, profile_Pass n⟩ :=
  func_ok' (C := c_profile_Pass n) (n := n) (p := p_profile_Pass) (ok_of mixed eqsOk ⟨s_circle_Norm n, s_profile_few n, s_profile_Sum n, s_profile_newLight n, s_profile_light_room n, s_profile_light_steady n, trivial⟩ trivial trivial) Go.Proofs.Try.func39 (by kernel_rfl) (by kernel_rfl) (d_profile_Pass n) (by kernel_rfl)

/-- carrefour/carrefourref34.few -/
def h_ref34_few : Shape := ⟨slotsOf 1 [(0, .c (.hole (.sl 2)))], [], []⟩
def o_ref34_few : List (Ex × Shape) := [(.ret, ⟨slotsOf 1 [(0, .c (.hole (.bool)))], [], []⟩)]
def ref34_few (n : Nat) (x0 : List Int) : Option (Bool) :=
  (iterL (Y := (Bool) ⊕ (Unit)) n (fun (x1 : (List Int) × Int) =>
    let e0 := x1.1.length
    let e1 := inB x1.2 e0
    let e2 := atI 0 x1.1 x1.2
    bif decide (x1.2 < ((e0 : Nat) : Int)) then
      letJ (fun (x2 : (List Int) × Int × Bool) =>
        bif x2.2.2 then
          some (.inr (.inl false))
        else
        some (.inl (x2.1, wrap64 (x2.2.1 + 1)))) fun J3 =>
      bif e1 then
        bif decide (e2 < 0) then
          J3 (x1.1, x1.2, true)
        else
        bif e1 then
          J3 (x1.1, x1.2, decide (1000000000 < e2))
        else
        none
      else
      none
    else
    some (.inr (.inr ()))) (x0, 0)).bind (Sum.elim (fun (z4 : Bool) =>
    some z4) (fun (z5 : Unit) =>
    some true))
def p_ref34_few : Plan := .two (.leaf) (.two (.two (.leaf) (.one (.loop ⟨slotsOf 22 [(0, .c (.hole (.sl 2))), (3, .c (.hole (.int .i64)))], [], []⟩ [(.ret, ⟨slotsOf 22 [(2, .c (.hole (.bool)))], [], []⟩), (.exit 0, ⟨slotsOf 22 [], [], []⟩)] (.two (.leaf) (.two (.one (.two (.join ⟨slotsOf 22 [(0, .c (.hole (.sl 2))), (3, .c (.hole (.int .i64))), (21, .c (.hole (.bool)))], [], []⟩ (.leaf)) (.leaf))) (.leaf)))))) (.leaf))
noncomputable def c_ref34_few (n : Nat) : Cx := ⟨Go.Proofs.Try.prog, Θ, [23, 68], [], [], []⟩
theorem d_ref34_few (n : Nat) (x : h_ref34_few.X T) : denF (c_ref34_few n) n Go.Proofs.Try.f68 p_ref34_few h_ref34_few o_ref34_few x = ref34_few n x := by kernel_rfl
theorem s_ref34_few (n : Nat) : PCalls Go.Proofs.Try.prog Θ 68 ⟨h_ref34_few, o_ref34_few, ref34_few n⟩ :=
  func_ok' (C := c_ref34_few n) (n := n) (p := p_ref34_few) (ok_of mixed eqsOk trivial trivial trivial) Go.Proofs.Try.func68 (by kernel_rfl) (by kernel_rfl) (d_ref34_few n) (by kernel_rfl)

/-- carrefour/carrefourref34.Right -/
def h_ref34_Right : Shape := ⟨slotsOf 2 [(0, .c (.hole (.int .i64))), (1, .c (.hole (.sl 2)))], [], []⟩
def o_ref34_Right : List (Ex × Shape) := [(.ret, ⟨slotsOf 1 [(0, .c (.hole (.bool)))], [], []⟩)]
def ref34_Right (n : Nat) (x0 : Int × List Int) : Option (Bool) :=
  (ref03_Cycle n x0.1).bind fun y1 =>
  bif y1 then
    bif ((x0.2.length : Nat) : Int) == x0.1 then
      (ref34_few n x0.2).bind fun y2 =>
      some y2
    else
    some false
  else
  some false
def p_ref34_Right : Plan := .leaf
noncomputable def c_ref34_Right (n : Nat) : Cx := ⟨Go.Proofs.Try.prog, Θ, [23, 68], [(27, ⟨h_ref03_Cycle, o_ref03_Cycle, ref03_Cycle n⟩), (68, ⟨h_ref34_few, o_ref34_few, ref34_few n⟩)], [], []⟩
theorem d_ref34_Right (n : Nat) (x : h_ref34_Right.X T) : denF (c_ref34_Right n) n Go.Proofs.Try.f64 p_ref34_Right h_ref34_Right o_ref34_Right x = ref34_Right n x := by kernel_rfl
theorem s_ref34_Right (n : Nat) : PCalls Go.Proofs.Try.prog Θ 64 ⟨h_ref34_Right, o_ref34_Right, ref34_Right n⟩ :=
  func_ok' (C := c_ref34_Right n) (n := n) (p := p_ref34_Right) (ok_of mixed eqsOk ⟨s_ref03_Cycle n, s_ref34_few n, trivial⟩ trivial trivial) Go.Proofs.Try.func64 (by kernel_rfl) (by kernel_rfl) (d_ref34_Right n) (by kernel_rfl)

/-- carrefour/carrefourref34.Sum -/
def h_ref34_Sum : Shape := ⟨slotsOf 1 [(0, .c (.hole (.sl 2)))], [], []⟩
def o_ref34_Sum : List (Ex × Shape) := [(.ret, ⟨slotsOf 1 [(0, .c (.hole (.int .i64)))], [], []⟩)]
def ref34_Sum (n : Nat) (x0 : List Int) : Option (Int) :=
  letJ (fun (x2 : (List Int) × Bool) =>
    bif x2.2 then
      some 0
    else
    (iterL (Y := (Int)) n (fun (x4 : (List Int) × Int × Int) =>
      let e0 := x4.1.length
      bif decide (x4.2.2 < ((e0 : Nat) : Int)) then
        bif inB x4.2.2 e0 then
          some (.inl (x4.1, wrap64 (x4.2.1 + (atI 0 x4.1 x4.2.2)), wrap64 (x4.2.2 + 1)))
        else
        none
      else
      some (.inr x4.2.1)) (x2.1, 0, 0)).bind fun (z5 : Int) =>
      some z5) fun J3 =>
  bif decide (6000 < ((x0.length : Nat) : Int)) then
    J3 (x0, true)
  else
  (ref34_few n x0).bind fun y1 =>
  J3 (x0, !y1)
def p_ref34_Sum : Plan := .two (.leaf) (.two (.two (.join ⟨slotsOf 26 [(0, .c (.hole (.sl 2))), (12, .c (.hole (.bool)))], [], []⟩ (.leaf)) (.leaf)) (.two (.leaf) (.two (.two (.leaf) (.one (.loop ⟨slotsOf 26 [(0, .c (.hole (.sl 2))), (3, .c (.hole (.int .i64))), (4, .c (.hole (.int .i64)))], [], []⟩ [(.exit 0, ⟨slotsOf 26 [(3, .c (.hole (.int .i64)))], [], []⟩)] (.leaf)))) (.leaf))))
noncomputable def c_ref34_Sum (n : Nat) : Cx := ⟨Go.Proofs.Try.prog, Θ, [23, 68], [(68, ⟨h_ref34_few, o_ref34_few, ref34_few n⟩)], [], []⟩
theorem d_ref34_Sum (n : Nat) (x : h_ref34_Sum.X T) : denF (c_ref34_Sum n) n Go.Proofs.Try.f48 p_ref34_Sum h_ref34_Sum o_ref34_Sum x = ref34_Sum n x := by kernel_rfl
theorem s_ref34_Sum (n : Nat) : PCalls Go.Proofs.Try.prog Θ 48 ⟨h_ref34_Sum, o_ref34_Sum, ref34_Sum n⟩ :=
  func_ok' (C := c_ref34_Sum n) (n := n) (p := p_ref34_Sum) (ok_of mixed eqsOk ⟨s_ref34_few n, trivial⟩ trivial trivial) Go.Proofs.Try.func48 (by kernel_rfl) (by kernel_rfl) (d_ref34_Sum n) (by kernel_rfl)

/-- carrefour/carrefourref34.round -/
def h_ref34_round : Shape := ⟨slotsOf 5 [(0, .c (.hole (.int .i64))), (1, .agg [.hole (.int .i64), .hole (.int .i64)]), (2, .c (.hole (.int .i64))), (3, .c (.hole (.sl 2))), (4, .c (.hole (.int .i64)))], [], []⟩
def o_ref34_round : List (Ex × Shape) := [(.ret, ⟨slotsOf 3 [(0, .c (.row 0)), (1, .c (.hole (.int .i64))), (2, .c (.hole (.int .i64)))], [], [(0, 2)]⟩)]
def ref34_round (n : Nat) (x0 : Int × Int × Int × Int × (List Int) × Int) : Option (Int × Int × List Int) :=
  let e0 := 0 :: []
  (iterL (Y := (Int × Int × List Int)) n (fun (x3 : Int × Int × (List Int) × Int × Int × Int × Int × Int × List Int) =>
    let e1 := x3.2.2.2.2.2.2.2.2.length
    let e2 := wrap64 (x3.2.2.2.1 + (atI 0 x3.2.2.1 x3.2.2.2.2.2.1))
    let e3 := mn e2 x3.2.1
    let e4 := e3 :: []
    let e5 := wrap64 (e2 - e3)
    let e6 := wrap64 (x3.2.2.2.2.2.1 + 1)
    let e7 := wrap64 (e2 - 0)
    bif decide (x3.2.2.2.2.2.1 < x3.1) then
      bif inB x3.2.2.2.2.2.1 x3.2.2.1.length then
        (ref03_In n (x3.1, x3.2.2.2.2.2.2.1, x3.2.2.2.2.2.2.2.1, x3.2.2.2.2.2.1)).bind fun y4 =>
        bif y4 then
          bif fitB (e1 + e4.length) 8 then
            some (.inl (x3.1, x3.2.1, x3.2.2.1, e5, wrap64 (x3.2.2.2.2.1 + e5), e6, x3.2.2.2.2.2.2.1, x3.2.2.2.2.2.2.2.1, x3.2.2.2.2.2.2.2.2 ++ e4))
          else
          none
        else
          bif fitB (e1 + e0.length) 8 then
            some (.inl (x3.1, x3.2.1, x3.2.2.1, e7, wrap64 (x3.2.2.2.2.1 + e7), e6, x3.2.2.2.2.2.2.1, x3.2.2.2.2.2.2.2.1, x3.2.2.2.2.2.2.2.2 ++ e0))
          else
          none
      else
      none
    else
    some (.inr (x3.2.2.2.1, x3.2.2.2.2.1, x3.2.2.2.2.2.2.2.2))) (x0.1, x0.2.2.2.1, x0.2.2.2.2.1, x0.2.2.2.2.2, 0, 0, x0.2.1, x0.2.2.1, [])).bind fun (z5 : Int × Int × List Int) =>
    some z5
def p_ref34_round : Plan := .two (.leaf) (.two (.leaf) (.two (.leaf) (.two (.two (.leaf) (.one (.loop ⟨slotsOf 48 [(0, .c (.hole (.int .i64))), (2, .c (.hole (.int .i64))), (3, .c (.hole (.sl 2))), (4, .c (.hole (.int .i64))), (6, .c (.box 6 0)), (13, .c (.row 41)), (14, .c (.hole (.int .i64))), (15, .c (.hole (.int .i64)))], [(6, 23, [.hole (.int .i64), .hole (.int .i64)])], [(41, 2)]⟩ [(.exit 0, ⟨slotsOf 48 [(4, .c (.hole (.int .i64))), (13, .c (.row 41)), (14, .c (.hole (.int .i64)))], [], [(41, 2)]⟩)] (.leaf)))) (.leaf))))
noncomputable def c_ref34_round (n : Nat) : Cx := ⟨Go.Proofs.Try.prog, Θ, [23, 68], [(18, ⟨h_ref03_In, o_ref03_In, ref03_In n⟩)], [], []⟩
theorem d_ref34_round (n : Nat) (x : h_ref34_round.X T) : denF (c_ref34_round n) n Go.Proofs.Try.f65 p_ref34_round h_ref34_round o_ref34_round x = ref34_round n x := by kernel_rfl
theorem s_ref34_round (n : Nat) : PCalls Go.Proofs.Try.prog Θ 65 ⟨h_ref34_round, o_ref34_round, ref34_round n⟩ :=
  func_ok' (C := c_ref34_round n) (n := n) (p := p_ref34_round) (ok_of mixed eqsOk ⟨s_ref03_In n, trivial⟩ trivial trivial) Go.Proofs.Try.func65 (by kernel_rfl) (by kernel_rfl) (d_ref34_round n) (by kernel_rfl)

/-- carrefour/carrefourref34.Pass -/
def h_ref34_Pass : Shape := ⟨slotsOf 4 [(0, .c (.hole (.int .i64))), (1, .agg [.hole (.int .i64), .hole (.int .i64)]), (2, .c (.hole (.int .i64))), (3, .c (.hole (.sl 2)))], [], []⟩
def o_ref34_Pass : List (Ex × Shape) := [(.ret, ⟨slotsOf 4 [(0, .c (.row 0)), (1, .c (.hole (.int .i64))), (2, .c (.hole (.int .i64))), (3, .c (.hole (.int .i64)))], [], [(0, 2)]⟩)]
def ref34_Pass (n : Nat) (x0 : Int × Int × Int × Int × List Int) : Option (Int × Int × Int × List Int) :=
  letJ (fun (x2 : Int × Int × (List Int) × Bool × Int × Int) =>
    bif x2.2.2.2.1 then
      some (0, 0, 1, [])
    else
    (ref34_Sum n x2.2.2.1).bind fun y4 =>
    (ref03_Norm n (x2.1, x2.2.2.2.2)).bind fun y5 =>
    bif decide (wrap64 (x2.2.1 * y5.2) < y4) then
      some (0, 0, 150, [])
    else
    (iterL (Y := (Int × Int × Int × List Int)) n (fun (x6 : Int × Int × (List Int) × Int × Int × Int) =>
      (ref34_round n (x6.1, x6.2.2.2.2.1, x6.2.2.2.2.2, x6.2.1, x6.2.2.1, x6.2.2.2.1)).bind fun y7 =>
      bif y7.1 == x6.2.2.2.1 then
        some (.inr (x6.2.2.2.1, y7.2.1, 0, y7.2.2))
      else
      some (.inl (x6.1, x6.2.1, x6.2.2.1, y7.1, x6.2.2.2.2))) (x2.1, x2.2.1, x2.2.2.1, 0, x2.2.2.2.2)).bind fun (z8 : Int × Int × Int × List Int) =>
      some z8) fun J3 =>
  (ref34_Right n (x0.1, x0.2.2.2.2)).bind fun y1 =>
  bif !y1 then
    J3 (x0.1, x0.2.2.2.1, x0.2.2.2.2, true, x0.2.1, x0.2.2.1)
  else
  bif decide (x0.2.2.2.1 < 0) then
    J3 (x0.1, x0.2.2.2.1, x0.2.2.2.2, true, x0.2.1, x0.2.2.1)
  else
  J3 (x0.1, x0.2.2.2.1, x0.2.2.2.2, decide (1000000000 < x0.2.2.2.1), x0.2.1, x0.2.2.1)
def p_ref34_Pass : Plan := .two (.leaf) (.two (.two (.join ⟨slotsOf 54 [(0, .c (.hole (.int .i64))), (2, .c (.hole (.int .i64))), (3, .c (.hole (.sl 2))), (5, .c (.box 5 0)), (27, .c (.hole (.bool)))], [(5, 23, [.hole (.int .i64), .hole (.int .i64)])], []⟩ (.leaf)) (.leaf)) (.two (.leaf) (.two (.leaf) (.one (.loop ⟨slotsOf 54 [(0, .c (.hole (.int .i64))), (2, .c (.hole (.int .i64))), (3, .c (.hole (.sl 2))), (5, .c (.box 5 0)), (12, .c (.hole (.int .i64)))], [(5, 23, [.hole (.int .i64), .hole (.int .i64)])], []⟩ [(.ret, ⟨slotsOf 54 [(8, .c (.row 14300)), (9, .c (.hole (.int .i64))), (10, .c (.hole (.int .i64))), (11, .c (.hole (.int .i64)))], [], [(14300, 2)]⟩)] (.leaf))))))
noncomputable def c_ref34_Pass (n : Nat) : Cx := ⟨Go.Proofs.Try.prog, Θ, [23, 68], [(16, ⟨h_ref03_Norm, o_ref03_Norm, ref03_Norm n⟩), (64, ⟨h_ref34_Right, o_ref34_Right, ref34_Right n⟩), (48, ⟨h_ref34_Sum, o_ref34_Sum, ref34_Sum n⟩), (65, ⟨h_ref34_round, o_ref34_round, ref34_round n⟩)], [], []⟩
theorem d_ref34_Pass (n : Nat) (x : h_ref34_Pass.X T) : denF (c_ref34_Pass n) n Go.Proofs.Try.f40 p_ref34_Pass h_ref34_Pass o_ref34_Pass x = ref34_Pass n x := by kernel_rfl
theorem s_ref34_Pass (n : Nat) : PCalls Go.Proofs.Try.prog Θ 40 ⟨h_ref34_Pass, o_ref34_Pass, ref34_Pass n⟩ :=
  func_ok' (C := c_ref34_Pass n) (n := n) (p := p_ref34_Pass) (ok_of mixed eqsOk ⟨s_ref03_Norm n, s_ref34_Right n, s_ref34_Sum n, s_ref34_round n, trivial⟩ trivial trivial) Go.Proofs.Try.func40 (by kernel_rfl) (by kernel_rfl) (d_ref34_Pass n) (by kernel_rfl)

/-- carrefour/carrefourref10.Longs -/
def h_ref10_Longs : Shape := ⟨slotsOf 2 [(0, .c (.hole (.sl 2))), (1, .c (.hole (.sl 2)))], [], []⟩
def o_ref10_Longs : List (Ex × Shape) := [(.ret, ⟨slotsOf 1 [(0, .c (.hole (.bool)))], [], []⟩)]
def ref10_Longs (n : Nat) (x0 : (List Int) × List Int) : Option (Bool) :=
  bif !(((x0.1.length : Nat) : Int) == ((x0.2.length : Nat) : Int)) then
    some false
  else
  (iterL (Y := (Bool) ⊕ (Unit)) n (fun (x1 : (List Int) × (List Int) × Int) =>
    let e0 := x1.1.length
    bif decide (x1.2.2 < ((e0 : Nat) : Int)) then
      bif inB x1.2.2 e0 then
        bif inB x1.2.2 x1.2.1.length then
          bif !((atI 0 x1.1 x1.2.2) == (atI 0 x1.2.1 x1.2.2)) then
            some (.inr (.inl false))
          else
          some (.inl (x1.1, x1.2.1, wrap64 (x1.2.2 + 1)))
        else
        none
      else
      none
    else
    some (.inr (.inr ()))) (x0.1, x0.2, 0)).bind (Sum.elim (fun (z2 : Bool) =>
    some z2) (fun (z3 : Unit) =>
    some true))
def p_ref10_Longs : Plan := .two (.leaf) (.two (.leaf) (.two (.two (.leaf) (.one (.loop ⟨slotsOf 26 [(0, .c (.hole (.sl 2))), (1, .c (.hole (.sl 2))), (5, .c (.hole (.int .i64)))], [], []⟩ [(.ret, ⟨slotsOf 26 [(4, .c (.hole (.bool)))], [], []⟩), (.exit 0, ⟨slotsOf 26 [], [], []⟩)] (.leaf)))) (.leaf)))
noncomputable def c_ref10_Longs (n : Nat) : Cx := ⟨Go.Proofs.Try.prog, Θ, [23, 68], [], [], []⟩
theorem d_ref10_Longs (n : Nat) (x : h_ref10_Longs.X T) : denF (c_ref10_Longs n) n Go.Proofs.Try.f41 p_ref10_Longs h_ref10_Longs o_ref10_Longs x = ref10_Longs n x := by kernel_rfl
theorem s_ref10_Longs (n : Nat) : PCalls Go.Proofs.Try.prog Θ 41 ⟨h_ref10_Longs, o_ref10_Longs, ref10_Longs n⟩ :=
  func_ok' (C := c_ref10_Longs n) (n := n) (p := p_ref10_Longs) (ok_of mixed eqsOk trivial trivial trivial) Go.Proofs.Try.func41 (by kernel_rfl) (by kernel_rfl) (d_ref10_Longs n) (by kernel_rfl)

/-- carrefour/carrefourlaw34.awake -/
def h_law34_awake : Shape := ⟨slotsOf 0 [], [], []⟩
def o_law34_awake : List (Ex × Shape) := [(.ret, ⟨slotsOf 1 [(0, .c (.hole (.bool)))], [], []⟩)]
noncomputable def law34_awake (n : Nat) (x0 : Unit) : Option (Bool) :=
  let e0 := 1 :: []
  (profile_Pass n (4, 2, 2, 3, 1 :: (1 :: (1 :: e0)))).bind fun y1 =>
  letJ (fun (x6 : Bool) =>
    some x6) fun J7 =>
  bif y1.2.2.1 == 0 then
    (ref10_Longs n (y1.2.2.2, 0 :: (0 :: (3 :: e0)))).bind fun y2 =>
    bif y2 then
      bif y1.1 == 0 then
        bif y1.2.1 == 3 then
          (profile_Sum n y1.2.2.2).bind fun y3 =>
          bif y3 == 4 then
            (profile_Turn n (1 :: (2 :: (3 :: [])), 1)).bind fun y4 =>
            (ref10_Longs n (y4, 3 :: (1 :: (2 :: [])))).bind fun y5 =>
            J7 y5
          else
          J7 false
        else
        J7 false
      else
      J7 false
    else
    J7 false
  else
  J7 false
def p_law34_awake : Plan := .two (.leaf) (.two (.leaf) (.two (.join ⟨slotsOf 39 [(0, .c (.hole (.bool)))], [], []⟩ (.leaf)) (.leaf)))
noncomputable def c_law34_awake (n : Nat) : Cx := ⟨Go.Proofs.Try.prog, Θ, [23, 68], [(44, ⟨h_profile_Turn, o_profile_Turn, profile_Turn n⟩), (43, ⟨h_profile_Sum, o_profile_Sum, profile_Sum n⟩), (39, ⟨h_profile_Pass, o_profile_Pass, profile_Pass n⟩), (41, ⟨h_ref10_Longs, o_ref10_Longs, ref10_Longs n⟩)], [], []⟩
theorem d_law34_awake (n : Nat) (x : h_law34_awake.X T) : denF (c_law34_awake n) n Go.Proofs.Try.f42 p_law34_awake h_law34_awake o_law34_awake x = law34_awake n x := by kernel_rfl
theorem s_law34_awake (n : Nat) : PCalls Go.Proofs.Try.prog Θ 42 ⟨h_law34_awake, o_law34_awake, law34_awake n⟩ :=
  func_ok' (C := c_law34_awake n) (n := n) (p := p_law34_awake) (ok_of mixed eqsOk ⟨s_profile_Turn n, s_profile_Sum n, s_profile_Pass n, s_ref10_Longs n, trivial⟩ trivial trivial) Go.Proofs.Try.func42 (by kernel_rfl) (by kernel_rfl) (d_law34_awake n) (by kernel_rfl)

/-- carrefour/carrefourlaw34.ProfilePass -/
def h_law34_ProfilePass : Shape := ⟨slotsOf 3 [(0, .c (.hole (.int .i64))), (1, .agg [.hole (.int .i64), .hole (.int .i64)]), (2, .agg [.hole (.int .i64), .hole (.sl 2)])], [], []⟩
def o_law34_ProfilePass : List (Ex × Shape) := [(.ret, ⟨slotsOf 1 [(0, .c (.hole (.bool)))], [], []⟩)]
noncomputable def law34_ProfilePass (n : Nat) (x0 : Int × Int × Int × Int × List Int) : Option (Bool) :=
  bif decide (300 < ((x0.2.2.2.2.length : Nat) : Int)) then
    some true
  else
  (profile_Pass n x0).bind fun y1 =>
  (ref34_Pass n x0).bind fun y2 =>
  letJ (fun (x5 : Bool) =>
    some x5) fun J6 =>
  (ref10_Longs n (y1.2.2.2, y2.2.2.2)).bind fun y3 =>
  bif y3 then
    bif y1.1 == y2.1 then
      bif y1.2.1 == y2.2.1 then
        bif y1.2.2.1 == y2.2.2.1 then
          (law34_awake n ()).bind fun y4 =>
          J6 y4
        else
        J6 false
      else
      J6 false
    else
    J6 false
  else
  J6 false
def p_law34_ProfilePass : Plan := .two (.leaf) (.two (.leaf) (.two (.leaf) (.two (.leaf) (.two (.join ⟨slotsOf 64 [(6, .c (.hole (.bool)))], [], []⟩ (.leaf)) (.leaf)))))
noncomputable def c_law34_ProfilePass (n : Nat) : Cx := ⟨Go.Proofs.Try.prog, Θ, [23, 68], [(39, ⟨h_profile_Pass, o_profile_Pass, profile_Pass n⟩), (40, ⟨h_ref34_Pass, o_ref34_Pass, ref34_Pass n⟩), (41, ⟨h_ref10_Longs, o_ref10_Longs, ref10_Longs n⟩), (42, ⟨h_law34_awake, o_law34_awake, law34_awake n⟩)], [], []⟩
theorem d_law34_ProfilePass (n : Nat) (x : h_law34_ProfilePass.X T) : denF (c_law34_ProfilePass n) n Go.Proofs.Try.f10 p_law34_ProfilePass h_law34_ProfilePass o_law34_ProfilePass x = law34_ProfilePass n x := by kernel_rfl
theorem s_law34_ProfilePass (n : Nat) : PCalls Go.Proofs.Try.prog Θ 10 ⟨h_law34_ProfilePass, o_law34_ProfilePass, law34_ProfilePass n⟩ :=
  func_ok' (C := c_law34_ProfilePass n) (n := n) (p := p_law34_ProfilePass) (ok_of mixed eqsOk ⟨s_profile_Pass n, s_ref34_Pass n, s_ref10_Longs n, s_law34_awake n, trivial⟩ trivial trivial) Go.Proofs.Try.func10 (by kernel_rfl) (by kernel_rfl) (d_law34_ProfilePass n) (by kernel_rfl)

/-- carrefour/carrefourlaw34.ProfileKeeps -/
def h_law34_ProfileKeeps : Shape := ⟨slotsOf 3 [(0, .c (.hole (.int .i64))), (1, .agg [.hole (.int .i64), .hole (.int .i64)]), (2, .agg [.hole (.int .i64), .hole (.sl 2)])], [], []⟩
def o_law34_ProfileKeeps : List (Ex × Shape) := [(.ret, ⟨slotsOf 1 [(0, .c (.hole (.bool)))], [], []⟩)]
noncomputable def law34_ProfileKeeps (n : Nat) (x0 : Int × Int × Int × Int × List Int) : Option (Bool) :=
  bif decide (300 < ((x0.2.2.2.2.length : Nat) : Int)) then
    some true
  else
  (profile_Pass n x0).bind fun y1 =>
  let e0 := ((y1.2.2.2.length : Nat) : Int)
  bif !(y1.2.2.1 == 0) then
    letJ (fun (x3 : Bool) =>
      some x3) fun J4 =>
    bif e0 == 0 then
      bif y1.1 == 0 then
        bif y1.2.1 == 0 then
          (law34_awake n ()).bind fun y2 =>
          J4 y2
        else
        J4 false
      else
      J4 false
    else
    J4 false
  else
    letJ (fun (x7 : Int × Int × Int × Bool × Int × Int × Int × (List Int) × List Int) =>
      bif x7.2.2.2.1 then
        some false
      else
      (iterL (Y := (Bool) ⊕ (Int × Int × Int × Int)) n (fun (x9 : Int × Int × Int × Int × Int × Int × Int × Int × Int × (List Int) × List Int) =>
        let e1 := x9.2.2.2.2.2.2.2.2.2.2.length
        let e2 := inB x9.2.2.2.2.2.1 e1
        let e3 := atI 0 x9.2.2.2.2.2.2.2.2.2.2 x9.2.2.2.2.2.1
        let e4 := wrap64 (x9.2.2.2.1 + (wrap64 ((atI 0 x9.2.2.2.2.2.2.2.2.2.1 x9.2.2.2.2.2.1) - e3)))
        let e5 := decide (0 < e4)
        let e6 := wrap64 (x9.2.2.2.2.1 + e4)
        bif decide (x9.2.2.2.2.2.1 < ((e1 : Nat) : Int)) then
          bif inB x9.2.2.2.2.2.1 x9.2.2.2.2.2.2.2.2.2.1.length then
            bif e2 then
              letJ (fun (x13 : Int × Int × Int × Int × Int × Int × Bool × Int × Int × Int × (List Int) × List Int) =>
                bif x13.2.2.2.2.2.2.1 then
                  some (.inr (.inl false))
                else
                some (.inl (x13.1, x13.2.1, x13.2.2.1, x13.2.2.2.1, x13.2.2.2.2.1, wrap64 (x13.2.2.2.2.2.1 + 1), x13.2.2.2.2.2.2.2))) fun J14 =>
              bif decide (e4 < 0) then
                J14 (x9.1, x9.2.1, x9.2.2.1, e4, e6, x9.2.2.2.2.2.1, true, x9.2.2.2.2.2.2)
              else
              bif e2 then
                bif decide (e3 < 0) then
                  J14 (x9.1, x9.2.1, x9.2.2.1, e4, e6, x9.2.2.2.2.2.1, true, x9.2.2.2.2.2.2)
                else
                bif e2 then
                  bif decide (x9.2.2.2.2.2.2.2.2.1 < e3) then
                    J14 (x9.1, x9.2.1, x9.2.2.1, e4, e6, x9.2.2.2.2.2.1, true, x9.2.2.2.2.2.2)
                  else
                  bif e2 then
                    bif decide (0 < e3) then
                      (ref03_In n (x9.1, x9.2.2.2.2.2.2.1, x9.2.2.2.2.2.2.2.1, x9.2.2.2.2.2.1)).bind fun y10 =>
                      bif !y10 then
                        J14 (x9.1, x9.2.1, x9.2.2.1, e4, e6, x9.2.2.2.2.2.1, true, x9.2.2.2.2.2.2)
                      else
                      bif e5 then
                        (ref03_In n (x9.1, x9.2.2.2.2.2.2.1, x9.2.2.2.2.2.2.2.1, x9.2.2.2.2.2.1)).bind fun y11 =>
                        bif y11 then
                          bif e2 then
                            J14 (x9.1, x9.2.1, x9.2.2.1, e4, e6, x9.2.2.2.2.2.1, !(e3 == x9.2.2.2.2.2.2.2.2.1), x9.2.2.2.2.2.2)
                          else
                          none
                        else
                        J14 (x9.1, x9.2.1, x9.2.2.1, e4, e6, x9.2.2.2.2.2.1, false, x9.2.2.2.2.2.2)
                      else
                      J14 (x9.1, x9.2.1, x9.2.2.1, e4, e6, x9.2.2.2.2.2.1, false, x9.2.2.2.2.2.2)
                    else
                      bif e5 then
                        (ref03_In n (x9.1, x9.2.2.2.2.2.2.1, x9.2.2.2.2.2.2.2.1, x9.2.2.2.2.2.1)).bind fun y12 =>
                        bif y12 then
                          bif e2 then
                            J14 (x9.1, x9.2.1, x9.2.2.1, e4, e6, x9.2.2.2.2.2.1, !(e3 == x9.2.2.2.2.2.2.2.2.1), x9.2.2.2.2.2.2)
                          else
                          none
                        else
                        J14 (x9.1, x9.2.1, x9.2.2.1, e4, e6, x9.2.2.2.2.2.1, false, x9.2.2.2.2.2.2)
                      else
                      J14 (x9.1, x9.2.1, x9.2.2.1, e4, e6, x9.2.2.2.2.2.1, false, x9.2.2.2.2.2.2)
                  else
                  none
                else
                none
              else
              none
            else
            none
          else
          none
        else
        some (.inr (.inr (x9.2.1, x9.2.2.1, x9.2.2.2.1, x9.2.2.2.2.1)))) (x7.1, x7.2.1, x7.2.2.1, x7.2.1, 0, 0, x7.2.2.2.2)).bind (Sum.elim (fun (z15 : Bool) =>
        some z15) (fun (z16 : Int × Int × Int × Int) =>
        bif z16.2.2.1 == z16.1 then
          bif z16.2.2.2 == z16.2.1 then
            (law34_awake n ()).bind fun y17 =>
            some y17
          else
          some false
        else
        some false))) fun J8 =>
    bif !(e0 == x0.1) then
      J8 (x0.1, y1.1, y1.2.1, true, x0.2.1, x0.2.2.1, x0.2.2.2.1, x0.2.2.2.2, y1.2.2.2)
    else
    (profile_Sum n y1.2.2.2).bind fun y5 =>
    (profile_Sum n x0.2.2.2.2).bind fun y6 =>
    J8 (x0.1, y1.1, y1.2.1, !(y5 == y6), x0.2.1, x0.2.2.1, x0.2.2.2.1, x0.2.2.2.2, y1.2.2.2)
def p_law34_ProfileKeeps : Plan := .two (.leaf) (.two (.leaf) (.two (.leaf) (.two (.two (.leaf) (.two (.two (.join ⟨slotsOf 142 [(6, .c (.hole (.bool)))], [], []⟩ (.leaf)) (.leaf)) (.leaf))) (.two (.two (.join ⟨slotsOf 142 [(0, .c (.hole (.int .i64))), (4, .c (.box 4 0)), (5, .c (.box 5 0)), (7, .c (.row 12500)), (8, .c (.hole (.int .i64))), (9, .c (.hole (.int .i64))), (57, .c (.hole (.bool)))], [(4, 23, [.hole (.int .i64), .hole (.int .i64)]), (5, 49, [.hole (.int .i64), .hole (.sl 2)])], [(12500, 2)]⟩ (.leaf)) (.leaf)) (.two (.leaf) (.two (.two (.leaf) (.one (.loop ⟨slotsOf 142 [(0, .c (.hole (.int .i64))), (4, .c (.box 4 0)), (5, .c (.box 5 0)), (7, .c (.row 12500)), (8, .c (.hole (.int .i64))), (9, .c (.hole (.int .i64))), (11, .c (.hole (.int .i64))), (12, .c (.hole (.int .i64))), (13, .c (.hole (.int .i64)))], [(4, 23, [.hole (.int .i64), .hole (.int .i64)]), (5, 49, [.hole (.int .i64), .hole (.sl 2)])], [(12500, 2)]⟩ [(.ret, ⟨slotsOf 142 [(6, .c (.hole (.bool)))], [], []⟩), (.exit 0, ⟨slotsOf 142 [(8, .c (.hole (.int .i64))), (9, .c (.hole (.int .i64))), (11, .c (.hole (.int .i64))), (12, .c (.hole (.int .i64)))], [], []⟩)] (.two (.leaf) (.two (.one (.two (.leaf) (.two (.leaf) (.two (.join ⟨slotsOf 142 [(0, .c (.hole (.int .i64))), (4, .c (.box 4 0)), (5, .c (.box 5 0)), (7, .c (.row 12500)), (8, .c (.hole (.int .i64))), (9, .c (.hole (.int .i64))), (11, .c (.hole (.int .i64))), (12, .c (.hole (.int .i64))), (13, .c (.hole (.int .i64))), (130, .c (.hole (.bool)))], [(4, 23, [.hole (.int .i64), .hole (.int .i64)]), (5, 49, [.hole (.int .i64), .hole (.sl 2)])], [(12500, 2)]⟩ (.leaf)) (.leaf))))) (.leaf)))))) (.leaf)))))))
noncomputable def c_law34_ProfileKeeps (n : Nat) : Cx := ⟨Go.Proofs.Try.prog, Θ, [23, 68], [(18, ⟨h_ref03_In, o_ref03_In, ref03_In n⟩), (43, ⟨h_profile_Sum, o_profile_Sum, profile_Sum n⟩), (39, ⟨h_profile_Pass, o_profile_Pass, profile_Pass n⟩), (42, ⟨h_law34_awake, o_law34_awake, law34_awake n⟩)], [], []⟩
theorem d_law34_ProfileKeeps (n : Nat) (x : h_law34_ProfileKeeps.X T) : denF (c_law34_ProfileKeeps n) n Go.Proofs.Try.f11 p_law34_ProfileKeeps h_law34_ProfileKeeps o_law34_ProfileKeeps x = law34_ProfileKeeps n x := by kernel_rfl
theorem s_law34_ProfileKeeps (n : Nat) : PCalls Go.Proofs.Try.prog Θ 11 ⟨h_law34_ProfileKeeps, o_law34_ProfileKeeps, law34_ProfileKeeps n⟩ :=
  func_ok' (C := c_law34_ProfileKeeps n) (n := n) (p := p_law34_ProfileKeeps) (ok_of mixed eqsOk ⟨s_ref03_In n, s_profile_Sum n, s_profile_Pass n, s_law34_awake n, trivial⟩ trivial trivial) Go.Proofs.Try.func11 (by kernel_rfl) (by kernel_rfl) (d_law34_ProfileKeeps n) (by kernel_rfl)

/-- carrefour/carrefourlaw34.ProfileTurn -/
def h_law34_ProfileTurn : Shape := ⟨slotsOf 3 [(0, .c (.hole (.int .i64))), (1, .agg [.hole (.int .i64), .hole (.int .i64)]), (2, .agg [.hole (.int .i64), .hole (.sl 2)])], [], []⟩
def o_law34_ProfileTurn : List (Ex × Shape) := [(.ret, ⟨slotsOf 1 [(0, .c (.hole (.bool)))], [], []⟩)]
noncomputable def law34_ProfileTurn (n : Nat) (x0 : Int × Int × Int × Int × List Int) : Option (Bool) :=
  bif decide (300 < ((x0.2.2.2.2.length : Nat) : Int)) then
    some true
  else
  (profile_Pass n x0).bind fun y1 =>
  bif !(y1.2.2.1 == 0) then
    (law34_awake n ()).bind fun y2 =>
    some y2
  else
    (ref03_Mod n (x0.2.2.2.1, x0.1)).bind fun y3 =>
    (ref03_Norm n (x0.1, x0.2.1, x0.2.2.1)).bind fun y4 =>
    (profile_Turn n (x0.2.2.2.2, y3)).bind fun y5 =>
    (profile_Pass n (x0.1, wrap64 (y4.1 + y3), y4.2, x0.2.2.2.1, y5)).bind fun y6 =>
    letJ (fun (x10 : Bool) =>
      some x10) fun J11 =>
    bif y6.2.2.1 == 0 then
      (profile_Turn n (y1.2.2.2, y3)).bind fun y7 =>
      (ref10_Longs n (y6.2.2.2, y7)).bind fun y8 =>
      bif y8 then
        bif y6.2.1 == y1.2.1 then
          (law34_awake n ()).bind fun y9 =>
          J11 y9
        else
        J11 false
      else
      J11 false
    else
    J11 false
def p_law34_ProfileTurn : Plan := .two (.leaf) (.two (.leaf) (.two (.leaf) (.two (.leaf) (.two (.leaf) (.two (.leaf) (.two (.leaf) (.two (.leaf) (.two (.join ⟨slotsOf 79 [(6, .c (.hole (.bool)))], [], []⟩ (.leaf)) (.leaf)))))))))
noncomputable def c_law34_ProfileTurn (n : Nat) : Cx := ⟨Go.Proofs.Try.prog, Θ, [23, 68], [(44, ⟨h_profile_Turn, o_profile_Turn, profile_Turn n⟩), (28, ⟨h_ref03_Mod, o_ref03_Mod, ref03_Mod n⟩), (16, ⟨h_ref03_Norm, o_ref03_Norm, ref03_Norm n⟩), (39, ⟨h_profile_Pass, o_profile_Pass, profile_Pass n⟩), (41, ⟨h_ref10_Longs, o_ref10_Longs, ref10_Longs n⟩), (42, ⟨h_law34_awake, o_law34_awake, law34_awake n⟩)], [], []⟩
theorem d_law34_ProfileTurn (n : Nat) (x : h_law34_ProfileTurn.X T) : denF (c_law34_ProfileTurn n) n Go.Proofs.Try.f12 p_law34_ProfileTurn h_law34_ProfileTurn o_law34_ProfileTurn x = law34_ProfileTurn n x := by kernel_rfl
theorem s_law34_ProfileTurn (n : Nat) : PCalls Go.Proofs.Try.prog Θ 12 ⟨h_law34_ProfileTurn, o_law34_ProfileTurn, law34_ProfileTurn n⟩ :=
  func_ok' (C := c_law34_ProfileTurn n) (n := n) (p := p_law34_ProfileTurn) (ok_of mixed eqsOk ⟨s_profile_Turn n, s_ref03_Mod n, s_ref03_Norm n, s_profile_Pass n, s_ref10_Longs n, s_law34_awake n, trivial⟩ trivial trivial) Go.Proofs.Try.func12 (by kernel_rfl) (by kernel_rfl) (d_law34_ProfileTurn n) (by kernel_rfl)

/-- slices.Clone[[]int64,int64] -/
def h_slices_Clone_1 : Shape := ⟨slotsOf 1 [(0, .c (.hole (.sl 2)))], [], []⟩
def o_slices_Clone_1 : List (Ex × Shape) := [(.ret, ⟨slotsOf 1 [(0, .c (.row 0))], [], [(0, 2)]⟩)]
noncomputable def slices_Clone_1 (n : Nat) (x0 : List Int) : Option (List Int) :=
  let e0 := fitB x0.length 8
  bif List.isEmpty x0 then
    both (
      some []) (
      bif e0 then
        some x0
      else
      none)
  else
    bif e0 then
      some x0
    else
    none
def p_slices_Clone_1 : Plan := .leaf
noncomputable def c_slices_Clone_1 (n : Nat) : Cx := ⟨Go.Proofs.Try.prog, Θ, [23, 68], [], [], []⟩
theorem d_slices_Clone_1 (n : Nat) (x : h_slices_Clone_1.X T) : denF (c_slices_Clone_1 n) n Go.Proofs.Try.f67 p_slices_Clone_1 h_slices_Clone_1 o_slices_Clone_1 x = slices_Clone_1 n x := by kernel_rfl
theorem s_slices_Clone_1 (n : Nat) : PCalls Go.Proofs.Try.prog Θ 67 ⟨h_slices_Clone_1, o_slices_Clone_1, slices_Clone_1 n⟩ :=
  func_ok' (C := c_slices_Clone_1 n) (n := n) (p := p_slices_Clone_1) (ok_of mixed eqsOk trivial trivial trivial) Go.Proofs.Try.func67 (by kernel_rfl) (by kernel_rfl) (d_slices_Clone_1 n) (by kernel_rfl)

/-- carrefour/profile.Add -/
def h_profile_Add : Shape := ⟨slotsOf 2 [(0, .c (.hole (.sl 2))), (1, .c (.hole (.sl 2)))], [], []⟩
def o_profile_Add : List (Ex × Shape) := [(.ret, ⟨slotsOf 2 [(0, .c (.row 0)), (1, .c (.hole (.int .i64)))], [], [(0, 2)]⟩)]
noncomputable def profile_Add (n : Nat) (x0 : (List Int) × List Int) : Option (Int × List Int) :=
  letJ (fun (x3 : (List Int) × (List Int) × Bool) =>
    bif x3.2.2 then
      some (1, [])
    else
    (slices_Clone_1 n x3.1).bind fun y5 =>
    (iterL (Y := (Int) ⊕ (List Int)) n (fun (x6 : (List Int) × Int × Int × List Int) =>
      let e0 := inB x6.2.2.1 x6.2.2.2.length
      let e1 := List.set x6.2.2.2 (Int.toNat x6.2.2.1) (wrap64 ((atI 0 x6.2.2.2 x6.2.2.1) + (atI 0 x6.1 x6.2.2.1)))
      bif decide (x6.2.2.1 < x6.2.1) then
        bif inB x6.2.2.1 x6.1.length then
          bif e0 then
            bif e0 then
              bif inB x6.2.2.1 e1.length then
                bif decide (1000000000 < atI 0 e1 x6.2.2.1) then
                  some (.inr (.inl 70))
                else
                some (.inl (x6.1, x6.2.1, wrap64 (x6.2.2.1 + 1), e1))
              else
              none
            else
            none
          else
          none
        else
        none
      else
      some (.inr (.inr x6.2.2.2))) (x3.2.1, ((x3.2.1.length : Nat) : Int), 0, y5)).bind (Sum.elim (fun (z7 : Int) =>
      some (z7, [])) (fun (z8 : List Int) =>
      some (0, z8)))) fun J4 =>
  bif !(((x0.1.length : Nat) : Int) == ((x0.2.length : Nat) : Int)) then
    J4 (x0.1, x0.2, true)
  else
  (profile_few n x0.1).bind fun y1 =>
  bif !y1 then
    J4 (x0.1, x0.2, true)
  else
  (profile_few n x0.2).bind fun y2 =>
  J4 (x0.1, x0.2, !y2)
def p_profile_Add : Plan := .two (.leaf) (.two (.two (.join ⟨slotsOf 47 [(0, .c (.hole (.sl 2))), (1, .c (.hole (.sl 2))), (23, .c (.hole (.bool)))], [], []⟩ (.leaf)) (.leaf)) (.two (.leaf) (.two (.two (.leaf) (.one (.loop ⟨slotsOf 47 [(6, .c (.row 12500)), (26, .c (.hole (.sl 2))), (27, .c (.hole (.int .i64))), (28, .c (.hole (.int .i64)))], [], [(12500, 2)]⟩ [(.ret, ⟨slotsOf 47 [(4, .c (.nil)), (5, .c (.hole (.int .i64)))], [], []⟩), (.exit 0, ⟨slotsOf 47 [(6, .c (.row 12500))], [], [(12500, 2)]⟩)] (.leaf)))) (.leaf))))
noncomputable def c_profile_Add (n : Nat) : Cx := ⟨Go.Proofs.Try.prog, Θ, [23, 68], [(60, ⟨h_profile_few, o_profile_few, profile_few n⟩), (67, ⟨h_slices_Clone_1, o_slices_Clone_1, slices_Clone_1 n⟩)], [], []⟩
theorem d_profile_Add (n : Nat) (x : h_profile_Add.X T) : denF (c_profile_Add n) n Go.Proofs.Try.f45 p_profile_Add h_profile_Add o_profile_Add x = profile_Add n x := by kernel_rfl
theorem s_profile_Add (n : Nat) : PCalls Go.Proofs.Try.prog Θ 45 ⟨h_profile_Add, o_profile_Add, profile_Add n⟩ :=
  func_ok' (C := c_profile_Add n) (n := n) (p := p_profile_Add) (ok_of mixed eqsOk ⟨s_profile_few n, s_slices_Clone_1 n, trivial⟩ trivial trivial) Go.Proofs.Try.func45 (by kernel_rfl) (by kernel_rfl) (d_profile_Add n) (by kernel_rfl)

/-- carrefour/carrefourref34.Add -/
def h_ref34_Add : Shape := ⟨slotsOf 2 [(0, .c (.hole (.sl 2))), (1, .c (.hole (.sl 2)))], [], []⟩
def o_ref34_Add : List (Ex × Shape) := [(.ret, ⟨slotsOf 2 [(0, .c (.row 0)), (1, .c (.hole (.int .i64)))], [], [(0, 2)]⟩)]
def ref34_Add (n : Nat) (x0 : (List Int) × List Int) : Option (Int × List Int) :=
  letJ (fun (x3 : (List Int) × (List Int) × Bool) =>
    bif x3.2.2 then
      some (1, [])
    else
    (iterL (Y := (Int) ⊕ (List Int)) n (fun (x6 : (List Int) × (List Int) × Int × List Int) =>
      let e0 := x6.1.length
      let e1 := inB x6.2.2.1 e0
      let e2 := inB x6.2.2.1 x6.2.1.length
      let e3 := wrap64 ((atI 0 x6.1 x6.2.2.1) + (atI 0 x6.2.1 x6.2.2.1))
      let e4 := e3 :: []
      bif decide (x6.2.2.1 < ((e0 : Nat) : Int)) then
        bif e1 then
          bif e2 then
            bif decide (1000000000 < e3) then
              some (.inr (.inl 70))
            else
            bif e1 then
              bif e2 then
                bif fitB (x6.2.2.2.length + e4.length) 8 then
                  some (.inl (x6.1, x6.2.1, wrap64 (x6.2.2.1 + 1), x6.2.2.2 ++ e4))
                else
                none
              else
              none
            else
            none
          else
          none
        else
        none
      else
      some (.inr (.inr x6.2.2.2))) (x3.1, x3.2.1, 0, [])).bind (Sum.elim (fun (z7 : Int) =>
      some (z7, [])) (fun (z8 : List Int) =>
      some (0, z8)))) fun J4 =>
  bif !(((x0.1.length : Nat) : Int) == ((x0.2.length : Nat) : Int)) then
    J4 (x0.1, x0.2, true)
  else
  (ref34_few n x0.1).bind fun y1 =>
  bif !y1 then
    J4 (x0.1, x0.2, true)
  else
  (ref34_few n x0.2).bind fun y2 =>
  J4 (x0.1, x0.2, !y2)
def p_ref34_Add : Plan := .two (.leaf) (.two (.two (.join ⟨slotsOf 52 [(0, .c (.hole (.sl 2))), (1, .c (.hole (.sl 2))), (22, .c (.hole (.bool)))], [], []⟩ (.leaf)) (.leaf)) (.two (.leaf) (.two (.two (.leaf) (.one (.loop ⟨slotsOf 52 [(0, .c (.hole (.sl 2))), (1, .c (.hole (.sl 2))), (6, .c (.row 50)), (7, .c (.hole (.int .i64)))], [], [(50, 2)]⟩ [(.ret, ⟨slotsOf 52 [(4, .c (.nil)), (5, .c (.hole (.int .i64)))], [], []⟩), (.exit 0, ⟨slotsOf 52 [(6, .c (.row 50))], [], [(50, 2)]⟩)] (.leaf)))) (.leaf))))
noncomputable def c_ref34_Add (n : Nat) : Cx := ⟨Go.Proofs.Try.prog, Θ, [23, 68], [(68, ⟨h_ref34_few, o_ref34_few, ref34_few n⟩)], [], []⟩
theorem d_ref34_Add (n : Nat) (x : h_ref34_Add.X T) : denF (c_ref34_Add n) n Go.Proofs.Try.f46 p_ref34_Add h_ref34_Add o_ref34_Add x = ref34_Add n x := by kernel_rfl
theorem s_ref34_Add (n : Nat) : PCalls Go.Proofs.Try.prog Θ 46 ⟨h_ref34_Add, o_ref34_Add, ref34_Add n⟩ :=
  func_ok' (C := c_ref34_Add n) (n := n) (p := p_ref34_Add) (ok_of mixed eqsOk ⟨s_ref34_few n, trivial⟩ trivial trivial) Go.Proofs.Try.func46 (by kernel_rfl) (by kernel_rfl) (d_ref34_Add n) (by kernel_rfl)

/-- carrefour/carrefourref34.Turn -/
def h_ref34_Turn : Shape := ⟨slotsOf 2 [(0, .c (.hole (.sl 2))), (1, .c (.hole (.int .i64)))], [], []⟩
def o_ref34_Turn : List (Ex × Shape) := [(.ret, ⟨slotsOf 1 [(0, .c (.row 0))], [], [(0, 2)]⟩)]
def ref34_Turn (n : Nat) (x0 : (List Int) × Int) : Option (List Int) :=
  let e0 := ((x0.1.length : Nat) : Int)
  bif e0 == e0 && decide (0 ≤ e0) && decide (e0 * 8 ≤ 281474976710656) then
    (iterL (Y := (List Int)) n (fun (x1 : (List Int) × Int × Int × List Int) =>
      let e1 := x1.1.length
      let e2 := ((e1 : Nat) : Int)
      bif decide (x1.2.2.1 < e2) then
        (ref03_Mod n (x1.2.1, e2)).bind fun y2 =>
        (ref03_Mod n (wrap64 (x1.2.2.1 + y2), e2)).bind fun y3 =>
        bif inB x1.2.2.1 e1 then
          bif inB y3 x1.2.2.2.length then
            some (.inl (x1.1, x1.2.1, wrap64 (x1.2.2.1 + 1), List.set x1.2.2.2 (Int.toNat y3) (atI 0 x1.1 x1.2.2.1)))
          else
          none
        else
        none
      else
      some (.inr x1.2.2.2)) (x0.1, x0.2, 0, List.replicate (Int.toNat e0) 0)).bind fun (z4 : List Int) =>
      some z4
  else
  none
def p_ref34_Turn : Plan := .two (.leaf) (.two (.leaf) (.two (.two (.leaf) (.one (.loop ⟨slotsOf 33 [(0, .c (.hole (.sl 2))), (1, .c (.hole (.int .i64))), (5, .c (.row 10)), (6, .c (.hole (.int .i64)))], [], [(10, 2)]⟩ [(.exit 0, ⟨slotsOf 33 [(5, .c (.row 10))], [], [(10, 2)]⟩)] (.leaf)))) (.leaf)))
noncomputable def c_ref34_Turn (n : Nat) : Cx := ⟨Go.Proofs.Try.prog, Θ, [23, 68], [(28, ⟨h_ref03_Mod, o_ref03_Mod, ref03_Mod n⟩)], [], []⟩
theorem d_ref34_Turn (n : Nat) (x : h_ref34_Turn.X T) : denF (c_ref34_Turn n) n Go.Proofs.Try.f47 p_ref34_Turn h_ref34_Turn o_ref34_Turn x = ref34_Turn n x := by kernel_rfl
theorem s_ref34_Turn (n : Nat) : PCalls Go.Proofs.Try.prog Θ 47 ⟨h_ref34_Turn, o_ref34_Turn, ref34_Turn n⟩ :=
  func_ok' (C := c_ref34_Turn n) (n := n) (p := p_ref34_Turn) (ok_of mixed eqsOk ⟨s_ref03_Mod n, trivial⟩ trivial trivial) Go.Proofs.Try.func47 (by kernel_rfl) (by kernel_rfl) (d_ref34_Turn n) (by kernel_rfl)

/-- carrefour/carrefourlaw34.ProfileRows -/
def h_law34_ProfileRows : Shape := ⟨slotsOf 3 [(0, .c (.hole (.sl 2))), (1, .c (.hole (.sl 2))), (2, .c (.hole (.int .i64)))], [], []⟩
def o_law34_ProfileRows : List (Ex × Shape) := [(.ret, ⟨slotsOf 1 [(0, .c (.hole (.bool)))], [], []⟩)]
noncomputable def law34_ProfileRows (n : Nat) (x0 : (List Int) × (List Int) × Int) : Option (Bool) :=
  letJ (fun (x1 : (List Int) × (List Int) × Int × Bool) =>
    bif x1.2.2.2 then
      some true
    else
    (profile_Add n (x1.1, x1.2.1)).bind fun y3 =>
    (ref34_Add n (x1.1, x1.2.1)).bind fun y4 =>
    letJ (fun (x12 : Bool) =>
      some x12) fun J13 =>
    (profile_Turn n (x1.1, x1.2.2.1)).bind fun y5 =>
    (ref34_Turn n (x1.1, x1.2.2.1)).bind fun y6 =>
    (ref10_Longs n (y5, y6)).bind fun y7 =>
    bif y7 then
      (ref10_Longs n (y3.2, y4.2)).bind fun y8 =>
      bif y8 then
        bif y3.1 == y4.1 then
          (profile_Sum n x1.1).bind fun y9 =>
          (ref34_Sum n x1.1).bind fun y10 =>
          bif y9 == y10 then
            (law34_awake n ()).bind fun y11 =>
            J13 y11
          else
          J13 false
        else
        J13 false
      else
      J13 false
    else
    J13 false) fun J2 =>
  bif decide (300 < ((x0.1.length : Nat) : Int)) then
    J2 (x0.1, x0.2.1, x0.2.2, true)
  else
  J2 (x0.1, x0.2.1, x0.2.2, decide (300 < ((x0.2.1.length : Nat) : Int)))
def p_law34_ProfileRows : Plan := .two (.leaf) (.two (.two (.join ⟨slotsOf 58 [(0, .c (.hole (.sl 2))), (1, .c (.hole (.sl 2))), (2, .c (.hole (.int .i64))), (18, .c (.hole (.bool)))], [], []⟩ (.leaf)) (.leaf)) (.two (.leaf) (.two (.leaf) (.two (.join ⟨slotsOf 58 [(6, .c (.hole (.bool)))], [], []⟩ (.leaf)) (.leaf)))))
noncomputable def c_law34_ProfileRows (n : Nat) : Cx := ⟨Go.Proofs.Try.prog, Θ, [23, 68], [(44, ⟨h_profile_Turn, o_profile_Turn, profile_Turn n⟩), (43, ⟨h_profile_Sum, o_profile_Sum, profile_Sum n⟩), (48, ⟨h_ref34_Sum, o_ref34_Sum, ref34_Sum n⟩), (41, ⟨h_ref10_Longs, o_ref10_Longs, ref10_Longs n⟩), (42, ⟨h_law34_awake, o_law34_awake, law34_awake n⟩), (45, ⟨h_profile_Add, o_profile_Add, profile_Add n⟩), (46, ⟨h_ref34_Add, o_ref34_Add, ref34_Add n⟩), (47, ⟨h_ref34_Turn, o_ref34_Turn, ref34_Turn n⟩)], [], []⟩
theorem d_law34_ProfileRows (n : Nat) (x : h_law34_ProfileRows.X T) : denF (c_law34_ProfileRows n) n Go.Proofs.Try.f13 p_law34_ProfileRows h_law34_ProfileRows o_law34_ProfileRows x = law34_ProfileRows n x := by kernel_rfl
theorem s_law34_ProfileRows (n : Nat) : PCalls Go.Proofs.Try.prog Θ 13 ⟨h_law34_ProfileRows, o_law34_ProfileRows, law34_ProfileRows n⟩ :=
  func_ok' (C := c_law34_ProfileRows n) (n := n) (p := p_law34_ProfileRows) (ok_of mixed eqsOk ⟨s_profile_Turn n, s_profile_Sum n, s_ref34_Sum n, s_ref10_Longs n, s_law34_awake n, s_profile_Add n, s_ref34_Add n, s_ref34_Turn n, trivial⟩ trivial trivial) Go.Proofs.Try.func13 (by kernel_rfl) (by kernel_rfl) (d_law34_ProfileRows n) (by kernel_rfl)

end Go.Proofs.Ytemhdliapelleaa.Fn
