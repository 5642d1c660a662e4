/- Functions of the program, each as a plain function, and that the machine does what it says. -/
import Derived.Test.YtiildimlelphhaaGreatDoorFnM0
namespace Go.Proofs.YtiildimlelphhaaGreatDoor.Fn
set_option linter.unusedVariables false
set_option maxRecDepth 100000
open Go Go.RowKit Go.Den
/-- carrefour/carrefourref02.Right -/
def h_ref02_Right : Shape := ⟨slotsOf 1 [(0, .agg [.hole (.int .i64), .hole (.int .i64)])], [], []⟩
def o_ref02_Right : List (Ex × Shape) := [(.ret, ⟨slotsOf 1 [(0, .c (.hole (.bool)))], [], []⟩)]
def ref02_Right (n : Nat) (x0 : Int × Int) : Option (Bool) :=
  bif decide (1 ≤ x0.2) then
    (ref01_Size n x0.1).bind fun y1 =>
    (ref02_gcd n (y1, IntKind.wrap .u64 x0.2)).bind fun y2 =>
    some (y2 == 1)
  else
  some false
def p_ref02_Right : Plan := .leaf
noncomputable def c_ref02_Right (n : Nat) : Cx := ⟨Go.Proofs.Tryz.prog, Θ, [33, 23, 78, 128, 163], [(51, ⟨h_ref01_Size, o_ref01_Size, ref01_Size n⟩), (52, ⟨h_ref02_gcd, o_ref02_gcd, ref02_gcd n⟩)], [], []⟩
theorem d_ref02_Right (n : Nat) (x : h_ref02_Right.X T) : denF (c_ref02_Right n) n Go.Proofs.Tryz.f31 p_ref02_Right h_ref02_Right o_ref02_Right x = ref02_Right n x := by kernel_rfl
theorem s_ref02_Right (n : Nat) : PCalls Go.Proofs.Tryz.prog Θ 31 ⟨h_ref02_Right, o_ref02_Right, ref02_Right n⟩ :=
  func_ok' (C := c_ref02_Right n) (n := n) (p := p_ref02_Right) (ok_of mixed eqsOk ⟨s_ref01_Size n, s_ref02_gcd n, trivial⟩ trivial trivial) Go.Proofs.Tryz.func31 (by kernel_rfl) (by kernel_rfl) (d_ref02_Right n) (by kernel_rfl)

/-- carrefour/carrefourref02.Norm -/
def h_ref02_Norm : Shape := ⟨slotsOf 1 [(0, .agg [.hole (.int .i64), .hole (.int .i64)])], [], []⟩
def o_ref02_Norm : List (Ex × Shape) := [(.ret, ⟨slotsOf 1 [(0, .agg [.hole (.int .i64), .hole (.int .i64)])], [], []⟩)]
def ref02_Norm (n : Nat) (x0 : Int × Int) : Option (Int × Int) :=
  (ref02_Right n x0).bind fun y1 =>
  bif !y1 then
    some (0, 1)
  else
  some x0
def p_ref02_Norm : Plan := .leaf
noncomputable def c_ref02_Norm (n : Nat) : Cx := ⟨Go.Proofs.Tryz.prog, Θ, [33, 23, 78, 128, 163], [(31, ⟨h_ref02_Right, o_ref02_Right, ref02_Right n⟩)], [], []⟩
theorem d_ref02_Norm (n : Nat) (x : h_ref02_Norm.X T) : denF (c_ref02_Norm n) n Go.Proofs.Tryz.f36 p_ref02_Norm h_ref02_Norm o_ref02_Norm x = ref02_Norm n x := by kernel_rfl
theorem s_ref02_Norm (n : Nat) : PCalls Go.Proofs.Tryz.prog Θ 36 ⟨h_ref02_Norm, o_ref02_Norm, ref02_Norm n⟩ :=
  func_ok' (C := c_ref02_Norm n) (n := n) (p := p_ref02_Norm) (ok_of mixed eqsOk ⟨s_ref02_Right n, trivial⟩ trivial trivial) Go.Proofs.Tryz.func36 (by kernel_rfl) (by kernel_rfl) (d_ref02_Norm n) (by kernel_rfl)

/-- carrefour/carrefourref01.sign -/
def h_ref01_sign : Shape := ⟨slotsOf 2 [(0, .c (.hole (.int .i64))), (1, .c (.hole (.int .i64)))], [], []⟩
def o_ref01_sign : List (Ex × Shape) := [(.ret, ⟨slotsOf 1 [(0, .c (.hole (.int .i64)))], [], []⟩)]
def ref01_sign (n : Nat) (x0 : Int × Int) : Option (Int) :=
  letJ (fun (x1 : Int × Int × Bool) =>
    bif x1.2.2 then
      some 0
    else
    bif !((decide (x1.1 < 0)) == (decide (x1.2.1 < 0))) then
      some (-1)
    else
    some 1) fun J2 =>
  bif x0.1 == 0 then
    J2 (x0.1, x0.2, true)
  else
  J2 (x0.1, x0.2, x0.2 == 0)
def p_ref01_sign : Plan := .two (.leaf) (.two (.two (.join ⟨slotsOf 16 [(0, .c (.hole (.int .i64))), (1, .c (.hole (.int .i64))), (10, .c (.hole (.bool)))], [], []⟩ (.leaf)) (.leaf)) (.leaf))
noncomputable def c_ref01_sign (n : Nat) : Cx := ⟨Go.Proofs.Tryz.prog, Θ, [33, 23, 78, 128, 163], [], [], []⟩
theorem d_ref01_sign (n : Nat) (x : h_ref01_sign.X T) : denF (c_ref01_sign n) n Go.Proofs.Tryz.f64 p_ref01_sign h_ref01_sign o_ref01_sign x = ref01_sign n x := by kernel_rfl
theorem s_ref01_sign (n : Nat) : PCalls Go.Proofs.Tryz.prog Θ 64 ⟨h_ref01_sign, o_ref01_sign, ref01_sign n⟩ :=
  func_ok' (C := c_ref01_sign n) (n := n) (p := p_ref01_sign) (ok_of mixed eqsOk trivial trivial trivial) Go.Proofs.Tryz.func64 (by kernel_rfl) (by kernel_rfl) (d_ref01_sign n) (by kernel_rfl)

/-- carrefour/carrefourref01.Parts -/
def h_ref01_Parts : Shape := ⟨slotsOf 1 [(0, .c (.hole (.int .u64)))], [], []⟩
def o_ref01_Parts : List (Ex × Shape) := [(.ret, ⟨slotsOf 1 [(0, .c (.row 0))], [], [(0, 76)]⟩)]
def ref01_Parts (n : Nat) (x0 : Int) : Option (List Int) :=
  (iterL (Y := (List Int)) n (fun (x2 : Int × Int × List Int) =>
    let e0 := (Int.tmod x2.1 65536) :: []
    bif decide (x2.2.1 < 4) then
      bif !(65536 == 0) then
        bif fitB (x2.2.2.length + e0.length) 8 then
          bif !(65536 == 0) then
            some (.inl (IntKind.wrap .u64 (Int.tdiv x2.1 65536), wrap64 (x2.2.1 + 1), x2.2.2 ++ e0))
          else
          none
        else
        none
      else
      none
    else
    some (.inr x2.2.2)) (x0, 0, [])).bind fun (z3 : List Int) =>
    some z3
def p_ref01_Parts : Plan := .two (.leaf) (.two (.leaf) (.two (.two (.leaf) (.one (.loop ⟨slotsOf 17 [(0, .c (.hole (.int .u64))), (3, .c (.row 13)), (4, .c (.hole (.int .i64)))], [], [(13, 76)]⟩ [(.exit 0, ⟨slotsOf 17 [(3, .c (.row 13))], [], [(13, 76)]⟩)] (.leaf)))) (.leaf)))
noncomputable def c_ref01_Parts (n : Nat) : Cx := ⟨Go.Proofs.Tryz.prog, Θ, [33, 23, 78, 128, 163], [], [], []⟩
theorem d_ref01_Parts (n : Nat) (x : h_ref01_Parts.X T) : denF (c_ref01_Parts n) n Go.Proofs.Tryz.f93 p_ref01_Parts h_ref01_Parts o_ref01_Parts x = ref01_Parts n x := by kernel_rfl
theorem s_ref01_Parts (n : Nat) : PCalls Go.Proofs.Tryz.prog Θ 93 ⟨h_ref01_Parts, o_ref01_Parts, ref01_Parts n⟩ :=
  func_ok' (C := c_ref01_Parts n) (n := n) (p := p_ref01_Parts) (ok_of mixed eqsOk trivial trivial trivial) Go.Proofs.Tryz.func93 (by kernel_rfl) (by kernel_rfl) (d_ref01_Parts n) (by kernel_rfl)

/-- carrefour/carrefourref01.Plus -/
def h_ref01_Plus : Shape := ⟨slotsOf 2 [(0, .c (.hole (.sl 76))), (1, .c (.hole (.sl 76)))], [], []⟩
def o_ref01_Plus : List (Ex × Shape) := [(.ret, ⟨slotsOf 1 [(0, .c (.row 0))], [], [(0, 76)]⟩)]
def ref01_Plus (n : Nat) (x0 : (List Int) × List Int) : Option (List Int) :=
  (iterL (Y := (List Int)) n (fun (x6 : (List Int) × (List Int) × Int × Int × List Int) =>
    letJ (fun (x7 : (List Int) × (List Int) × Int × Int × Bool × List Int) =>
      let e0 := x7.1.length
      bif x7.2.2.2.2.1 then
        letJ (fun (x9 : (List Int) × (List Int) × Int × Int × List Int) =>
          let e1 := x9.2.1.length
          let e2 := x9.2.2.2.2.length
          let e3 := IntKind.wrap .u64 (x9.2.2.2.1 + (atI 0 x9.2.1 x9.2.2.1))
          let e4 := (Int.tmod e3 65536) :: []
          let e5 := (Int.tmod x9.2.2.2.1 65536) :: []
          let e6 := wrap64 (x9.2.2.1 + 1)
          bif decide (x9.2.2.1 < ((e1 : Nat) : Int)) then
            bif inB x9.2.2.1 e1 then
              bif !(65536 == 0) then
                bif fitB (e2 + e4.length) 8 then
                  bif !(65536 == 0) then
                    some (.inl (x9.1, x9.2.1, IntKind.wrap .u64 (Int.tdiv e3 65536), e6, x9.2.2.2.2 ++ e4))
                  else
                  none
                else
                none
              else
              none
            else
            none
          else
            bif !(65536 == 0) then
              bif fitB (e2 + e5.length) 8 then
                bif !(65536 == 0) then
                  some (.inl (x9.1, x9.2.1, IntKind.wrap .u64 (Int.tdiv x9.2.2.2.1 65536), e6, x9.2.2.2.2 ++ e5))
                else
                none
              else
              none
            else
            none) fun J10 =>
        bif decide (x7.2.2.2.1 < ((e0 : Nat) : Int)) then
          bif inB x7.2.2.2.1 e0 then
            J10 (x7.1, x7.2.1, x7.2.2.2.1, IntKind.wrap .u64 (x7.2.2.1 + (atI 0 x7.1 x7.2.2.2.1)), x7.2.2.2.2.2)
          else
          none
        else
        J10 (x7.1, x7.2.1, x7.2.2.2.1, x7.2.2.1, x7.2.2.2.2.2)
      else
      some (.inr x7.2.2.2.2.2)) fun J8 =>
    bif decide (x6.2.2.2.1 < ((x6.1.length : Nat) : Int)) then
      J8 (x6.1, x6.2.1, x6.2.2.1, x6.2.2.2.1, true, x6.2.2.2.2)
    else
    bif decide (x6.2.2.2.1 < ((x6.2.1.length : Nat) : Int)) then
      J8 (x6.1, x6.2.1, x6.2.2.1, x6.2.2.2.1, true, x6.2.2.2.2)
    else
    J8 (x6.1, x6.2.1, x6.2.2.1, x6.2.2.2.1, decide (0 < x6.2.2.1), x6.2.2.2.2)) (x0.1, x0.2, 0, 0, [])).bind fun (z11 : List Int) =>
    some z11
def p_ref01_Plus : Plan := .two (.leaf) (.two (.leaf) (.two (.leaf) (.two (.two (.leaf) (.one (.loop ⟨slotsOf 54 [(0, .c (.hole (.sl 76))), (1, .c (.hole (.sl 76))), (5, .c (.row 50)), (6, .c (.hole (.int .u64))), (7, .c (.hole (.int .i64)))], [], [(50, 76)]⟩ [(.exit 0, ⟨slotsOf 54 [(5, .c (.row 50))], [], [(50, 76)]⟩)] (.two (.two (.join ⟨slotsOf 54 [(0, .c (.hole (.sl 76))), (1, .c (.hole (.sl 76))), (5, .c (.row 50)), (6, .c (.hole (.int .u64))), (7, .c (.hole (.int .i64))), (22, .c (.hole (.bool)))], [], [(50, 76)]⟩ (.leaf)) (.leaf)) (.two (.one (.two (.leaf) (.two (.join ⟨slotsOf 54 [(0, .c (.hole (.sl 76))), (1, .c (.hole (.sl 76))), (5, .c (.row 50)), (7, .c (.hole (.int .i64))), (8, .c (.hole (.int .u64)))], [], [(50, 76)]⟩ (.leaf)) (.leaf)))) (.leaf)))))) (.leaf))))
noncomputable def c_ref01_Plus (n : Nat) : Cx := ⟨Go.Proofs.Tryz.prog, Θ, [33, 23, 78, 128, 163], [], [], []⟩
theorem d_ref01_Plus (n : Nat) (x : h_ref01_Plus.X T) : denF (c_ref01_Plus n) n Go.Proofs.Tryz.f90 p_ref01_Plus h_ref01_Plus o_ref01_Plus x = ref01_Plus n x := by kernel_rfl
theorem s_ref01_Plus (n : Nat) : PCalls Go.Proofs.Tryz.prog Θ 90 ⟨h_ref01_Plus, o_ref01_Plus, ref01_Plus n⟩ :=
  func_ok' (C := c_ref01_Plus n) (n := n) (p := p_ref01_Plus) (ok_of mixed eqsOk trivial trivial trivial) Go.Proofs.Tryz.func90 (by kernel_rfl) (by kernel_rfl) (d_ref01_Plus n) (by kernel_rfl)

/-- carrefour/carrefourref01.Times -/
def h_ref01_Times : Shape := ⟨slotsOf 2 [(0, .c (.hole (.int .u64))), (1, .c (.hole (.int .u64)))], [], []⟩
def o_ref01_Times : List (Ex × Shape) := [(.ret, ⟨slotsOf 1 [(0, .c (.row 0))], [], [(0, 76)]⟩)]
def ref01_Times (n : Nat) (x0 : Int × Int) : Option (List Int) :=
  (ref01_Parts n x0.1).bind fun y1 =>
  (ref01_Parts n x0.2).bind fun y2 =>
  (iterL (Y := (List Int)) n (fun (x7 : Int × (List Int) × (List Int) × List Int) =>
    bif decide (x7.1 < 4) then
      bif x7.1 == x7.1 && decide (0 ≤ x7.1) && decide (x7.1 * 8 ≤ 281474976710656) then
        (iterL (Y := (Int × Int × (List Int) × (List Int) × (List Int) × List Int)) n (fun (x8 : Int × Int × Int × (List Int) × (List Int) × (List Int) × List Int) =>
          let e0 := IntKind.wrap .u64 ((IntKind.wrap .u64 ((atI 0 x8.2.2.2.1 x8.1) * (atI 0 x8.2.2.2.2.1 x8.2.2.1))) + x8.2.1)
          let e1 := (Int.tmod e0 65536) :: []
          bif decide (x8.2.2.1 < 4) then
            bif inB x8.1 x8.2.2.2.1.length then
              bif inB x8.2.2.1 x8.2.2.2.2.1.length then
                bif !(65536 == 0) then
                  bif fitB (x8.2.2.2.2.2.2.length + e1.length) 8 then
                    bif !(65536 == 0) then
                      some (.inl (x8.1, IntKind.wrap .u64 (Int.tdiv e0 65536), wrap64 (x8.2.2.1 + 1), x8.2.2.2.1, x8.2.2.2.2.1, x8.2.2.2.2.2.1, x8.2.2.2.2.2.2 ++ e1))
                    else
                    none
                  else
                  none
                else
                none
              else
              none
            else
            none
          else
          some (.inr (x8.1, x8.2.1, x8.2.2.2))) (x7.1, 0, 0, x7.2.1, x7.2.2.1, x7.2.2.2, List.replicate (Int.toNat x7.1) 0)).bind fun (z9 : Int × Int × (List Int) × (List Int) × (List Int) × List Int) =>
          let e2 := z9.2.1 :: []
          bif fitB (z9.2.2.2.2.2.length + e2.length) 8 then
            (ref01_Plus n (z9.2.2.2.2.1, z9.2.2.2.2.2 ++ e2)).bind fun y10 =>
            some (.inl (wrap64 (z9.1 + 1), z9.2.2.1, z9.2.2.2.1, y10))
          else
          none
      else
      none
    else
    some (.inr x7.2.2.2)) (0, y1, y2, [])).bind fun (z11 : List Int) =>
    some z11
def p_ref01_Times : Plan := .two (.leaf) (.two (.leaf) (.two (.leaf) (.two (.leaf) (.two (.two (.leaf) (.one (.loop ⟨slotsOf 52 [(5, .c (.row 11400)), (6, .c (.row 11600)), (7, .c (.row 15000)), (8, .c (.hole (.int .i64)))], [], [(11400, 76), (11600, 76), (15000, 76)]⟩ [(.exit 0, ⟨slotsOf 52 [(7, .c (.row 15000))], [], [(15000, 76)]⟩)] (.two (.leaf) (.two (.one (.two (.leaf) (.two (.leaf) (.two (.two (.leaf) (.one (.loop ⟨slotsOf 52 [(5, .c (.row 11400)), (6, .c (.row 11600)), (7, .c (.row 15000)), (8, .c (.hole (.int .i64))), (9, .c (.row 22)), (10, .c (.hole (.int .u64))), (11, .c (.hole (.int .i64)))], [], [(11400, 76), (11600, 76), (15000, 76), (22, 76)]⟩ [(.exit 2, ⟨slotsOf 52 [(5, .c (.row 11400)), (6, .c (.row 11600)), (7, .c (.row 15000)), (8, .c (.hole (.int .i64))), (9, .c (.row 22)), (10, .c (.hole (.int .u64)))], [], [(11400, 76), (11600, 76), (15000, 76), (22, 76)]⟩)] (.leaf)))) (.leaf))))) (.leaf)))))) (.leaf)))))
noncomputable def c_ref01_Times (n : Nat) : Cx := ⟨Go.Proofs.Tryz.prog, Θ, [33, 23, 78, 128, 163], [(93, ⟨h_ref01_Parts, o_ref01_Parts, ref01_Parts n⟩), (90, ⟨h_ref01_Plus, o_ref01_Plus, ref01_Plus n⟩)], [], []⟩
theorem d_ref01_Times (n : Nat) (x : h_ref01_Times.X T) : denF (c_ref01_Times n) n Go.Proofs.Tryz.f62 p_ref01_Times h_ref01_Times o_ref01_Times x = ref01_Times n x := by kernel_rfl
theorem s_ref01_Times (n : Nat) : PCalls Go.Proofs.Tryz.prog Θ 62 ⟨h_ref01_Times, o_ref01_Times, ref01_Times n⟩ :=
  func_ok' (C := c_ref01_Times n) (n := n) (p := p_ref01_Times) (ok_of mixed eqsOk ⟨s_ref01_Parts n, s_ref01_Plus n, trivial⟩ trivial trivial) Go.Proofs.Tryz.func62 (by kernel_rfl) (by kernel_rfl) (d_ref01_Times n) (by kernel_rfl)

/-- carrefour/carrefourref01.Order -/
def h_ref01_Order : Shape := ⟨slotsOf 2 [(0, .c (.hole (.sl 76))), (1, .c (.hole (.sl 76)))], [], []⟩
def o_ref01_Order : List (Ex × Shape) := [(.ret, ⟨slotsOf 1 [(0, .c (.hole (.int .i64)))], [], []⟩)]
def ref01_Order (n : Nat) (x0 : (List Int) × List Int) : Option (Int) :=
  (iterL (Y := (Int) ⊕ (Unit)) n (fun (x1 : (List Int) × (List Int) × Int) =>
    let e0 := x1.1.length
    bif decide (0 ≤ x1.2.2) then
      letJ (fun (x2 : (List Int) × (List Int) × Int × Int × Int) =>
        let e1 := x2.2.1.length
        letJ (fun (x4 : (List Int) × (List Int) × Int × Int × Int) =>
          bif decide (x4.2.2.2.1 < x4.2.2.2.2) then
            some (.inr (.inl (-1)))
          else
          bif decide (x4.2.2.2.2 < x4.2.2.2.1) then
            some (.inr (.inl 1))
          else
          some (.inl (x4.1, x4.2.1, wrap64 (x4.2.2.1 - 1)))) fun J5 =>
        bif decide (x2.2.2.1 < ((e1 : Nat) : Int)) then
          bif inB x2.2.2.1 e1 then
            J5 (x2.1, x2.2.1, x2.2.2.1, x2.2.2.2.1, atI 0 x2.2.1 x2.2.2.1)
          else
          none
        else
        J5 x2) fun J3 =>
      bif decide (x1.2.2 < ((e0 : Nat) : Int)) then
        bif inB x1.2.2 e0 then
          J3 (x1.1, x1.2.1, x1.2.2, atI 0 x1.1 x1.2.2, 0)
        else
        none
      else
      J3 (x1.1, x1.2.1, x1.2.2, 0, 0)
    else
    some (.inr (.inr ()))) (x0.1, x0.2, wrap64 ((mx ((x0.1.length : Nat) : Int) ((x0.2.length : Nat) : Int)) - 1))).bind (Sum.elim (fun (z6 : Int) =>
    some z6) (fun (z7 : Unit) =>
    some 0))
def p_ref01_Order : Plan := .two (.leaf) (.two (.leaf) (.two (.two (.leaf) (.one (.loop ⟨slotsOf 42 [(0, .c (.hole (.sl 76))), (1, .c (.hole (.sl 76))), (6, .c (.hole (.int .i64)))], [], []⟩ [(.ret, ⟨slotsOf 42 [(4, .c (.hole (.int .i64)))], [], []⟩), (.exit 0, ⟨slotsOf 42 [], [], []⟩)] (.two (.leaf) (.two (.one (.two (.leaf) (.two (.join ⟨slotsOf 42 [(0, .c (.hole (.sl 76))), (1, .c (.hole (.sl 76))), (6, .c (.hole (.int .i64))), (7, .c (.hole (.int .u64))), (8, .c (.hole (.int .u64)))], [], []⟩ (.leaf)) (.two (.join ⟨slotsOf 42 [(0, .c (.hole (.sl 76))), (1, .c (.hole (.sl 76))), (6, .c (.hole (.int .i64))), (7, .c (.hole (.int .u64))), (8, .c (.hole (.int .u64)))], [], []⟩ (.leaf)) (.leaf))))) (.leaf)))))) (.leaf)))
noncomputable def c_ref01_Order (n : Nat) : Cx := ⟨Go.Proofs.Tryz.prog, Θ, [33, 23, 78, 128, 163], [], [], []⟩
theorem d_ref01_Order (n : Nat) (x : h_ref01_Order.X T) : denF (c_ref01_Order n) n Go.Proofs.Tryz.f65 p_ref01_Order h_ref01_Order o_ref01_Order x = ref01_Order n x := by kernel_rfl
theorem s_ref01_Order (n : Nat) : PCalls Go.Proofs.Tryz.prog Θ 65 ⟨h_ref01_Order, o_ref01_Order, ref01_Order n⟩ :=
  func_ok' (C := c_ref01_Order n) (n := n) (p := p_ref01_Order) (ok_of mixed eqsOk trivial trivial trivial) Go.Proofs.Tryz.func65 (by kernel_rfl) (by kernel_rfl) (d_ref01_Order n) (by kernel_rfl)

/-- carrefour/carrefourref01.Compare -/
def h_ref01_Compare : Shape := ⟨slotsOf 4 [(0, .c (.hole (.int .i64))), (1, .c (.hole (.int .i64))), (2, .c (.hole (.int .i64))), (3, .c (.hole (.int .i64)))], [], []⟩
def o_ref01_Compare : List (Ex × Shape) := [(.ret, ⟨slotsOf 1 [(0, .c (.hole (.int .i64)))], [], []⟩)]
def ref01_Compare (n : Nat) (x0 : Int × Int × Int × Int) : Option (Int) :=
  (ref01_sign n (x0.1, x0.2.1)).bind fun y1 =>
  (ref01_sign n x0.2.2).bind fun y2 =>
  bif decide (y1 < y2) then
    some (-1)
  else
  bif decide (y2 < y1) then
    some 1
  else
  letJ (fun (x7 : Int × Int × Int × Int × Int × Bool) =>
    let e0 := wrap64 (x7.1 * x7.2.1)
    let e1 := wrap64 (x7.2.2.1 * x7.2.2.2.1)
    bif x7.2.2.2.2.2 then
      bif decide (e0 < e1) then
        some (-1)
      else
      bif decide (e1 < e0) then
        some 1
      else
      some 0
    else
      (ref01_Size n x7.1).bind fun y9 =>
      (ref01_Size n x7.2.1).bind fun y10 =>
      (ref01_Times n (y9, y10)).bind fun y11 =>
      (ref01_Size n x7.2.2.1).bind fun y12 =>
      (ref01_Size n x7.2.2.2.1).bind fun y13 =>
      (ref01_Times n (y12, y13)).bind fun y14 =>
      (ref01_Order n (y11, y14)).bind fun y15 =>
      some (wrap64 (x7.2.2.2.2.1 * y15))) fun J8 =>
  (ref01_Size n x0.1).bind fun y3 =>
  bif decide (y3 < 2147483648) then
    (ref01_Size n x0.2.1).bind fun y4 =>
    bif decide (y4 < 2147483648) then
      (ref01_Size n x0.2.2.1).bind fun y5 =>
      bif decide (y5 < 2147483648) then
        (ref01_Size n x0.2.2.2).bind fun y6 =>
        J8 (x0.1, x0.2.1, x0.2.2.1, x0.2.2.2, y1, decide (y6 < 2147483648))
      else
      J8 (x0.1, x0.2.1, x0.2.2.1, x0.2.2.2, y1, false)
    else
    J8 (x0.1, x0.2.1, x0.2.2.1, x0.2.2.2, y1, false)
  else
  J8 (x0.1, x0.2.1, x0.2.2.1, x0.2.2.2, y1, false)
def p_ref01_Compare : Plan := .two (.leaf) (.two (.leaf) (.two (.leaf) (.two (.leaf) (.two (.leaf) (.two (.two (.join ⟨slotsOf 68 [(0, .c (.hole (.int .i64))), (1, .c (.hole (.int .i64))), (2, .c (.hole (.int .i64))), (3, .c (.hole (.int .i64))), (9, .c (.hole (.int .i64))), (40, .c (.hole (.bool)))], [], []⟩ (.leaf)) (.leaf)) (.leaf))))))
noncomputable def c_ref01_Compare (n : Nat) : Cx := ⟨Go.Proofs.Tryz.prog, Θ, [33, 23, 78, 128, 163], [(51, ⟨h_ref01_Size, o_ref01_Size, ref01_Size n⟩), (64, ⟨h_ref01_sign, o_ref01_sign, ref01_sign n⟩), (62, ⟨h_ref01_Times, o_ref01_Times, ref01_Times n⟩), (65, ⟨h_ref01_Order, o_ref01_Order, ref01_Order n⟩)], [], []⟩
theorem d_ref01_Compare (n : Nat) (x : h_ref01_Compare.X T) : denF (c_ref01_Compare n) n Go.Proofs.Tryz.f37 p_ref01_Compare h_ref01_Compare o_ref01_Compare x = ref01_Compare n x := by kernel_rfl
theorem s_ref01_Compare (n : Nat) : PCalls Go.Proofs.Tryz.prog Θ 37 ⟨h_ref01_Compare, o_ref01_Compare, ref01_Compare n⟩ :=
  func_ok' (C := c_ref01_Compare n) (n := n) (p := p_ref01_Compare) (ok_of mixed eqsOk ⟨s_ref01_Size n, s_ref01_sign n, s_ref01_Times n, s_ref01_Order n, trivial⟩ trivial trivial) Go.Proofs.Tryz.func37 (by kernel_rfl) (by kernel_rfl) (d_ref01_Compare n) (by kernel_rfl)

/-- carrefour/carrefourref02.Cmp -/
def h_ref02_Cmp : Shape := ⟨slotsOf 2 [(0, .agg [.hole (.int .i64), .hole (.int .i64)]), (1, .agg [.hole (.int .i64), .hole (.int .i64)])], [], []⟩
def o_ref02_Cmp : List (Ex × Shape) := [(.ret, ⟨slotsOf 1 [(0, .c (.hole (.int .i64)))], [], []⟩)]
def ref02_Cmp (n : Nat) (x0 : Int × Int × Int × Int) : Option (Int) :=
  (ref02_Norm n (x0.1, x0.2.1)).bind fun y1 =>
  (ref02_Norm n x0.2.2).bind fun y2 =>
  (ref01_Compare n (y1.1, y2.2, y2.1, y1.2)).bind fun y3 =>
  some y3
def p_ref02_Cmp : Plan := .leaf
noncomputable def c_ref02_Cmp (n : Nat) : Cx := ⟨Go.Proofs.Tryz.prog, Θ, [33, 23, 78, 128, 163], [(36, ⟨h_ref02_Norm, o_ref02_Norm, ref02_Norm n⟩), (37, ⟨h_ref01_Compare, o_ref01_Compare, ref01_Compare n⟩)], [], []⟩
theorem d_ref02_Cmp (n : Nat) (x : h_ref02_Cmp.X T) : denF (c_ref02_Cmp n) n Go.Proofs.Tryz.f17 p_ref02_Cmp h_ref02_Cmp o_ref02_Cmp x = ref02_Cmp n x := by kernel_rfl
theorem s_ref02_Cmp (n : Nat) : PCalls Go.Proofs.Tryz.prog Θ 17 ⟨h_ref02_Cmp, o_ref02_Cmp, ref02_Cmp n⟩ :=
  func_ok' (C := c_ref02_Cmp n) (n := n) (p := p_ref02_Cmp) (ok_of mixed eqsOk ⟨s_ref02_Norm n, s_ref01_Compare n, trivial⟩ trivial trivial) Go.Proofs.Tryz.func17 (by kernel_rfl) (by kernel_rfl) (d_ref02_Cmp n) (by kernel_rfl)

/-- carrefour/carrefourref02.minus -/
def h_ref02_minus : Shape := ⟨slotsOf 1 [(0, .agg [.hole (.int .i64), .hole (.int .i64)])], [], []⟩
def o_ref02_minus : List (Ex × Shape) := [(.ret, ⟨slotsOf 2 [(0, .agg [.hole (.int .i64), .hole (.int .i64)]), (1, .c (.hole (.bool)))], [], []⟩)]
def ref02_minus (n : Nat) (x0 : Int × Int) : Option (Int × Int × Bool) :=
  bif x0.1 == (-9223372036854775808) then
    some (x0.1, x0.2, false)
  else
  some (wrap64 (0 - x0.1), x0.2, true)
def p_ref02_minus : Plan := .leaf
noncomputable def c_ref02_minus (n : Nat) : Cx := ⟨Go.Proofs.Tryz.prog, Θ, [33, 23, 78, 128, 163], [], [], []⟩
theorem d_ref02_minus (n : Nat) (x : h_ref02_minus.X T) : denF (c_ref02_minus n) n Go.Proofs.Tryz.f57 p_ref02_minus h_ref02_minus o_ref02_minus x = ref02_minus n x := by kernel_rfl
theorem s_ref02_minus (n : Nat) : PCalls Go.Proofs.Tryz.prog Θ 57 ⟨h_ref02_minus, o_ref02_minus, ref02_minus n⟩ :=
  func_ok' (C := c_ref02_minus n) (n := n) (p := p_ref02_minus) (ok_of mixed eqsOk trivial trivial trivial) Go.Proofs.Tryz.func57 (by kernel_rfl) (by kernel_rfl) (d_ref02_minus n) (by kernel_rfl)

/-- carrefour/carrefourref02.few -/
def h_ref02_few : Shape := ⟨slotsOf 2 [(0, .agg [.hole (.int .i64), .hole (.int .i64)]), (1, .agg [.hole (.int .i64), .hole (.int .i64)])], [], []⟩
def o_ref02_few : List (Ex × Shape) := [(.ret, ⟨slotsOf 1 [(0, .c (.hole (.bool)))], [], []⟩)]
def ref02_few (n : Nat) (x0 : Int × Int × Int × Int) : Option (Bool) :=
  letJ (fun (x3 : Bool) =>
    some x3) fun J4 =>
  (ref01_Size n x0.1).bind fun y1 =>
  bif decide (y1 < 1073741824) then
    (ref01_Size n x0.2.2.1).bind fun y2 =>
    bif decide (y2 < 1073741824) then
      bif decide (x0.2.1 < 1073741824) then
        J4 (decide (x0.2.2.2 < 1073741824))
      else
      J4 false
    else
    J4 false
  else
  J4 false
def p_ref02_few : Plan := .two (.leaf) (.two (.join ⟨slotsOf 25 [(4, .c (.hole (.bool)))], [], []⟩ (.leaf)) (.leaf))
noncomputable def c_ref02_few (n : Nat) : Cx := ⟨Go.Proofs.Tryz.prog, Θ, [33, 23, 78, 128, 163], [(51, ⟨h_ref01_Size, o_ref01_Size, ref01_Size n⟩)], [], []⟩
theorem d_ref02_few (n : Nat) (x : h_ref02_few.X T) : denF (c_ref02_few n) n Go.Proofs.Tryz.f60 p_ref02_few h_ref02_few o_ref02_few x = ref02_few n x := by kernel_rfl
theorem s_ref02_few (n : Nat) : PCalls Go.Proofs.Tryz.prog Θ 60 ⟨h_ref02_few, o_ref02_few, ref02_few n⟩ :=
  func_ok' (C := c_ref02_few n) (n := n) (p := p_ref02_few) (ok_of mixed eqsOk ⟨s_ref01_Size n, trivial⟩ trivial trivial) Go.Proofs.Tryz.func60 (by kernel_rfl) (by kernel_rfl) (d_ref02_few n) (by kernel_rfl)

/-- carrefour/carrefourref02.trim -/
def h_ref02_trim : Shape := ⟨slotsOf 1 [(0, .c (.hole (.sl 76)))], [], []⟩
def o_ref02_trim : List (Ex × Shape) := [(.ret, ⟨slotsOf 1 [(0, .c (.row 0))], [], [(0, 76)]⟩)]
def ref02_trim (n : Nat) (x0 : List Int) : Option (List Int) :=
  (iterL (Y := ((List Int) × Int)) n (fun (x1 : (List Int) × Int) =>
    let e0 := wrap64 (x1.2 - 1)
    letJ (fun (x2 : (List Int) × Int × Bool) =>
      bif x2.2.2 then
        some (.inl (x2.1, wrap64 (x2.2.1 - 1)))
      else
      some (.inr (x2.1, x2.2.1))) fun J3 =>
    bif decide (0 < x1.2) then
      bif inB e0 x1.1.length then
        J3 (x1.1, x1.2, (atI 0 x1.1 e0) == 0)
      else
      none
    else
    J3 (x1.1, x1.2, false)) (x0, ((x0.length : Nat) : Int))).bind fun (z4 : (List Int) × Int) =>
    let e1 := cutList none (some z4.2) z4.1
    bif cutOk none (some z4.2) z4.1.length then
      bif fitB e1.length 8 then
        some e1
      else
      none
    else
    none
def p_ref02_trim : Plan := .two (.leaf) (.two (.leaf) (.two (.one (.loop ⟨slotsOf 23 [(0, .c (.hole (.sl 76))), (3, .c (.hole (.int .i64)))], [], []⟩ [(.exit 0, ⟨slotsOf 23 [(0, .c (.hole (.sl 76))), (3, .c (.hole (.int .i64)))], [], []⟩)] (.two (.two (.join ⟨slotsOf 23 [(0, .c (.hole (.sl 76))), (3, .c (.hole (.int .i64))), (15, .c (.hole (.bool)))], [], []⟩ (.leaf)) (.leaf)) (.leaf)))) (.leaf)))
noncomputable def c_ref02_trim (n : Nat) : Cx := ⟨Go.Proofs.Tryz.prog, Θ, [33, 23, 78, 128, 163], [], [], []⟩
theorem d_ref02_trim (n : Nat) (x : h_ref02_trim.X T) : denF (c_ref02_trim n) n Go.Proofs.Tryz.f61 p_ref02_trim h_ref02_trim o_ref02_trim x = ref02_trim n x := by kernel_rfl
theorem s_ref02_trim (n : Nat) : PCalls Go.Proofs.Tryz.prog Θ 61 ⟨h_ref02_trim, o_ref02_trim, ref02_trim n⟩ :=
  func_ok' (C := c_ref02_trim n) (n := n) (p := p_ref02_trim) (ok_of mixed eqsOk trivial trivial trivial) Go.Proofs.Tryz.func61 (by kernel_rfl) (by kernel_rfl) (d_ref02_trim n) (by kernel_rfl)

/-- carrefour/carrefourref02.twice -/
def h_ref02_twice : Shape := ⟨slotsOf 1 [(0, .c (.hole (.sl 76)))], [], []⟩
def o_ref02_twice : List (Ex × Shape) := [(.ret, ⟨slotsOf 1 [(0, .c (.row 0))], [], [(0, 76)]⟩)]
def ref02_twice (n : Nat) (x0 : List Int) : Option (List Int) :=
  (ref01_Plus n (x0, x0)).bind fun y1 =>
  some y1
def p_ref02_twice : Plan := .leaf
noncomputable def c_ref02_twice (n : Nat) : Cx := ⟨Go.Proofs.Tryz.prog, Θ, [33, 23, 78, 128, 163], [(90, ⟨h_ref01_Plus, o_ref01_Plus, ref01_Plus n⟩)], [], []⟩
theorem d_ref02_twice (n : Nat) (x : h_ref02_twice.X T) : denF (c_ref02_twice n) n Go.Proofs.Tryz.f92 p_ref02_twice h_ref02_twice o_ref02_twice x = ref02_twice n x := by kernel_rfl
theorem s_ref02_twice (n : Nat) : PCalls Go.Proofs.Tryz.prog Θ 92 ⟨h_ref02_twice, o_ref02_twice, ref02_twice n⟩ :=
  func_ok' (C := c_ref02_twice n) (n := n) (p := p_ref02_twice) (ok_of mixed eqsOk ⟨s_ref01_Plus n, trivial⟩ trivial trivial) Go.Proofs.Tryz.func92 (by kernel_rfl) (by kernel_rfl) (d_ref02_twice n) (by kernel_rfl)

/-- carrefour/carrefourref01.Minus -/
def h_ref01_Minus : Shape := ⟨slotsOf 2 [(0, .c (.hole (.sl 76))), (1, .c (.hole (.sl 76)))], [], []⟩
def o_ref01_Minus : List (Ex × Shape) := [(.ret, ⟨slotsOf 1 [(0, .c (.row 0))], [], [(0, 76)]⟩)]
def ref01_Minus (n : Nat) (x0 : (List Int) × List Int) : Option (List Int) :=
  (iterL (Y := (List Int)) n (fun (x4 : (List Int) × (List Int) × Int × Int × List Int) =>
    let e0 := x4.2.1.length
    bif decide (x4.2.2.2.1 < ((x4.1.length : Nat) : Int)) then
      letJ (fun (x5 : (List Int) × (List Int) × Int × Int × List Int) =>
        let e1 := inB x5.2.2.1 x5.1.length
        let e2 := x5.2.2.2.2.length
        let e3 := atI 0 x5.1 x5.2.2.1
        let e4 := (IntKind.wrap .u64 (e3 - x5.2.2.2.1)) :: []
        let e5 := (IntKind.wrap .u64 ((IntKind.wrap .u64 (e3 + 65536)) - x5.2.2.2.1)) :: []
        let e6 := wrap64 (x5.2.2.1 + 1)
        bif e1 then
          bif decide (x5.2.2.2.1 ≤ e3) then
            bif e1 then
              bif fitB (e2 + e4.length) 8 then
                some (.inl (x5.1, x5.2.1, 0, e6, x5.2.2.2.2 ++ e4))
              else
              none
            else
            none
          else
            bif e1 then
              bif fitB (e2 + e5.length) 8 then
                some (.inl (x5.1, x5.2.1, 1, e6, x5.2.2.2.2 ++ e5))
              else
              none
            else
            none
        else
        none) fun J6 =>
      bif decide (x4.2.2.2.1 < ((e0 : Nat) : Int)) then
        bif inB x4.2.2.2.1 e0 then
          J6 (x4.1, x4.2.1, x4.2.2.2.1, IntKind.wrap .u64 (x4.2.2.1 + (atI 0 x4.2.1 x4.2.2.2.1)), x4.2.2.2.2)
        else
        none
      else
      J6 (x4.1, x4.2.1, x4.2.2.2.1, x4.2.2.1, x4.2.2.2.2)
    else
    some (.inr x4.2.2.2.2)) (x0.1, x0.2, 0, 0, [])).bind fun (z7 : List Int) =>
    some z7
def p_ref01_Minus : Plan := .two (.leaf) (.two (.leaf) (.two (.leaf) (.two (.two (.leaf) (.one (.loop ⟨slotsOf 52 [(0, .c (.hole (.sl 76))), (1, .c (.hole (.sl 76))), (5, .c (.row 40)), (6, .c (.hole (.int .u64))), (7, .c (.hole (.int .i64)))], [], [(40, 76)]⟩ [(.exit 0, ⟨slotsOf 52 [(5, .c (.row 40))], [], [(40, 76)]⟩)] (.two (.leaf) (.two (.one (.two (.leaf) (.two (.join ⟨slotsOf 52 [(0, .c (.hole (.sl 76))), (1, .c (.hole (.sl 76))), (5, .c (.row 40)), (7, .c (.hole (.int .i64))), (8, .c (.hole (.int .u64)))], [], [(40, 76)]⟩ (.leaf)) (.leaf)))) (.leaf)))))) (.leaf))))
noncomputable def c_ref01_Minus (n : Nat) : Cx := ⟨Go.Proofs.Tryz.prog, Θ, [33, 23, 78, 128, 163], [], [], []⟩
theorem d_ref01_Minus (n : Nat) (x : h_ref01_Minus.X T) : denF (c_ref01_Minus n) n Go.Proofs.Tryz.f91 p_ref01_Minus h_ref01_Minus o_ref01_Minus x = ref01_Minus n x := by kernel_rfl
theorem s_ref01_Minus (n : Nat) : PCalls Go.Proofs.Tryz.prog Θ 91 ⟨h_ref01_Minus, o_ref01_Minus, ref01_Minus n⟩ :=
  func_ok' (C := c_ref01_Minus n) (n := n) (p := p_ref01_Minus) (ok_of mixed eqsOk trivial trivial trivial) Go.Proofs.Tryz.func91 (by kernel_rfl) (by kernel_rfl) (d_ref01_Minus n) (by kernel_rfl)

/-- carrefour/carrefourref02.rest -/
def h_ref02_rest : Shape := ⟨slotsOf 2 [(0, .c (.hole (.sl 76))), (1, .c (.hole (.sl 76)))], [], []⟩
def o_ref02_rest : List (Ex × Shape) := [(.ret, ⟨slotsOf 1 [(0, .c (.hole (.sl 76)))], [], []⟩)]
def ref02_rest (n : Nat) (x0 : (List Int) × List Int) : Option (List Int) :=
  (iterL (Y := ((List Int) × List (List Int))) n (fun (x4 : (List Int) × (List Int) × List (List Int)) =>
    let e0 := x4.2.1 :: []
    (ref01_Order n (x4.2.1, x4.1)).bind fun y5 =>
    bif decide (y5 ≤ 0) then
      bif fitB (x4.2.2.length + e0.length) 24 then
        (ref02_twice n x4.2.1).bind fun y6 =>
        some (.inl (x4.1, y6, x4.2.2 ++ e0))
      else
      none
    else
    some (.inr (x4.1, x4.2.2))) (x0.1, x0.2, [])).bind fun (z7 : (List Int) × List (List Int)) =>
    (iterL (Y := (List Int)) n (fun (x8 : (List Int) × Int × List (List Int)) =>
      let e1 := inB x8.2.1 x8.2.2.length
      let e2 := atI [] x8.2.2 x8.2.1
      bif decide (0 ≤ x8.2.1) then
        bif e1 then
          (ref01_Order n (e2, x8.1)).bind fun y9 =>
          bif decide (y9 ≤ 0) then
            bif e1 then
              (ref01_Minus n (x8.1, e2)).bind fun y10 =>
              (ref02_trim n y10).bind fun y11 =>
              some (.inl (y11, wrap64 (x8.2.1 - 1), x8.2.2))
            else
            none
          else
          some (.inl (x8.1, wrap64 (x8.2.1 - 1), x8.2.2))
        else
        none
      else
      some (.inr x8.1)) (z7.1, wrap64 (((z7.2.length : Nat) : Int) - 1), z7.2)).bind fun (z12 : List Int) =>
      some z12
def p_ref02_rest : Plan := .two (.leaf) (.two (.leaf) (.two (.two (.leaf) (.one (.loop ⟨slotsOf 41 [(0, .c (.hole (.sl 76))), (5, .c (.row 18)), (6, .c (.hole (.sl 76)))], [], [(18, 89)]⟩ [(.exit 0, ⟨slotsOf 41 [(0, .c (.hole (.sl 76))), (5, .c (.row 18))], [], [(18, 89)]⟩)] (.leaf)))) (.two (.two (.leaf) (.one (.loop ⟨slotsOf 41 [(0, .c (.hole (.sl 76))), (5, .c (.row 18)), (7, .c (.hole (.int .i64)))], [], [(18, 89)]⟩ [(.exit 2, ⟨slotsOf 41 [(0, .c (.hole (.sl 76)))], [], []⟩)] (.leaf)))) (.leaf))))
noncomputable def c_ref02_rest (n : Nat) : Cx := ⟨Go.Proofs.Tryz.prog, Θ, [33, 23, 78, 128, 163], [(65, ⟨h_ref01_Order, o_ref01_Order, ref01_Order n⟩), (61, ⟨h_ref02_trim, o_ref02_trim, ref02_trim n⟩), (92, ⟨h_ref02_twice, o_ref02_twice, ref02_twice n⟩), (91, ⟨h_ref01_Minus, o_ref01_Minus, ref01_Minus n⟩)], [], []⟩
theorem d_ref02_rest (n : Nat) (x : h_ref02_rest.X T) : denF (c_ref02_rest n) n Go.Proofs.Tryz.f94 p_ref02_rest h_ref02_rest o_ref02_rest x = ref02_rest n x := by kernel_rfl
theorem s_ref02_rest (n : Nat) : PCalls Go.Proofs.Tryz.prog Θ 94 ⟨h_ref02_rest, o_ref02_rest, ref02_rest n⟩ :=
  func_ok' (C := c_ref02_rest n) (n := n) (p := p_ref02_rest) (ok_of mixed eqsOk ⟨s_ref01_Order n, s_ref02_trim n, s_ref02_twice n, s_ref01_Minus n, trivial⟩ trivial trivial) Go.Proofs.Tryz.func94 (by kernel_rfl) (by kernel_rfl) (d_ref02_rest n) (by kernel_rfl)

/-- carrefour/carrefourref02.divided -/
def h_ref02_divided : Shape := ⟨slotsOf 2 [(0, .c (.hole (.sl 76))), (1, .c (.hole (.sl 76)))], [], []⟩
def o_ref02_divided : List (Ex × Shape) := [(.ret, ⟨slotsOf 2 [(0, .c (.hole (.int .u64))), (1, .c (.hole (.bool)))], [], []⟩)]
def ref02_divided (n : Nat) (x0 : (List Int) × List Int) : Option (Int × Bool) :=
  (iterL (Y := ((List Int) × Int × List (List Int))) n (fun (x4 : (List Int) × Int × (List Int) × List (List Int)) =>
    let e0 := x4.2.2.1 :: []
    (ref01_Order n (x4.2.2.1, x4.1)).bind fun y5 =>
    bif decide (y5 ≤ 0) then
      bif fitB (x4.2.2.2.length + e0.length) 24 then
        (ref02_twice n x4.2.2.1).bind fun y6 =>
        some (.inl (x4.1, x4.2.1, y6, x4.2.2.2 ++ e0))
      else
      none
    else
    some (.inr (x4.1, x4.2.1, x4.2.2.2))) (x0.1, 0, x0.2, [])).bind fun (z7 : (List Int) × Int × List (List Int)) =>
    let e1 := ((z7.2.2.length : Nat) : Int)
    bif decide (64 < e1) then
      some (0, false)
    else
    (iterL (Y := (Int)) n (fun (x8 : (List Int) × Int × Int × List (List Int)) =>
      let e2 := inB x8.2.2.1 x8.2.2.2.length
      let e3 := atI [] x8.2.2.2 x8.2.2.1
      let e4 := IntKind.wrap .u64 (x8.2.1 * 2)
      bif decide (0 ≤ x8.2.2.1) then
        bif e2 then
          (ref01_Order n (e3, x8.1)).bind fun y9 =>
          bif decide (y9 ≤ 0) then
            bif e2 then
              (ref01_Minus n (x8.1, e3)).bind fun y10 =>
              (ref02_trim n y10).bind fun y11 =>
              some (.inl (y11, IntKind.wrap .u64 (e4 + 1), wrap64 (x8.2.2.1 - 1), x8.2.2.2))
            else
            none
          else
          some (.inl (x8.1, e4, wrap64 (x8.2.2.1 - 1), x8.2.2.2))
        else
        none
      else
      some (.inr x8.2.1)) (z7.1, z7.2.1, wrap64 (e1 - 1), z7.2.2)).bind fun (z12 : Int) =>
      some (z12, true)
def p_ref02_divided : Plan := .two (.leaf) (.two (.leaf) (.two (.leaf) (.two (.two (.leaf) (.one (.loop ⟨slotsOf 50 [(0, .c (.hole (.sl 76))), (6, .c (.hole (.int .u64))), (7, .c (.row 20)), (8, .c (.hole (.sl 76)))], [], [(20, 89)]⟩ [(.exit 0, ⟨slotsOf 50 [(0, .c (.hole (.sl 76))), (6, .c (.hole (.int .u64))), (7, .c (.row 20))], [], [(20, 89)]⟩)] (.leaf)))) (.two (.leaf) (.two (.two (.leaf) (.one (.loop ⟨slotsOf 50 [(0, .c (.hole (.sl 76))), (6, .c (.hole (.int .u64))), (7, .c (.row 20)), (9, .c (.hole (.int .i64)))], [], [(20, 89)]⟩ [(.exit 2, ⟨slotsOf 50 [(6, .c (.hole (.int .u64)))], [], []⟩)] (.leaf)))) (.leaf))))))
noncomputable def c_ref02_divided (n : Nat) : Cx := ⟨Go.Proofs.Tryz.prog, Θ, [33, 23, 78, 128, 163], [(65, ⟨h_ref01_Order, o_ref01_Order, ref01_Order n⟩), (61, ⟨h_ref02_trim, o_ref02_trim, ref02_trim n⟩), (92, ⟨h_ref02_twice, o_ref02_twice, ref02_twice n⟩), (91, ⟨h_ref01_Minus, o_ref01_Minus, ref01_Minus n⟩)], [], []⟩
theorem d_ref02_divided (n : Nat) (x : h_ref02_divided.X T) : denF (c_ref02_divided n) n Go.Proofs.Tryz.f95 p_ref02_divided h_ref02_divided o_ref02_divided x = ref02_divided n x := by kernel_rfl
theorem s_ref02_divided (n : Nat) : PCalls Go.Proofs.Tryz.prog Θ 95 ⟨h_ref02_divided, o_ref02_divided, ref02_divided n⟩ :=
  func_ok' (C := c_ref02_divided n) (n := n) (p := p_ref02_divided) (ok_of mixed eqsOk ⟨s_ref01_Order n, s_ref02_trim n, s_ref02_twice n, s_ref01_Minus n, trivial⟩ trivial trivial) Go.Proofs.Tryz.func95 (by kernel_rfl) (by kernel_rfl) (d_ref02_divided n) (by kernel_rfl)

/-- carrefour/carrefourref02.lowest -/
def h_ref02_lowest : Shape := ⟨slotsOf 3 [(0, .c (.hole (.sl 76))), (1, .c (.hole (.sl 76))), (2, .c (.hole (.bool)))], [], []⟩
def o_ref02_lowest : List (Ex × Shape) := [(.ret, ⟨slotsOf 2 [(0, .agg [.hole (.int .i64), .hole (.int .i64)]), (1, .c (.hole (.int .i64)))], [], []⟩)]
def ref02_lowest (n : Nat) (x0 : (List Int) × (List Int) × Bool) : Option (Int × Int × Int) :=
  (iterL (Y := ((List Int) × (List Int) × Bool × (List Int) × Int × Int)) n (fun (x1 : (List Int) × (List Int) × Bool × (List Int) × (List Int) × Int × Int) =>
    (ref01_Order n (x1.2.2.2.2.1, [])).bind fun y2 =>
    bif !(y2 == 0) then
      (ref02_rest n (x1.2.2.2.1, x1.2.2.2.2.1)).bind fun y3 =>
      some (.inl (x1.1, x1.2.1, x1.2.2.1, x1.2.2.2.2.1, y3, x1.2.2.2.2.2))
    else
    some (.inr (x1.1, x1.2.1, x1.2.2.1, x1.2.2.2.1, x1.2.2.2.2.2))) (x0.1, x0.2.1, x0.2.2, x0.1, x0.2.1, 0, 0)).bind fun (z4 : (List Int) × (List Int) × Bool × (List Int) × Int × Int) =>
    (ref02_divided n (z4.1, z4.2.2.2.1)).bind fun y5 =>
    (ref02_divided n (z4.2.1, z4.2.2.2.1)).bind fun y6 =>
    letJ (fun (x7 : Bool × Int × Int × Bool × Int × Int) =>
      bif x7.2.2.2.1 then
        some (0, 0, 2)
      else
      bif x7.1 then
        (ref02_made n (x7.2.1, x7.2.2.1, !(x7.2.1 == 0))).bind fun y9 =>
        some y9
      else
        (ref02_made n (x7.2.1, x7.2.2.1, false)).bind fun y10 =>
        some y10) fun J8 =>
    bif !y5.2 then
      J8 (z4.2.2.1, y5.1, y6.1, true, z4.2.2.2.2)
    else
    J8 (z4.2.2.1, y5.1, y6.1, !y6.2, z4.2.2.2.2)
def p_ref02_lowest : Plan := .two (.leaf) (.two (.leaf) (.two (.leaf) (.two (.one (.loop ⟨slotsOf 54 [(0, .c (.hole (.sl 76))), (1, .c (.hole (.sl 76))), (2, .c (.hole (.bool))), (6, .c (.box 6 0)), (8, .c (.hole (.sl 76))), (9, .c (.hole (.sl 76)))], [(6, 33, [.hole (.int .i64), .hole (.int .i64)])], []⟩ [(.exit 0, ⟨slotsOf 54 [(0, .c (.hole (.sl 76))), (1, .c (.hole (.sl 76))), (2, .c (.hole (.bool))), (6, .c (.box 6 0)), (8, .c (.hole (.sl 76)))], [(6, 33, [.hole (.int .i64), .hole (.int .i64)])], []⟩)] (.leaf))) (.two (.leaf) (.two (.leaf) (.two (.two (.join ⟨slotsOf 54 [(2, .c (.hole (.bool))), (6, .c (.box 6 0)), (11, .c (.hole (.int .u64))), (13, .c (.hole (.int .u64))), (42, .c (.hole (.bool)))], [(6, 33, [.hole (.int .i64), .hole (.int .i64)])], []⟩ (.leaf)) (.leaf)) (.leaf)))))))
noncomputable def c_ref02_lowest (n : Nat) : Cx := ⟨Go.Proofs.Tryz.prog, Θ, [33, 23, 78, 128, 163], [(53, ⟨h_ref02_made, o_ref02_made, ref02_made n⟩), (65, ⟨h_ref01_Order, o_ref01_Order, ref01_Order n⟩), (94, ⟨h_ref02_rest, o_ref02_rest, ref02_rest n⟩), (95, ⟨h_ref02_divided, o_ref02_divided, ref02_divided n⟩)], [], []⟩
theorem d_ref02_lowest (n : Nat) (x : h_ref02_lowest.X T) : denF (c_ref02_lowest n) n Go.Proofs.Tryz.f63 p_ref02_lowest h_ref02_lowest o_ref02_lowest x = ref02_lowest n x := by kernel_rfl
theorem s_ref02_lowest (n : Nat) : PCalls Go.Proofs.Tryz.prog Θ 63 ⟨h_ref02_lowest, o_ref02_lowest, ref02_lowest n⟩ :=
  func_ok' (C := c_ref02_lowest n) (n := n) (p := p_ref02_lowest) (ok_of mixed eqsOk ⟨s_ref02_made n, s_ref01_Order n, s_ref02_rest n, s_ref02_divided n, trivial⟩ trivial trivial) Go.Proofs.Tryz.func63 (by kernel_rfl) (by kernel_rfl) (d_ref02_lowest n) (by kernel_rfl)

/-- carrefour/carrefourref02.Add -/
def h_ref02_Add : Shape := ⟨slotsOf 2 [(0, .agg [.hole (.int .i64), .hole (.int .i64)]), (1, .agg [.hole (.int .i64), .hole (.int .i64)])], [], []⟩
def o_ref02_Add : List (Ex × Shape) := [(.ret, ⟨slotsOf 2 [(0, .agg [.hole (.int .i64), .hole (.int .i64)]), (1, .c (.hole (.int .i64)))], [], []⟩)]
def ref02_Add (n : Nat) (x0 : Int × Int × Int × Int) : Option (Int × Int × Int) :=
  (ref02_Norm n (x0.1, x0.2.1)).bind fun y1 =>
  let e0 := IntKind.wrap .u64 y1.2
  let e1 := decide (y1.1 < 0)
  (ref02_Norm n x0.2.2).bind fun y2 =>
  let e2 := IntKind.wrap .u64 y2.2
  let e3 := decide (y2.1 < 0)
  (ref02_few n (y1.1, y1.2, y2)).bind fun y3 =>
  bif y3 then
    (ref02_Of n (wrap64 ((wrap64 (y1.1 * y2.2)) + (wrap64 (y2.1 * y1.2))), wrap64 (y1.2 * y2.2))).bind fun y4 =>
    some y4
  else
    (ref01_Size n y1.1).bind fun y5 =>
    (ref01_Times n (y5, e2)).bind fun y6 =>
    (ref02_trim n y6).bind fun y7 =>
    (ref01_Size n y2.1).bind fun y8 =>
    (ref01_Times n (y8, e0)).bind fun y9 =>
    (ref02_trim n y9).bind fun y10 =>
    (ref01_Times n (e0, e2)).bind fun y11 =>
    (ref02_trim n y11).bind fun y12 =>
    bif e1 == e3 then
      (ref01_Plus n (y7, y10)).bind fun y13 =>
      (ref02_trim n y13).bind fun y14 =>
      (ref02_lowest n (y14, y12, e1)).bind fun y15 =>
      some y15
    else
      (ref01_Order n (y7, y10)).bind fun y16 =>
      bif decide (0 ≤ y16) then
        (ref01_Minus n (y7, y10)).bind fun y17 =>
        (ref02_trim n y17).bind fun y18 =>
        (ref02_lowest n (y18, y12, e1)).bind fun y19 =>
        some y19
      else
        (ref01_Minus n (y10, y7)).bind fun y20 =>
        (ref02_trim n y20).bind fun y21 =>
        (ref02_lowest n (y21, y12, e3)).bind fun y22 =>
        some y22
def p_ref02_Add : Plan := .leaf
noncomputable def c_ref02_Add (n : Nat) : Cx := ⟨Go.Proofs.Tryz.prog, Θ, [33, 23, 78, 128, 163], [(51, ⟨h_ref01_Size, o_ref01_Size, ref01_Size n⟩), (27, ⟨h_ref02_Of, o_ref02_Of, ref02_Of n⟩), (36, ⟨h_ref02_Norm, o_ref02_Norm, ref02_Norm n⟩), (90, ⟨h_ref01_Plus, o_ref01_Plus, ref01_Plus n⟩), (62, ⟨h_ref01_Times, o_ref01_Times, ref01_Times n⟩), (65, ⟨h_ref01_Order, o_ref01_Order, ref01_Order n⟩), (60, ⟨h_ref02_few, o_ref02_few, ref02_few n⟩), (61, ⟨h_ref02_trim, o_ref02_trim, ref02_trim n⟩), (91, ⟨h_ref01_Minus, o_ref01_Minus, ref01_Minus n⟩), (63, ⟨h_ref02_lowest, o_ref02_lowest, ref02_lowest n⟩)], [], []⟩
theorem d_ref02_Add (n : Nat) (x : h_ref02_Add.X T) : denF (c_ref02_Add n) n Go.Proofs.Tryz.f58 p_ref02_Add h_ref02_Add o_ref02_Add x = ref02_Add n x := by kernel_rfl
theorem s_ref02_Add (n : Nat) : PCalls Go.Proofs.Tryz.prog Θ 58 ⟨h_ref02_Add, o_ref02_Add, ref02_Add n⟩ :=
  func_ok' (C := c_ref02_Add n) (n := n) (p := p_ref02_Add) (ok_of mixed eqsOk ⟨s_ref01_Size n, s_ref02_Of n, s_ref02_Norm n, s_ref01_Plus n, s_ref01_Times n, s_ref01_Order n, s_ref02_few n, s_ref02_trim n, s_ref01_Minus n, s_ref02_lowest n, trivial⟩ trivial trivial) Go.Proofs.Tryz.func58 (by kernel_rfl) (by kernel_rfl) (d_ref02_Add n) (by kernel_rfl)

/-- carrefour/carrefourref02.twiceAdded -/
def h_ref02_twiceAdded : Shape := ⟨slotsOf 2 [(0, .agg [.hole (.int .i64), .hole (.int .i64)]), (1, .agg [.hole (.int .i64), .hole (.int .i64)])], [], []⟩
def o_ref02_twiceAdded : List (Ex × Shape) := [(.ret, ⟨slotsOf 2 [(0, .agg [.hole (.int .i64), .hole (.int .i64)]), (1, .c (.hole (.int .i64)))], [], []⟩)]
def ref02_twiceAdded (n : Nat) (x0 : Int × Int × Int × Int) : Option (Int × Int × Int) :=
  let e0 := IntKind.wrap .u64 x0.2.2.2
  let e1 := IntKind.wrap .u64 x0.2.1
  (ref01_Size n x0.1).bind fun y1 =>
  (ref01_Times n (y1, e0)).bind fun y2 =>
  (ref02_trim n y2).bind fun y3 =>
  (ref01_Times n (IntKind.wrap .u64 x0.2.2.1, e1)).bind fun y4 =>
  (ref02_twice n y4).bind fun y5 =>
  (ref02_trim n y5).bind fun y6 =>
  (ref01_Times n (e1, e0)).bind fun y7 =>
  (ref02_trim n y7).bind fun y8 =>
  bif decide (0 ≤ x0.1) then
    (ref01_Plus n (y3, y6)).bind fun y9 =>
    (ref02_trim n y9).bind fun y10 =>
    (ref02_lowest n (y10, y8, false)).bind fun y11 =>
    some y11
  else
    (ref01_Order n (y3, y6)).bind fun y12 =>
    bif decide (0 ≤ y12) then
      (ref01_Minus n (y3, y6)).bind fun y13 =>
      (ref02_trim n y13).bind fun y14 =>
      (ref02_lowest n (y14, y8, true)).bind fun y15 =>
      some y15
    else
      (ref01_Minus n (y6, y3)).bind fun y16 =>
      (ref02_trim n y16).bind fun y17 =>
      (ref02_lowest n (y17, y8, false)).bind fun y18 =>
      some y18
def p_ref02_twiceAdded : Plan := .leaf
noncomputable def c_ref02_twiceAdded (n : Nat) : Cx := ⟨Go.Proofs.Tryz.prog, Θ, [33, 23, 78, 128, 163], [(51, ⟨h_ref01_Size, o_ref01_Size, ref01_Size n⟩), (90, ⟨h_ref01_Plus, o_ref01_Plus, ref01_Plus n⟩), (62, ⟨h_ref01_Times, o_ref01_Times, ref01_Times n⟩), (65, ⟨h_ref01_Order, o_ref01_Order, ref01_Order n⟩), (61, ⟨h_ref02_trim, o_ref02_trim, ref02_trim n⟩), (92, ⟨h_ref02_twice, o_ref02_twice, ref02_twice n⟩), (91, ⟨h_ref01_Minus, o_ref01_Minus, ref01_Minus n⟩), (63, ⟨h_ref02_lowest, o_ref02_lowest, ref02_lowest n⟩)], [], []⟩
theorem d_ref02_twiceAdded (n : Nat) (x : h_ref02_twiceAdded.X T) : denF (c_ref02_twiceAdded n) n Go.Proofs.Tryz.f59 p_ref02_twiceAdded h_ref02_twiceAdded o_ref02_twiceAdded x = ref02_twiceAdded n x := by kernel_rfl
theorem s_ref02_twiceAdded (n : Nat) : PCalls Go.Proofs.Tryz.prog Θ 59 ⟨h_ref02_twiceAdded, o_ref02_twiceAdded, ref02_twiceAdded n⟩ :=
  func_ok' (C := c_ref02_twiceAdded n) (n := n) (p := p_ref02_twiceAdded) (ok_of mixed eqsOk ⟨s_ref01_Size n, s_ref01_Plus n, s_ref01_Times n, s_ref01_Order n, s_ref02_trim n, s_ref02_twice n, s_ref01_Minus n, s_ref02_lowest n, trivial⟩ trivial trivial) Go.Proofs.Tryz.func59 (by kernel_rfl) (by kernel_rfl) (d_ref02_twiceAdded n) (by kernel_rfl)

/-- carrefour/carrefourref02.Sub -/
def h_ref02_Sub : Shape := ⟨slotsOf 2 [(0, .agg [.hole (.int .i64), .hole (.int .i64)]), (1, .agg [.hole (.int .i64), .hole (.int .i64)])], [], []⟩
def o_ref02_Sub : List (Ex × Shape) := [(.ret, ⟨slotsOf 2 [(0, .agg [.hole (.int .i64), .hole (.int .i64)]), (1, .c (.hole (.int .i64)))], [], []⟩)]
def ref02_Sub (n : Nat) (x0 : Int × Int × Int × Int) : Option (Int × Int × Int) :=
  (ref02_Norm n x0.2.2).bind fun y1 =>
  (ref02_minus n y1).bind fun y2 =>
  bif y2.2.2 then
    (ref02_Add n (x0.1, x0.2.1, y2.1, y2.2.1)).bind fun y3 =>
    some y3
  else
    bif !(2 == 0) then
      bif (Int.tmod y1.2 2) == 0 then
        some (0, 0, 2)
      else
      (ref02_Norm n (x0.1, x0.2.1)).bind fun y4 =>
      (ref02_twiceAdded n (y4.1, y4.2, 4611686018427387904, y1.2)).bind fun y5 =>
      some y5
    else
    none
def p_ref02_Sub : Plan := .leaf
noncomputable def c_ref02_Sub (n : Nat) : Cx := ⟨Go.Proofs.Tryz.prog, Θ, [33, 23, 78, 128, 163], [(36, ⟨h_ref02_Norm, o_ref02_Norm, ref02_Norm n⟩), (57, ⟨h_ref02_minus, o_ref02_minus, ref02_minus n⟩), (58, ⟨h_ref02_Add, o_ref02_Add, ref02_Add n⟩), (59, ⟨h_ref02_twiceAdded, o_ref02_twiceAdded, ref02_twiceAdded n⟩)], [], []⟩
theorem d_ref02_Sub (n : Nat) (x : h_ref02_Sub.X T) : denF (c_ref02_Sub n) n Go.Proofs.Tryz.f32 p_ref02_Sub h_ref02_Sub o_ref02_Sub x = ref02_Sub n x := by kernel_rfl
theorem s_ref02_Sub (n : Nat) : PCalls Go.Proofs.Tryz.prog Θ 32 ⟨h_ref02_Sub, o_ref02_Sub, ref02_Sub n⟩ :=
  func_ok' (C := c_ref02_Sub n) (n := n) (p := p_ref02_Sub) (ok_of mixed eqsOk ⟨s_ref02_Norm n, s_ref02_minus n, s_ref02_Add n, s_ref02_twiceAdded n, trivial⟩ trivial trivial) Go.Proofs.Tryz.func32 (by kernel_rfl) (by kernel_rfl) (d_ref02_Sub n) (by kernel_rfl)

/-- carrefour/carrefourref02.Mul -/
def h_ref02_Mul : Shape := ⟨slotsOf 2 [(0, .agg [.hole (.int .i64), .hole (.int .i64)]), (1, .agg [.hole (.int .i64), .hole (.int .i64)])], [], []⟩
def o_ref02_Mul : List (Ex × Shape) := [(.ret, ⟨slotsOf 2 [(0, .agg [.hole (.int .i64), .hole (.int .i64)]), (1, .c (.hole (.int .i64)))], [], []⟩)]
def ref02_Mul (n : Nat) (x0 : Int × Int × Int × Int) : Option (Int × Int × Int) :=
  (ref02_Norm n (x0.1, x0.2.1)).bind fun y1 =>
  (ref02_Norm n x0.2.2).bind fun y2 =>
  (ref02_few n (y1.1, y1.2, y2)).bind fun y3 =>
  bif y3 then
    (ref02_Of n (wrap64 (y1.1 * y2.1), wrap64 (y1.2 * y2.2))).bind fun y4 =>
    some y4
  else
    (ref01_Size n y1.1).bind fun y5 =>
    (ref01_Size n y2.1).bind fun y6 =>
    (ref01_Times n (y5, y6)).bind fun y7 =>
    (ref02_trim n y7).bind fun y8 =>
    (ref01_Times n (IntKind.wrap .u64 y1.2, IntKind.wrap .u64 y2.2)).bind fun y9 =>
    (ref02_trim n y9).bind fun y10 =>
    (ref02_lowest n (y8, y10, !((decide (y1.1 < 0)) == (decide (y2.1 < 0))))).bind fun y11 =>
    some y11
def p_ref02_Mul : Plan := .leaf
noncomputable def c_ref02_Mul (n : Nat) : Cx := ⟨Go.Proofs.Tryz.prog, Θ, [33, 23, 78, 128, 163], [(51, ⟨h_ref01_Size, o_ref01_Size, ref01_Size n⟩), (27, ⟨h_ref02_Of, o_ref02_Of, ref02_Of n⟩), (36, ⟨h_ref02_Norm, o_ref02_Norm, ref02_Norm n⟩), (62, ⟨h_ref01_Times, o_ref01_Times, ref01_Times n⟩), (60, ⟨h_ref02_few, o_ref02_few, ref02_few n⟩), (61, ⟨h_ref02_trim, o_ref02_trim, ref02_trim n⟩), (63, ⟨h_ref02_lowest, o_ref02_lowest, ref02_lowest n⟩)], [], []⟩
theorem d_ref02_Mul (n : Nat) (x : h_ref02_Mul.X T) : denF (c_ref02_Mul n) n Go.Proofs.Tryz.f33 p_ref02_Mul h_ref02_Mul o_ref02_Mul x = ref02_Mul n x := by kernel_rfl
theorem s_ref02_Mul (n : Nat) : PCalls Go.Proofs.Tryz.prog Θ 33 ⟨h_ref02_Mul, o_ref02_Mul, ref02_Mul n⟩ :=
  func_ok' (C := c_ref02_Mul n) (n := n) (p := p_ref02_Mul) (ok_of mixed eqsOk ⟨s_ref01_Size n, s_ref02_Of n, s_ref02_Norm n, s_ref01_Times n, s_ref02_few n, s_ref02_trim n, s_ref02_lowest n, trivial⟩ trivial trivial) Go.Proofs.Tryz.func33 (by kernel_rfl) (by kernel_rfl) (d_ref02_Mul n) (by kernel_rfl)

/-- carrefour/carrefourref02.Div -/
def h_ref02_Div : Shape := ⟨slotsOf 2 [(0, .agg [.hole (.int .i64), .hole (.int .i64)]), (1, .agg [.hole (.int .i64), .hole (.int .i64)])], [], []⟩
def o_ref02_Div : List (Ex × Shape) := [(.ret, ⟨slotsOf 2 [(0, .agg [.hole (.int .i64), .hole (.int .i64)]), (1, .c (.hole (.int .i64)))], [], []⟩)]
def ref02_Div (n : Nat) (x0 : Int × Int × Int × Int) : Option (Int × Int × Int) :=
  (ref02_Norm n (x0.1, x0.2.1)).bind fun y1 =>
  (ref02_Norm n x0.2.2).bind fun y2 =>
  bif y2.1 == 0 then
    some (0, 0, 3)
  else
  (ref02_few n (y1.1, y1.2, y2)).bind fun y3 =>
  bif y3 then
    (ref02_Of n (wrap64 (y1.1 * y2.2), wrap64 (y1.2 * y2.1))).bind fun y4 =>
    some y4
  else
    (ref01_Size n y1.1).bind fun y5 =>
    (ref01_Times n (y5, IntKind.wrap .u64 y2.2)).bind fun y6 =>
    (ref02_trim n y6).bind fun y7 =>
    (ref01_Size n y2.1).bind fun y8 =>
    (ref01_Times n (IntKind.wrap .u64 y1.2, y8)).bind fun y9 =>
    (ref02_trim n y9).bind fun y10 =>
    (ref02_lowest n (y7, y10, !((decide (y1.1 < 0)) == (decide (y2.1 < 0))))).bind fun y11 =>
    some y11
def p_ref02_Div : Plan := .leaf
noncomputable def c_ref02_Div (n : Nat) : Cx := ⟨Go.Proofs.Tryz.prog, Θ, [33, 23, 78, 128, 163], [(51, ⟨h_ref01_Size, o_ref01_Size, ref01_Size n⟩), (27, ⟨h_ref02_Of, o_ref02_Of, ref02_Of n⟩), (36, ⟨h_ref02_Norm, o_ref02_Norm, ref02_Norm n⟩), (62, ⟨h_ref01_Times, o_ref01_Times, ref01_Times n⟩), (60, ⟨h_ref02_few, o_ref02_few, ref02_few n⟩), (61, ⟨h_ref02_trim, o_ref02_trim, ref02_trim n⟩), (63, ⟨h_ref02_lowest, o_ref02_lowest, ref02_lowest n⟩)], [], []⟩
theorem d_ref02_Div (n : Nat) (x : h_ref02_Div.X T) : denF (c_ref02_Div n) n Go.Proofs.Tryz.f34 p_ref02_Div h_ref02_Div o_ref02_Div x = ref02_Div n x := by kernel_rfl
theorem s_ref02_Div (n : Nat) : PCalls Go.Proofs.Tryz.prog Θ 34 ⟨h_ref02_Div, o_ref02_Div, ref02_Div n⟩ :=
  func_ok' (C := c_ref02_Div n) (n := n) (p := p_ref02_Div) (ok_of mixed eqsOk ⟨s_ref01_Size n, s_ref02_Of n, s_ref02_Norm n, s_ref01_Times n, s_ref02_few n, s_ref02_trim n, s_ref02_lowest n, trivial⟩ trivial trivial) Go.Proofs.Tryz.func34 (by kernel_rfl) (by kernel_rfl) (d_ref02_Div n) (by kernel_rfl)

/-- carrefour/carrefourref26.Formula -/
def h_ref26_Formula : Shape := ⟨slotsOf 3 [(0, .c (.hole (.int .i64))), (1, .c (.hole (.int .i64))), (2, .agg [.hole (.int .i64), .hole (.int .i64)])], [], []⟩
def o_ref26_Formula : List (Ex × Shape) := [(.ret, ⟨slotsOf 2 [(0, .agg [.hole (.int .i64), .hole (.int .i64)]), (1, .c (.hole (.int .i64)))], [], []⟩)]
def ref26_Formula (n : Nat) (x0 : Int × Int × Int × Int) : Option (Int × Int × Int) :=
  letJ (fun (x2 : Int × Int × Bool × Int × Int × Int × Int) =>
    bif x2.2.2.1 then
      some (0, 0, 1)
    else
    (ref02_Cmp n (x2.2.2.2.1, x2.2.2.2.2.1, 1, 1)).bind fun y4 =>
    bif decide (0 ≤ y4) then
      some (0, 0, 150)
    else
    (ref02_Of n (x2.2.1, x2.1)).bind fun y5 =>
    (ref02_Sub n (1, 1, y5.1, y5.2.1)).bind fun y6 =>
    (ref02_Mul n (y6.1, y6.2.1, y6.1, y6.2.1)).bind fun y7 =>
    (ref02_Mul n (y7.1, y7.2.1, x2.1, 1)).bind fun y8 =>
    (ref02_Sub n (1, 1, x2.2.2.2.1, x2.2.2.2.2.1)).bind fun y9 =>
    bif !(y9.2.2 == 0) then
      some (0, 0, y9.2.2)
    else
    (ref02_Mul n (2, 1, y9.1, y9.2.1)).bind fun y10 =>
    bif !(y10.2.2 == 0) then
      some (0, 0, y10.2.2)
    else
    (ref02_Div n (y8.1, y8.2.1, y10.1, y10.2.1)).bind fun y11 =>
    some y11) fun J3 =>
  bif decide (x0.1 < 1) then
    J3 (x0.1, x0.2.1, true, x0.2.2.1, x0.2.2.2, 0, 0)
  else
  bif decide (6000 < x0.1) then
    J3 (x0.1, x0.2.1, true, x0.2.2.1, x0.2.2.2, 0, 0)
  else
  bif decide (x0.2.1 < 0) then
    J3 (x0.1, x0.2.1, true, x0.2.2.1, x0.2.2.2, 0, 0)
  else
  bif decide (x0.1 < x0.2.1) then
    J3 (x0.1, x0.2.1, true, x0.2.2.1, x0.2.2.2, 0, 0)
  else
  (ref02_Right n x0.2.2).bind fun y1 =>
  bif !y1 then
    J3 (x0.1, x0.2.1, true, x0.2.2.1, x0.2.2.2, 0, 0)
  else
  J3 (x0.1, x0.2.1, decide (x0.2.2.1 < 0), x0.2.2.1, x0.2.2.2, 0, 0)
def p_ref26_Formula : Plan := .two (.leaf) (.two (.two (.join ⟨slotsOf 102 [(0, .c (.hole (.int .i64))), (1, .c (.hole (.int .i64))), (5, .c (.box 5 0)), (6, .c (.box 6 0)), (44, .c (.hole (.bool)))], [(5, 33, [.hole (.int .i64), .hole (.int .i64)]), (6, 33, [.hole (.int .i64), .hole (.int .i64)])], []⟩ (.leaf)) (.leaf)) (.leaf))
noncomputable def c_ref26_Formula (n : Nat) : Cx := ⟨Go.Proofs.Tryz.prog, Θ, [33, 23, 78, 128, 163], [(27, ⟨h_ref02_Of, o_ref02_Of, ref02_Of n⟩), (31, ⟨h_ref02_Right, o_ref02_Right, ref02_Right n⟩), (17, ⟨h_ref02_Cmp, o_ref02_Cmp, ref02_Cmp n⟩), (32, ⟨h_ref02_Sub, o_ref02_Sub, ref02_Sub n⟩), (33, ⟨h_ref02_Mul, o_ref02_Mul, ref02_Mul n⟩), (34, ⟨h_ref02_Div, o_ref02_Div, ref02_Div n⟩)], [], []⟩
theorem d_ref26_Formula (n : Nat) (x : h_ref26_Formula.X T) : denF (c_ref26_Formula n) n Go.Proofs.Tryz.f14 p_ref26_Formula h_ref26_Formula o_ref26_Formula x = ref26_Formula n x := by kernel_rfl
theorem s_ref26_Formula (n : Nat) : PCalls Go.Proofs.Tryz.prog Θ 14 ⟨h_ref26_Formula, o_ref26_Formula, ref26_Formula n⟩ :=
  func_ok' (C := c_ref26_Formula n) (n := n) (p := p_ref26_Formula) (ok_of mixed eqsOk ⟨s_ref02_Of n, s_ref02_Right n, s_ref02_Cmp n, s_ref02_Sub n, s_ref02_Mul n, s_ref02_Div n, trivial⟩ trivial trivial) Go.Proofs.Tryz.func14 (by kernel_rfl) (by kernel_rfl) (d_ref26_Formula n) (by kernel_rfl)

/-- carrefour/carrefourlaw26.DelayFormula -/
def h_law26_DelayFormula : Shape := ⟨slotsOf 3 [(0, .c (.hole (.int .i64))), (1, .c (.hole (.int .i64))), (2, .agg [.hole (.int .i64), .hole (.int .i64)])], [], []⟩
def o_law26_DelayFormula : List (Ex × Shape) := [(.ret, ⟨slotsOf 1 [(0, .c (.hole (.bool)))], [], []⟩)]
noncomputable def law26_DelayFormula (n : Nat) (x0 : Int × Int × Int × Int) : Option (Bool) :=
  (delay_Formula n x0).bind fun y1 =>
  (ref26_Formula n x0).bind fun y2 =>
  bif (y1.1 == y2.1) && ((y1.2.1 == y2.2.1) && true) then
    bif y1.2.2 == y2.2.2 then
      (law26_awake n ()).bind fun y3 =>
      some y3
    else
    some false
  else
  some false
def p_law26_DelayFormula : Plan := .leaf
noncomputable def c_law26_DelayFormula (n : Nat) : Cx := ⟨Go.Proofs.Tryz.prog, Θ, [33, 23, 78, 128, 163], [(13, ⟨h_delay_Formula, o_delay_Formula, delay_Formula n⟩), (10, ⟨h_law26_awake, o_law26_awake, law26_awake n⟩), (14, ⟨h_ref26_Formula, o_ref26_Formula, ref26_Formula n⟩)], [], []⟩
theorem d_law26_DelayFormula (n : Nat) (x : h_law26_DelayFormula.X T) : denF (c_law26_DelayFormula n) n Go.Proofs.Tryz.f5 p_law26_DelayFormula h_law26_DelayFormula o_law26_DelayFormula x = law26_DelayFormula n x := by kernel_rfl
theorem s_law26_DelayFormula (n : Nat) : PCalls Go.Proofs.Tryz.prog Θ 5 ⟨h_law26_DelayFormula, o_law26_DelayFormula, law26_DelayFormula n⟩ :=
  func_ok' (C := c_law26_DelayFormula n) (n := n) (p := p_law26_DelayFormula) (ok_of mixed eqsOk ⟨s_delay_Formula n, s_law26_awake n, s_ref26_Formula n, trivial⟩ trivial trivial) Go.Proofs.Tryz.func5 (by kernel_rfl) (by kernel_rfl) (d_law26_DelayFormula n) (by kernel_rfl)

/-- carrefour/carrefourlaw26.DelayNone -/
def h_law26_DelayNone : Shape := ⟨slotsOf 3 [(0, .c (.hole (.int .i64))), (1, .c (.hole (.int .i64))), (2, .agg [.hole (.int .i64), .hole (.int .i64)])], [], []⟩
def o_law26_DelayNone : List (Ex × Shape) := [(.ret, ⟨slotsOf 1 [(0, .c (.hole (.bool)))], [], []⟩)]
noncomputable def law26_DelayNone (n : Nat) (x0 : Int × Int × Int × Int) : Option (Bool) :=
  (delay_Formula n x0).bind fun y1 =>
  bif !(y1.2.2 == 0) then
    (law26_awake n ()).bind fun y2 =>
    some y2
  else
    letJ (fun (x3 : Int × Int × Bool × Int × Int × Int × Int) =>
      bif x3.2.2.1 then
        some false
      else
      letJ (fun (x9 : Int × Int) =>
        (delay_Mean n (100, wrap64 (100 + (mx 0 (mn x9.2 1000))), 0, x9.1, x9.1)).bind fun y11 =>
        bif y11.2.2 == 0 then
          bif y11.1 == 0 then
            (law26_awake n ()).bind fun y12 =>
            some y12
          else
          some false
        else
        some false) fun J10 =>
      bif decide (0 < x3.2.1) then
        (delay_Formula n (x3.1, wrap64 (x3.2.1 - 1), x3.2.2.2.1, x3.2.2.2.2.1)).bind fun y5 =>
        letJ (fun (x7 : Int × Int × Bool) =>
          bif x7.2.2 then
            some false
          else
          J10 (x7.1, x7.2.1)) fun J8 =>
        bif y5.2.2 == 0 then
          (ref02_Cmp n (y5.1, y5.2.1, x3.2.2.2.2.2)).bind fun y6 =>
          J8 (x3.1, x3.2.1, decide (y6 < 0))
        else
        J8 (x3.1, x3.2.1, false)
      else
      J10 (x3.1, x3.2.1)) fun J4 =>
    bif x0.2.1 == x0.1 then
      J4 (x0.1, x0.2.1, !(y1.1 == 0), x0.2.2.1, x0.2.2.2, y1.1, y1.2.1)
    else
    J4 (x0.1, x0.2.1, false, x0.2.2.1, x0.2.2.2, y1.1, y1.2.1)
def p_law26_DelayNone : Plan := .two (.leaf) (.two (.leaf) (.two (.leaf) (.two (.two (.join ⟨slotsOf 71 [(0, .c (.hole (.int .i64))), (1, .c (.hole (.int .i64))), (5, .c (.box 5 0)), (7, .c (.box 7 0)), (30, .c (.hole (.bool)))], [(5, 33, [.hole (.int .i64), .hole (.int .i64)]), (7, 33, [.hole (.int .i64), .hole (.int .i64)])], []⟩ (.leaf)) (.leaf)) (.two (.join ⟨slotsOf 71 [(0, .c (.hole (.int .i64))), (1, .c (.hole (.int .i64)))], [], []⟩ (.two (.leaf) (.two (.two (.leaf) (.two (.join ⟨slotsOf 71 [(0, .c (.hole (.int .i64))), (1, .c (.hole (.int .i64))), (48, .c (.hole (.bool)))], [], []⟩ (.leaf)) (.leaf))) (.leaf)))) (.leaf)))))
noncomputable def c_law26_DelayNone (n : Nat) : Cx := ⟨Go.Proofs.Tryz.prog, Θ, [33, 23, 78, 128, 163], [(13, ⟨h_delay_Formula, o_delay_Formula, delay_Formula n⟩), (11, ⟨h_delay_Mean, o_delay_Mean, delay_Mean n⟩), (10, ⟨h_law26_awake, o_law26_awake, law26_awake n⟩), (17, ⟨h_ref02_Cmp, o_ref02_Cmp, ref02_Cmp n⟩)], [], []⟩
theorem d_law26_DelayNone (n : Nat) (x : h_law26_DelayNone.X T) : denF (c_law26_DelayNone n) n Go.Proofs.Tryz.f7 p_law26_DelayNone h_law26_DelayNone o_law26_DelayNone x = law26_DelayNone n x := by kernel_rfl
theorem s_law26_DelayNone (n : Nat) : PCalls Go.Proofs.Tryz.prog Θ 7 ⟨h_law26_DelayNone, o_law26_DelayNone, law26_DelayNone n⟩ :=
  func_ok' (C := c_law26_DelayNone n) (n := n) (p := p_law26_DelayNone) (ok_of mixed eqsOk ⟨s_delay_Formula n, s_delay_Mean n, s_law26_awake n, s_ref02_Cmp n, trivial⟩ trivial trivial) Go.Proofs.Tryz.func7 (by kernel_rfl) (by kernel_rfl) (d_law26_DelayNone n) (by kernel_rfl)

end Go.Proofs.YtiildimlelphhaaGreatDoor.Fn
