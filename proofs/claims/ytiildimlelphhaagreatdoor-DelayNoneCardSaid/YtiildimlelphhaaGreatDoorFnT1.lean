/- Functions of the program, each as a plain function, and that the machine does what it says. -/
import Derived.Test.YtiildimlelphhaaGreatDoorFnT0
namespace Go.Proofs.YtiildimlelphhaaGreatDoor.Fn
set_option linter.unusedVariables false
set_option maxRecDepth 100000
open Go Go.RowKit Go.Den
/-- carrefour/carrefourref03.In -/
def h_ref03_In : Shape := ⟨slotsOf 3 [(0, .c (.hole (.int .i64))), (1, .agg [.hole (.int .i64), .hole (.int .i64)]), (2, .c (.hole (.int .i64)))], [], []⟩
def o_ref03_In : List (Ex × Shape) := [(.ret, ⟨slotsOf 1 [(0, .c (.hole (.bool)))], [], []⟩)]
def ref03_In (n : Nat) (x0 : Int × Int × Int × Int) : Option (Bool) :=
  letJ (fun (x2 : Int × Int × Bool × Int × Int) =>
    bif x2.2.2.1 then
      some false
    else
    bif decide (x2.1 ≤ x2.2.2.2.2) then
      some true
    else
    (ref03_Mod n (x2.2.1, x2.1)).bind fun y4 =>
    (ref03_Mod n (x2.2.2.2.1, x2.1)).bind fun y5 =>
    (ref03_Mod n (wrap64 (y4 - y5), x2.1)).bind fun y6 =>
    some (decide (y6 < x2.2.2.2.2))) fun J3 =>
  (ref03_Cycle n x0.1).bind fun y1 =>
  bif !y1 then
    J3 (x0.1, x0.2.2.2, true, x0.2.1, x0.2.2.1)
  else
  J3 (x0.1, x0.2.2.2, decide (x0.2.2.1 < 1), x0.2.1, x0.2.2.1)
def p_ref03_In : Plan := .two (.leaf) (.two (.two (.join ⟨slotsOf 34 [(0, .c (.hole (.int .i64))), (2, .c (.hole (.int .i64))), (4, .c (.box 4 0)), (14, .c (.hole (.bool)))], [(4, 23, [.hole (.int .i64), .hole (.int .i64)])], []⟩ (.leaf)) (.leaf)) (.leaf))
noncomputable def c_ref03_In (n : Nat) : Cx := ⟨Go.Proofs.Tryz.prog, Θ, [33, 23, 78, 128, 163], [(44, ⟨h_ref03_Cycle, o_ref03_Cycle, ref03_Cycle n⟩), (77, ⟨h_ref03_Mod, o_ref03_Mod, ref03_Mod n⟩)], [], []⟩
theorem d_ref03_In (n : Nat) (x : h_ref03_In.X T) : denF (c_ref03_In n) n Go.Proofs.Tryz.f45 p_ref03_In h_ref03_In o_ref03_In x = ref03_In n x := by kernel_rfl
theorem s_ref03_In (n : Nat) : PCalls Go.Proofs.Tryz.prog Θ 45 ⟨h_ref03_In, o_ref03_In, ref03_In n⟩ :=
  func_ok' (C := c_ref03_In n) (n := n) (p := p_ref03_In) (ok_of mixed eqsOk ⟨s_ref03_Cycle n, s_ref03_Mod n, trivial⟩ trivial trivial) Go.Proofs.Tryz.func45 (by kernel_rfl) (by kernel_rfl) (d_ref03_In n) (by kernel_rfl)

/-- carrefour/carrefourref25.Tick -/
def h_ref25_Tick : Shape := ⟨slotsOf 3 [(0, .agg [.hole (.int .i64), .hole (.int .i64), .hole (.int .i64), .hole (.int .i64), .hole (.int .i64)]), (1, .c (.hole (.int .i64))), (2, .c (.hole (.int .i64)))], [], []⟩
def o_ref25_Tick : List (Ex × Shape) := [(.ret, ⟨slotsOf 1 [(0, .c (.hole (.int .i64)))], [], []⟩)]
def ref25_Tick (n : Nat) (x0 : Int × Int × Int × Int × Int × Int × Int) : Option (Int) :=
  let e0 := wrap64 (x0.2.2.2.2.2.1 + x0.1)
  (ref03_In n (x0.2.2.2.2.1, x0.2.2.1, x0.2.2.2.1, x0.2.2.2.2.2.2)).bind fun y1 =>
  bif y1 then
    some (mx 0 (wrap64 (e0 - x0.2.1)))
  else
  some e0
def p_ref25_Tick : Plan := .leaf
noncomputable def c_ref25_Tick (n : Nat) : Cx := ⟨Go.Proofs.Tryz.prog, Θ, [33, 23, 78, 128, 163], [(45, ⟨h_ref03_In, o_ref03_In, ref03_In n⟩)], [], []⟩
theorem d_ref25_Tick (n : Nat) (x : h_ref25_Tick.X T) : denF (c_ref25_Tick n) n Go.Proofs.Tryz.f23 p_ref25_Tick h_ref25_Tick o_ref25_Tick x = ref25_Tick n x := by kernel_rfl
theorem s_ref25_Tick (n : Nat) : PCalls Go.Proofs.Tryz.prog Θ 23 ⟨h_ref25_Tick, o_ref25_Tick, ref25_Tick n⟩ :=
  func_ok' (C := c_ref25_Tick n) (n := n) (p := p_ref25_Tick) (ok_of mixed eqsOk ⟨s_ref03_In n, trivial⟩ trivial trivial) Go.Proofs.Tryz.func23 (by kernel_rfl) (by kernel_rfl) (d_ref25_Tick n) (by kernel_rfl)

/-- carrefour/carrefourref01.Add -/
def h_ref01_Add : Shape := ⟨slotsOf 2 [(0, .c (.hole (.int .i64))), (1, .c (.hole (.int .i64)))], [], []⟩
def o_ref01_Add : List (Ex × Shape) := [(.ret, ⟨slotsOf 2 [(0, .c (.hole (.int .i64))), (1, .c (.hole (.int .i64)))], [], []⟩)]
def ref01_Add (n : Nat) (x0 : Int × Int) : Option (Int × Int) :=
  let e0 := decide (x0.2 < 0)
  letJ (fun (x1 : Int × Int × Bool) =>
    bif x1.2.2 then
      some (0, 2)
    else
    some (wrap64 (x1.1 + x1.2.1), 0)) fun J2 =>
  bif decide (0 < x0.2) then
    bif decide (wrap64 (9223372036854775807 - x0.2) < x0.1) then
      J2 (x0.1, x0.2, true)
    else
    bif e0 then
      J2 (x0.1, x0.2, decide (x0.1 < wrap64 ((-9223372036854775808) - x0.2)))
    else
    J2 (x0.1, x0.2, false)
  else
    bif e0 then
      J2 (x0.1, x0.2, decide (x0.1 < wrap64 ((-9223372036854775808) - x0.2)))
    else
    J2 (x0.1, x0.2, false)
def p_ref01_Add : Plan := .two (.leaf) (.two (.two (.join ⟨slotsOf 27 [(0, .c (.hole (.int .i64))), (1, .c (.hole (.int .i64))), (23, .c (.hole (.bool)))], [], []⟩ (.leaf)) (.leaf)) (.leaf))
noncomputable def c_ref01_Add (n : Nat) : Cx := ⟨Go.Proofs.Tryz.prog, Θ, [33, 23, 78, 128, 163], [], [], []⟩
theorem d_ref01_Add (n : Nat) (x : h_ref01_Add.X T) : denF (c_ref01_Add n) n Go.Proofs.Tryz.f16 p_ref01_Add h_ref01_Add o_ref01_Add x = ref01_Add n x := by kernel_rfl
theorem s_ref01_Add (n : Nat) : PCalls Go.Proofs.Tryz.prog Θ 16 ⟨h_ref01_Add, o_ref01_Add, ref01_Add n⟩ :=
  func_ok' (C := c_ref01_Add n) (n := n) (p := p_ref01_Add) (ok_of mixed eqsOk trivial trivial trivial) Go.Proofs.Tryz.func16 (by kernel_rfl) (by kernel_rfl) (d_ref01_Add n) (by kernel_rfl)

/-- carrefour/carrefourref26.Total -/
def h_ref26_Total : Shape := ⟨slotsOf 4 [(0, .agg [.hole (.int .i64), .hole (.int .i64), .hole (.int .i64), .hole (.int .i64), .hole (.int .i64)]), (1, .c (.hole (.int .i64))), (2, .c (.hole (.int .i64))), (3, .c (.hole (.int .i64)))], [], []⟩
def o_ref26_Total : List (Ex × Shape) := [(.ret, ⟨slotsOf 2 [(0, .c (.hole (.int .i64))), (1, .c (.hole (.int .i64)))], [], []⟩)]
def ref26_Total (n : Nat) (x0 : Int × Int × Int × Int × Int × Int × Int × Int) : Option (Int × Int) :=
  letJ (fun (x2 : Int × Int × Int × Bool × Int × Int × Int × Int × Int) =>
    bif x2.2.2.2.1 then
      some (0, 1)
    else
    (iterL (Y := (Int × Int) ⊕ (Int)) n (fun (x4 : Int × Int × Int × Int × Int × Int × Int × Int × Int × Int) =>
      bif decide (x4.2.2.2.2.1 < x4.2.2.1) then
        (ref25_Tick n (x4.2.2.2.2.2.1, x4.2.2.2.2.2.2.1, x4.2.2.2.2.2.2.2.1, x4.2.2.2.2.2.2.2.2.1, x4.2.2.2.2.2.2.2.2.2, x4.1, wrap64 (x4.2.1 + x4.2.2.2.2.1))).bind fun y5 =>
        (ref01_Add n (x4.2.2.2.1, y5)).bind fun y6 =>
        bif !(y6.2 == 0) then
          some (.inr (.inl (0, y6.2)))
        else
        some (.inl (y5, x4.2.1, x4.2.2.1, y6.1, wrap64 (x4.2.2.2.2.1 + 1), x4.2.2.2.2.2))
      else
      some (.inr (.inr x4.2.2.2.1))) (x2.1, x2.2.1, x2.2.2.1, 0, 0, x2.2.2.2.2)).bind (Sum.elim (fun (z7 : Int × Int) =>
      some z7) (fun (z8 : Int) =>
      some (z8, 0)))) fun J3 =>
  (ref25_Right n (x0.1, x0.2.1, x0.2.2.1, x0.2.2.2.1, x0.2.2.2.2.1)).bind fun y1 =>
  bif !y1 then
    J3 (x0.2.2.2.2.2.1, x0.2.2.2.2.2.2.1, x0.2.2.2.2.2.2.2, true, x0.1, x0.2.1, x0.2.2.1, x0.2.2.2.1, x0.2.2.2.2.1)
  else
  bif decide (x0.2.2.2.2.2.1 < 0) then
    J3 (x0.2.2.2.2.2.1, x0.2.2.2.2.2.2.1, x0.2.2.2.2.2.2.2, true, x0.1, x0.2.1, x0.2.2.1, x0.2.2.2.1, x0.2.2.2.2.1)
  else
  bif decide (1099511627776 < x0.2.2.2.2.2.1) then
    J3 (x0.2.2.2.2.2.1, x0.2.2.2.2.2.2.1, x0.2.2.2.2.2.2.2, true, x0.1, x0.2.1, x0.2.2.1, x0.2.2.2.1, x0.2.2.2.2.1)
  else
  bif decide (x0.2.2.2.2.2.2.1 < 0) then
    J3 (x0.2.2.2.2.2.1, x0.2.2.2.2.2.2.1, x0.2.2.2.2.2.2.2, true, x0.1, x0.2.1, x0.2.2.1, x0.2.2.2.1, x0.2.2.2.2.1)
  else
  bif decide (1099511627776 < x0.2.2.2.2.2.2.1) then
    J3 (x0.2.2.2.2.2.1, x0.2.2.2.2.2.2.1, x0.2.2.2.2.2.2.2, true, x0.1, x0.2.1, x0.2.2.1, x0.2.2.2.1, x0.2.2.2.2.1)
  else
  bif decide (x0.2.2.2.2.2.2.2 < 0) then
    J3 (x0.2.2.2.2.2.1, x0.2.2.2.2.2.2.1, x0.2.2.2.2.2.2.2, true, x0.1, x0.2.1, x0.2.2.1, x0.2.2.2.1, x0.2.2.2.2.1)
  else
  J3 (x0.2.2.2.2.2.1, x0.2.2.2.2.2.2.1, x0.2.2.2.2.2.2.2, decide (1048576 < x0.2.2.2.2.2.2.2), x0.1, x0.2.1, x0.2.2.1, x0.2.2.2.1, x0.2.2.2.2.1)
def p_ref26_Total : Plan := .two (.leaf) (.two (.two (.join ⟨slotsOf 63 [(1, .c (.hole (.int .i64))), (2, .c (.hole (.int .i64))), (3, .c (.hole (.int .i64))), (4, .c (.box 4 0)), (40, .c (.hole (.bool)))], [(4, 25, [.hole (.int .i64), .hole (.int .i64), .hole (.int .i64), .hole (.int .i64), .hole (.int .i64)])], []⟩ (.leaf)) (.leaf)) (.two (.leaf) (.two (.two (.leaf) (.one (.loop ⟨slotsOf 63 [(1, .c (.hole (.int .i64))), (2, .c (.hole (.int .i64))), (3, .c (.hole (.int .i64))), (4, .c (.box 4 0)), (10, .c (.hole (.int .i64))), (11, .c (.hole (.int .i64)))], [(4, 25, [.hole (.int .i64), .hole (.int .i64), .hole (.int .i64), .hole (.int .i64), .hole (.int .i64)])], []⟩ [(.ret, ⟨slotsOf 63 [(8, .c (.hole (.int .i64))), (9, .c (.hole (.int .i64)))], [], []⟩), (.exit 0, ⟨slotsOf 63 [(10, .c (.hole (.int .i64)))], [], []⟩)] (.leaf)))) (.leaf))))
noncomputable def c_ref26_Total (n : Nat) : Cx := ⟨Go.Proofs.Tryz.prog, Θ, [33, 23, 78, 128, 163], [(22, ⟨h_ref25_Right, o_ref25_Right, ref25_Right n⟩), (23, ⟨h_ref25_Tick, o_ref25_Tick, ref25_Tick n⟩), (16, ⟨h_ref01_Add, o_ref01_Add, ref01_Add n⟩)], [], []⟩
theorem d_ref26_Total (n : Nat) (x : h_ref26_Total.X T) : denF (c_ref26_Total n) n Go.Proofs.Tryz.f9 p_ref26_Total h_ref26_Total o_ref26_Total x = ref26_Total n x := by kernel_rfl
theorem s_ref26_Total (n : Nat) : PCalls Go.Proofs.Tryz.prog Θ 9 ⟨h_ref26_Total, o_ref26_Total, ref26_Total n⟩ :=
  func_ok' (C := c_ref26_Total n) (n := n) (p := p_ref26_Total) (ok_of mixed eqsOk ⟨s_ref25_Right n, s_ref25_Tick n, s_ref01_Add n, trivial⟩ trivial trivial) Go.Proofs.Tryz.func9 (by kernel_rfl) (by kernel_rfl) (d_ref26_Total n) (by kernel_rfl)

/-- carrefour/whole.gcd -/
def h_whole_gcd : Shape := ⟨slotsOf 2 [(0, .c (.hole (.int .u64))), (1, .c (.hole (.int .u64)))], [], []⟩
def o_whole_gcd : List (Ex × Shape) := [(.ret, ⟨slotsOf 1 [(0, .c (.hole (.int .u64)))], [], []⟩)]
def whole_gcd (n : Nat) (x0 : Int × Int) : Option (Int) :=
  letJ (fun (x1 : Int × Int × Bool) =>
    let e0 := bits2 .or .u64 x1.1 x1.2.1
    bif x1.2.2 then
      some e0
    else
    (math_bits_TrailingZeros64 n e0).bind fun y3 =>
    (math_bits_TrailingZeros64 n x1.1).bind fun y4 =>
    bif decide (0 ≤ y4) then
      (iterL (Y := (Int × Int)) n (fun (x5 : Int × Int × Int) =>
        bif !(x5.2.1 == 0) then
          (math_bits_TrailingZeros64 n x5.2.1).bind fun y6 =>
          let e1 := shr .u64 x5.2.1 y6
          bif decide (0 ≤ y6) then
            bif decide (e1 < x5.1) then
              some (.inl (e1, IntKind.wrap .u64 (x5.1 - e1), x5.2.2))
            else
            some (.inl (x5.1, IntKind.wrap .u64 (e1 - x5.1), x5.2.2))
          else
          none
        else
        some (.inr (x5.1, x5.2.2))) (shr .u64 x1.1 y4, x1.2.1, y3)).bind fun (z7 : Int × Int) =>
        bif decide (0 ≤ z7.2) then
          some (shl .u64 z7.1 z7.2)
        else
        none
    else
    none) fun J2 =>
  bif x0.1 == 0 then
    J2 (x0.1, x0.2, true)
  else
  J2 (x0.1, x0.2, x0.2 == 0)
def p_whole_gcd : Plan := .two (.leaf) (.two (.two (.join ⟨slotsOf 40 [(0, .c (.hole (.int .u64))), (1, .c (.hole (.int .u64))), (11, .c (.hole (.bool)))], [], []⟩ (.leaf)) (.leaf)) (.two (.leaf) (.two (.leaf) (.two (.one (.loop ⟨slotsOf 40 [(0, .c (.hole (.int .u64))), (1, .c (.hole (.int .u64))), (5, .c (.hole (.int .i64)))], [], []⟩ [(.exit 0, ⟨slotsOf 40 [(0, .c (.hole (.int .u64))), (5, .c (.hole (.int .i64)))], [], []⟩)] (.leaf))) (.leaf)))))
noncomputable def c_whole_gcd (n : Nat) : Cx := ⟨Go.Proofs.Tryz.prog, Θ, [33, 23, 78, 128, 163], [(117, ⟨h_math_bits_TrailingZeros64, o_math_bits_TrailingZeros64, math_bits_TrailingZeros64 n⟩)], [], []⟩
theorem d_whole_gcd (n : Nat) (x : h_whole_gcd.X T) : denF (c_whole_gcd n) n Go.Proofs.Tryz.f86 p_whole_gcd h_whole_gcd o_whole_gcd x = whole_gcd n x := by kernel_rfl
theorem s_whole_gcd (n : Nat) : PCalls Go.Proofs.Tryz.prog Θ 86 ⟨h_whole_gcd, o_whole_gcd, whole_gcd n⟩ :=
  func_ok' (C := c_whole_gcd n) (n := n) (p := p_whole_gcd) (ok_of mixed eqsOk ⟨s_math_bits_TrailingZeros64 n, trivial⟩ trivial trivial) Go.Proofs.Tryz.func86 (by kernel_rfl) (by kernel_rfl) (d_whole_gcd n) (by kernel_rfl)

/-- carrefour/whole.Gcd -/
def h_whole_Gcd : Shape := ⟨slotsOf 2 [(0, .c (.hole (.int .i64))), (1, .c (.hole (.int .i64)))], [], []⟩
def o_whole_Gcd : List (Ex × Shape) := [(.ret, ⟨slotsOf 2 [(0, .c (.hole (.int .i64))), (1, .c (.hole (.int .i64)))], [], []⟩)]
def whole_Gcd (n : Nat) (x0 : Int × Int) : Option (Int × Int) :=
  (whole_size n x0.1).bind fun y1 =>
  (whole_size n x0.2).bind fun y2 =>
  (whole_gcd n (y1, y2)).bind fun y3 =>
  (whole_signed n (y3, 1)).bind fun y4 =>
  some y4
def p_whole_Gcd : Plan := .leaf
noncomputable def c_whole_Gcd (n : Nat) : Cx := ⟨Go.Proofs.Tryz.prog, Θ, [33, 23, 78, 128, 163], [(87, ⟨h_whole_size, o_whole_size, whole_size n⟩), (85, ⟨h_whole_signed, o_whole_signed, whole_signed n⟩), (86, ⟨h_whole_gcd, o_whole_gcd, whole_gcd n⟩)], [], []⟩
theorem d_whole_Gcd (n : Nat) (x : h_whole_Gcd.X T) : denF (c_whole_Gcd n) n Go.Proofs.Tryz.f54 p_whole_Gcd h_whole_Gcd o_whole_Gcd x = whole_Gcd n x := by kernel_rfl
theorem s_whole_Gcd (n : Nat) : PCalls Go.Proofs.Tryz.prog Θ 54 ⟨h_whole_Gcd, o_whole_Gcd, whole_Gcd n⟩ :=
  func_ok' (C := c_whole_Gcd n) (n := n) (p := p_whole_Gcd) (ok_of mixed eqsOk ⟨s_whole_size n, s_whole_signed n, s_whole_gcd n, trivial⟩ trivial trivial) Go.Proofs.Tryz.func54 (by kernel_rfl) (by kernel_rfl) (d_whole_Gcd n) (by kernel_rfl)

/-- carrefour/frac.Right -/
def h_frac_Right : Shape := ⟨slotsOf 1 [(0, .agg [.hole (.int .i64), .hole (.int .i64)])], [], []⟩
def o_frac_Right : List (Ex × Shape) := [(.ret, ⟨slotsOf 1 [(0, .c (.hole (.bool)))], [], []⟩)]
def frac_Right (n : Nat) (x0 : Int × Int) : Option (Bool) :=
  (whole_Gcd n x0).bind fun y1 =>
  bif decide (1 ≤ x0.2) then
    bif y1.2 == 0 then
      some (y1.1 == 1)
    else
    some false
  else
  some false
def p_frac_Right : Plan := .leaf
noncomputable def c_frac_Right (n : Nat) : Cx := ⟨Go.Proofs.Tryz.prog, Θ, [33, 23, 78, 128, 163], [(54, ⟨h_whole_Gcd, o_whole_Gcd, whole_Gcd n⟩)], [], []⟩
theorem d_frac_Right (n : Nat) (x : h_frac_Right.X T) : denF (c_frac_Right n) n Go.Proofs.Tryz.f28 p_frac_Right h_frac_Right o_frac_Right x = frac_Right n x := by kernel_rfl
theorem s_frac_Right (n : Nat) : PCalls Go.Proofs.Tryz.prog Θ 28 ⟨h_frac_Right, o_frac_Right, frac_Right n⟩ :=
  func_ok' (C := c_frac_Right n) (n := n) (p := p_frac_Right) (ok_of mixed eqsOk ⟨s_whole_Gcd n, trivial⟩ trivial trivial) Go.Proofs.Tryz.func28 (by kernel_rfl) (by kernel_rfl) (d_frac_Right n) (by kernel_rfl)

/-- carrefour/frac.sized -/
def h_frac_sized : Shape := ⟨slotsOf 1 [(0, .c (.hole (.int .i64)))], [], []⟩
def o_frac_sized : List (Ex × Shape) := [(.ret, ⟨slotsOf 1 [(0, .agg [.hole (.bool), .hole (.int .u64), .hole (.int .u64)])], [], []⟩)]
def frac_sized (n : Nat) (x0 : Int) : Option (Bool × Int × Int) :=
  let e0 := IntKind.wrap .u64 x0
  bif decide (x0 < 0) then
    some (true, 0, IntKind.wrap .u64 (0 - e0))
  else
  some (false, 0, e0)
def p_frac_sized : Plan := .leaf
noncomputable def c_frac_sized (n : Nat) : Cx := ⟨Go.Proofs.Tryz.prog, Θ, [33, 23, 78, 128, 163], [], [], []⟩
theorem d_frac_sized (n : Nat) (x : h_frac_sized.X T) : denF (c_frac_sized n) n Go.Proofs.Tryz.f49 p_frac_sized h_frac_sized o_frac_sized x = frac_sized n x := by kernel_rfl
theorem s_frac_sized (n : Nat) : PCalls Go.Proofs.Tryz.prog Θ 49 ⟨h_frac_sized, o_frac_sized, frac_sized n⟩ :=
  func_ok' (C := c_frac_sized n) (n := n) (p := p_frac_sized) (ok_of mixed eqsOk trivial trivial trivial) Go.Proofs.Tryz.func49 (by kernel_rfl) (by kernel_rfl) (d_frac_sized n) (by kernel_rfl)

/-- (carrefour/frac.wide).zero -/
def h_frac_wide_zero : Shape := ⟨slotsOf 1 [(0, .agg [.hole (.int .u64), .hole (.int .u64)])], [], []⟩
def o_frac_wide_zero : List (Ex × Shape) := [(.ret, ⟨slotsOf 1 [(0, .c (.hole (.bool)))], [], []⟩)]
def frac_wide_zero (n : Nat) (x0 : Int × Int) : Option (Bool) :=
  some ((bits2 .or .u64 x0.1 x0.2) == 0)
def p_frac_wide_zero : Plan := .leaf
noncomputable def c_frac_wide_zero (n : Nat) : Cx := ⟨Go.Proofs.Tryz.prog, Θ, [33, 23, 78, 128, 163], [], [], []⟩
theorem d_frac_wide_zero (n : Nat) (x : h_frac_wide_zero.X T) : denF (c_frac_wide_zero n) n Go.Proofs.Tryz.f110 p_frac_wide_zero h_frac_wide_zero o_frac_wide_zero x = frac_wide_zero n x := by kernel_rfl
theorem s_frac_wide_zero (n : Nat) : PCalls Go.Proofs.Tryz.prog Θ 110 ⟨h_frac_wide_zero, o_frac_wide_zero, frac_wide_zero n⟩ :=
  func_ok' (C := c_frac_wide_zero n) (n := n) (p := p_frac_wide_zero) (ok_of mixed eqsOk trivial trivial trivial) Go.Proofs.Tryz.func110 (by kernel_rfl) (by kernel_rfl) (d_frac_wide_zero n) (by kernel_rfl)

/-- (carrefour/frac.wide).twos -/
def h_frac_wide_twos : Shape := ⟨slotsOf 1 [(0, .agg [.hole (.int .u64), .hole (.int .u64)])], [], []⟩
def o_frac_wide_twos : List (Ex × Shape) := [(.ret, ⟨slotsOf 1 [(0, .c (.hole (.int .i64)))], [], []⟩)]
def frac_wide_twos (n : Nat) (x0 : Int × Int) : Option (Int) :=
  bif x0.2 == 0 then
    (math_bits_TrailingZeros64 n x0.1).bind fun y1 =>
    some (wrap64 (64 + y1))
  else
    (math_bits_TrailingZeros64 n x0.2).bind fun y2 =>
    some y2
def p_frac_wide_twos : Plan := .leaf
noncomputable def c_frac_wide_twos (n : Nat) : Cx := ⟨Go.Proofs.Tryz.prog, Θ, [33, 23, 78, 128, 163], [(117, ⟨h_math_bits_TrailingZeros64, o_math_bits_TrailingZeros64, math_bits_TrailingZeros64 n⟩)], [], []⟩
theorem d_frac_wide_twos (n : Nat) (x : h_frac_wide_twos.X T) : denF (c_frac_wide_twos n) n Go.Proofs.Tryz.f111 p_frac_wide_twos h_frac_wide_twos o_frac_wide_twos x = frac_wide_twos n x := by kernel_rfl
theorem s_frac_wide_twos (n : Nat) : PCalls Go.Proofs.Tryz.prog Θ 111 ⟨h_frac_wide_twos, o_frac_wide_twos, frac_wide_twos n⟩ :=
  func_ok' (C := c_frac_wide_twos n) (n := n) (p := p_frac_wide_twos) (ok_of mixed eqsOk ⟨s_math_bits_TrailingZeros64 n, trivial⟩ trivial trivial) Go.Proofs.Tryz.func111 (by kernel_rfl) (by kernel_rfl) (d_frac_wide_twos n) (by kernel_rfl)

/-- (carrefour/frac.wide).down -/
def h_frac_wide_down : Shape := ⟨slotsOf 2 [(0, .agg [.hole (.int .u64), .hole (.int .u64)]), (1, .c (.hole (.int .i64)))], [], []⟩
def o_frac_wide_down : List (Ex × Shape) := [(.ret, ⟨slotsOf 1 [(0, .agg [.hole (.int .u64), .hole (.int .u64)])], [], []⟩)]
def frac_wide_down (n : Nat) (x0 : Int × Int × Int) : Option (Int × Int) :=
  let e0 := wrap64 (x0.2.2 - 64)
  let e1 := decide (0 ≤ x0.2.2)
  let e2 := wrap64 (64 - x0.2.2)
  bif decide (64 ≤ x0.2.2) then
    bif decide (0 ≤ e0) then
      some (0, shr .u64 x0.1 e0)
    else
    none
  else
    bif e1 then
      bif e1 then
        bif decide (0 ≤ e2) then
          some (shr .u64 x0.1 x0.2.2, bits2 .or .u64 (shr .u64 x0.2.1 x0.2.2) (shl .u64 x0.1 e2))
        else
        none
      else
      none
    else
    none
def p_frac_wide_down : Plan := .leaf
noncomputable def c_frac_wide_down (n : Nat) : Cx := ⟨Go.Proofs.Tryz.prog, Θ, [33, 23, 78, 128, 163], [], [], []⟩
theorem d_frac_wide_down (n : Nat) (x : h_frac_wide_down.X T) : denF (c_frac_wide_down n) n Go.Proofs.Tryz.f112 p_frac_wide_down h_frac_wide_down o_frac_wide_down x = frac_wide_down n x := by kernel_rfl
theorem s_frac_wide_down (n : Nat) : PCalls Go.Proofs.Tryz.prog Θ 112 ⟨h_frac_wide_down, o_frac_wide_down, frac_wide_down n⟩ :=
  func_ok' (C := c_frac_wide_down n) (n := n) (p := p_frac_wide_down) (ok_of mixed eqsOk trivial trivial trivial) Go.Proofs.Tryz.func112 (by kernel_rfl) (by kernel_rfl) (d_frac_wide_down n) (by kernel_rfl)

/-- (carrefour/frac.wide).cmp -/
def h_frac_wide_cmp : Shape := ⟨slotsOf 2 [(0, .agg [.hole (.int .u64), .hole (.int .u64)]), (1, .agg [.hole (.int .u64), .hole (.int .u64)])], [], []⟩
def o_frac_wide_cmp : List (Ex × Shape) := [(.ret, ⟨slotsOf 1 [(0, .c (.hole (.int .i64)))], [], []⟩)]
def frac_wide_cmp (n : Nat) (x0 : Int × Int × Int × Int) : Option (Int) :=
  let e0 := x0.1 == x0.2.2.1
  bif e0 && ((x0.2.1 == x0.2.2.2) && true) then
    some 0
  else
  letJ (fun (x1 : Bool) =>
    bif x1 then
      some (-1)
    else
    some 1) fun J2 =>
  bif decide (x0.1 < x0.2.2.1) then
    J2 true
  else
  bif e0 then
    J2 (decide (x0.2.1 < x0.2.2.2))
  else
  J2 false
def p_frac_wide_cmp : Plan := .two (.leaf) (.two (.one (.two (.leaf) (.two (.leaf) (.two (.join ⟨slotsOf 29 [(9, .c (.hole (.bool)))], [], []⟩ (.leaf)) (.leaf))))) (.leaf))
noncomputable def c_frac_wide_cmp (n : Nat) : Cx := ⟨Go.Proofs.Tryz.prog, Θ, [33, 23, 78, 128, 163], [], [], []⟩
theorem d_frac_wide_cmp (n : Nat) (x : h_frac_wide_cmp.X T) : denF (c_frac_wide_cmp n) n Go.Proofs.Tryz.f113 p_frac_wide_cmp h_frac_wide_cmp o_frac_wide_cmp x = frac_wide_cmp n x := by kernel_rfl
theorem s_frac_wide_cmp (n : Nat) : PCalls Go.Proofs.Tryz.prog Θ 113 ⟨h_frac_wide_cmp, o_frac_wide_cmp, frac_wide_cmp n⟩ :=
  func_ok' (C := c_frac_wide_cmp n) (n := n) (p := p_frac_wide_cmp) (ok_of mixed eqsOk trivial trivial trivial) Go.Proofs.Tryz.func113 (by kernel_rfl) (by kernel_rfl) (d_frac_wide_cmp n) (by kernel_rfl)

/-- (carrefour/frac.wide).up -/
def h_frac_wide_up : Shape := ⟨slotsOf 2 [(0, .agg [.hole (.int .u64), .hole (.int .u64)]), (1, .c (.hole (.int .i64)))], [], []⟩
def o_frac_wide_up : List (Ex × Shape) := [(.ret, ⟨slotsOf 1 [(0, .agg [.hole (.int .u64), .hole (.int .u64)])], [], []⟩)]
def frac_wide_up (n : Nat) (x0 : Int × Int × Int) : Option (Int × Int) :=
  let e0 := wrap64 (x0.2.2 - 64)
  let e1 := decide (0 ≤ x0.2.2)
  let e2 := wrap64 (64 - x0.2.2)
  bif decide (64 ≤ x0.2.2) then
    bif decide (0 ≤ e0) then
      some (shl .u64 x0.2.1 e0, 0)
    else
    none
  else
    bif e1 then
      bif decide (0 ≤ e2) then
        bif e1 then
          some (bits2 .or .u64 (shl .u64 x0.1 x0.2.2) (shr .u64 x0.2.1 e2), shl .u64 x0.2.1 x0.2.2)
        else
        none
      else
      none
    else
    none
def p_frac_wide_up : Plan := .leaf
noncomputable def c_frac_wide_up (n : Nat) : Cx := ⟨Go.Proofs.Tryz.prog, Θ, [33, 23, 78, 128, 163], [], [], []⟩
theorem d_frac_wide_up (n : Nat) (x : h_frac_wide_up.X T) : denF (c_frac_wide_up n) n Go.Proofs.Tryz.f115 p_frac_wide_up h_frac_wide_up o_frac_wide_up x = frac_wide_up n x := by kernel_rfl
theorem s_frac_wide_up (n : Nat) : PCalls Go.Proofs.Tryz.prog Θ 115 ⟨h_frac_wide_up, o_frac_wide_up, frac_wide_up n⟩ :=
  func_ok' (C := c_frac_wide_up n) (n := n) (p := p_frac_wide_up) (ok_of mixed eqsOk trivial trivial trivial) Go.Proofs.Tryz.func115 (by kernel_rfl) (by kernel_rfl) (d_frac_wide_up n) (by kernel_rfl)

/-- carrefour/frac.gcd -/
def h_frac_gcd : Shape := ⟨slotsOf 2 [(0, .agg [.hole (.int .u64), .hole (.int .u64)]), (1, .agg [.hole (.int .u64), .hole (.int .u64)])], [], []⟩
def o_frac_gcd : List (Ex × Shape) := [(.ret, ⟨slotsOf 1 [(0, .agg [.hole (.int .u64), .hole (.int .u64)])], [], []⟩)]
def frac_gcd (n : Nat) (x0 : Int × Int × Int × Int) : Option (Int × Int) :=
  (frac_wide_zero n (x0.1, x0.2.1)).bind fun y1 =>
  bif y1 then
    some x0.2.2
  else
  (frac_wide_zero n x0.2.2).bind fun y2 =>
  bif y2 then
    some (x0.1, x0.2.1)
  else
  (frac_wide_twos n (x0.1, x0.2.1)).bind fun y3 =>
  (frac_wide_twos n x0.2.2).bind fun y4 =>
  (frac_wide_twos n (x0.1, x0.2.1)).bind fun y5 =>
  (frac_wide_down n (x0.1, x0.2.1, y5)).bind fun y6 =>
  (iterL (Y := (Int × Int × Int × Int × Int)) n (fun (x7 : Int × Int × Int × Int × Int × Int × Int) =>
    (frac_wide_zero n (x7.2.2.2.1, x7.2.2.2.2.1)).bind fun y8 =>
    bif !y8 then
      (frac_wide_twos n (x7.2.2.2.1, x7.2.2.2.2.1)).bind fun y9 =>
      (frac_wide_down n (x7.2.2.2.1, x7.2.2.2.2.1, y9)).bind fun y10 =>
      letJ (fun (x12 : Int × Int × Int × Int × Int × Int × Int) =>
        (frac_wide_minus n (x12.2.2.2.1, x12.2.2.2.2.1, x12.2.1, x12.2.2.1)).bind fun y14 =>
        some (.inl (x12.1, x12.2.1, x12.2.2.1, y14.1, y14.2, x12.2.2.2.2.2))) fun J13 =>
      (frac_wide_cmp n (x7.2.1, x7.2.2.1, y10)).bind fun y11 =>
      bif decide (0 < y11) then
        J13 (x7.1, y10.1, y10.2, x7.2.1, x7.2.2.1, x7.2.2.2.2.2)
      else
      J13 (x7.1, x7.2.1, x7.2.2.1, y10.1, y10.2, x7.2.2.2.2.2)
    else
    some (.inr (x7.1, x7.2.1, x7.2.2.1, x7.2.2.2.2.2))) (mn y3 y4, y6.1, y6.2, x0.2.2.1, x0.2.2.2, 0, 0)).bind fun (z15 : Int × Int × Int × Int × Int) =>
    (frac_wide_up n (z15.2.1, z15.2.2.1, z15.1)).bind fun y16 =>
    some y16
def p_frac_gcd : Plan := .two (.leaf) (.two (.leaf) (.two (.leaf) (.two (.leaf) (.two (.one (.loop ⟨slotsOf 42 [(2, .c (.box 2 0)), (3, .c (.box 3 0)), (4, .c (.box 4 0)), (5, .c (.hole (.int .i64)))], [(2, 78, [.hole (.int .u64), .hole (.int .u64)]), (3, 78, [.hole (.int .u64), .hole (.int .u64)]), (4, 78, [.hole (.int .u64), .hole (.int .u64)])], []⟩ [(.exit 1, ⟨slotsOf 42 [(2, .c (.box 2 0)), (4, .c (.box 4 0)), (5, .c (.hole (.int .i64)))], [(2, 78, [.hole (.int .u64), .hole (.int .u64)]), (4, 78, [.hole (.int .u64), .hole (.int .u64)])], []⟩)] (.two (.leaf) (.one (.two (.leaf) (.two (.join ⟨slotsOf 42 [(2, .c (.box 2 0)), (3, .c (.box 3 0)), (4, .c (.box 4 0)), (5, .c (.hole (.int .i64)))], [(2, 78, [.hole (.int .u64), .hole (.int .u64)]), (3, 78, [.hole (.int .u64), .hole (.int .u64)]), (4, 78, [.hole (.int .u64), .hole (.int .u64)])], []⟩ (.leaf)) (.leaf))))))) (.leaf)))))
noncomputable def c_frac_gcd (n : Nat) : Cx := ⟨Go.Proofs.Tryz.prog, Θ, [33, 23, 78, 128, 163], [(114, ⟨h_frac_wide_minus, o_frac_wide_minus, frac_wide_minus n⟩), (110, ⟨h_frac_wide_zero, o_frac_wide_zero, frac_wide_zero n⟩), (111, ⟨h_frac_wide_twos, o_frac_wide_twos, frac_wide_twos n⟩), (112, ⟨h_frac_wide_down, o_frac_wide_down, frac_wide_down n⟩), (113, ⟨h_frac_wide_cmp, o_frac_wide_cmp, frac_wide_cmp n⟩), (115, ⟨h_frac_wide_up, o_frac_wide_up, frac_wide_up n⟩)], [], []⟩
theorem d_frac_gcd (n : Nat) (x : h_frac_gcd.X T) : denF (c_frac_gcd n) n Go.Proofs.Tryz.f81 p_frac_gcd h_frac_gcd o_frac_gcd x = frac_gcd n x := by kernel_rfl
theorem s_frac_gcd (n : Nat) : PCalls Go.Proofs.Tryz.prog Θ 81 ⟨h_frac_gcd, o_frac_gcd, frac_gcd n⟩ :=
  func_ok' (C := c_frac_gcd n) (n := n) (p := p_frac_gcd) (ok_of mixed eqsOk ⟨s_frac_wide_minus n, s_frac_wide_zero n, s_frac_wide_twos n, s_frac_wide_down n, s_frac_wide_cmp n, s_frac_wide_up n, trivial⟩ trivial trivial) Go.Proofs.Tryz.func81 (by kernel_rfl) (by kernel_rfl) (d_frac_gcd n) (by kernel_rfl)

/-- math/bits.Len64 -/
def h_math_bits_Len64 : Shape := ⟨slotsOf 1 [(0, .c (.hole (.int .u64)))], [], []⟩
def o_math_bits_Len64 : List (Ex × Shape) := [(.ret, ⟨slotsOf 1 [(0, .c (.hole (.int .i64)))], [], []⟩)]
def math_bits_Len64 (n : Nat) (x0 : Int) : Option (Int) :=
  let e0 := ByteArray.size (ByteArray.mk #[0, 1, 2, 2, 3, 3, 3, 3, 4, 4, 4, 4, 4, 4, 4, 4, 5, 5, 5, 5, 5, 5, 5, 5, 5, 5, 5, 5, 5, 5, 5, 5, 6, 6, 6, 6, 6, 6, 6, 6, 6, 6, 6, 6, 6, 6, 6, 6, 6, 6, 6, 6, 6, 6, 6, 6, 6, 6, 6, 6, 6, 6, 6, 6, 7, 7, 7, 7, 7, 7, 7, 7, 7, 7, 7, 7, 7, 7, 7, 7, 7, 7, 7, 7, 7, 7, 7, 7, 7, 7, 7, 7, 7, 7, 7, 7, 7, 7, 7, 7, 7, 7, 7, 7, 7, 7, 7, 7, 7, 7, 7, 7, 7, 7, 7, 7, 7, 7, 7, 7, 7, 7, 7, 7, 7, 7, 7, 7, 8, 8, 8, 8, 8, 8, 8, 8, 8, 8, 8, 8, 8, 8, 8, 8, 8, 8, 8, 8, 8, 8, 8, 8, 8, 8, 8, 8, 8, 8, 8, 8, 8, 8, 8, 8, 8, 8, 8, 8, 8, 8, 8, 8, 8, 8, 8, 8, 8, 8, 8, 8, 8, 8, 8, 8, 8, 8, 8, 8, 8, 8, 8, 8, 8, 8, 8, 8, 8, 8, 8, 8, 8, 8, 8, 8, 8, 8, 8, 8, 8, 8, 8, 8, 8, 8, 8, 8, 8, 8, 8, 8, 8, 8, 8, 8, 8, 8, 8, 8, 8, 8, 8, 8, 8, 8, 8, 8, 8, 8, 8, 8, 8, 8, 8, 8, 8, 8, 8, 8, 8, 8, 8, 8, 8, 8, 8, 8])
  letJ (fun (x1 : Int × Int) =>
    letJ (fun (x3 : Int × Int) =>
      let e1 := IntKind.wrap .u8 (shr .u64 x3.1 8)
      let e2 := IntKind.wrap .u8 x3.1
      bif decide (256 ≤ x3.1) then
        bif decide (0 ≤ 8) then
          bif inB e1 e0 then
            some (wrap64 ((wrap64 (x3.2 + 8)) + (wrap64 (byteAt (ByteArray.mk #[0, 1, 2, 2, 3, 3, 3, 3, 4, 4, 4, 4, 4, 4, 4, 4, 5, 5, 5, 5, 5, 5, 5, 5, 5, 5, 5, 5, 5, 5, 5, 5, 6, 6, 6, 6, 6, 6, 6, 6, 6, 6, 6, 6, 6, 6, 6, 6, 6, 6, 6, 6, 6, 6, 6, 6, 6, 6, 6, 6, 6, 6, 6, 6, 7, 7, 7, 7, 7, 7, 7, 7, 7, 7, 7, 7, 7, 7, 7, 7, 7, 7, 7, 7, 7, 7, 7, 7, 7, 7, 7, 7, 7, 7, 7, 7, 7, 7, 7, 7, 7, 7, 7, 7, 7, 7, 7, 7, 7, 7, 7, 7, 7, 7, 7, 7, 7, 7, 7, 7, 7, 7, 7, 7, 7, 7, 7, 7, 8, 8, 8, 8, 8, 8, 8, 8, 8, 8, 8, 8, 8, 8, 8, 8, 8, 8, 8, 8, 8, 8, 8, 8, 8, 8, 8, 8, 8, 8, 8, 8, 8, 8, 8, 8, 8, 8, 8, 8, 8, 8, 8, 8, 8, 8, 8, 8, 8, 8, 8, 8, 8, 8, 8, 8, 8, 8, 8, 8, 8, 8, 8, 8, 8, 8, 8, 8, 8, 8, 8, 8, 8, 8, 8, 8, 8, 8, 8, 8, 8, 8, 8, 8, 8, 8, 8, 8, 8, 8, 8, 8, 8, 8, 8, 8, 8, 8, 8, 8, 8, 8, 8, 8, 8, 8, 8, 8, 8, 8, 8, 8, 8, 8, 8, 8, 8, 8, 8, 8, 8, 8, 8, 8, 8, 8, 8, 8]) e1))))
          else
          none
        else
        none
      else
        bif inB e2 e0 then
          some (wrap64 (x3.2 + (wrap64 (byteAt (ByteArray.mk #[0, 1, 2, 2, 3, 3, 3, 3, 4, 4, 4, 4, 4, 4, 4, 4, 5, 5, 5, 5, 5, 5, 5, 5, 5, 5, 5, 5, 5, 5, 5, 5, 6, 6, 6, 6, 6, 6, 6, 6, 6, 6, 6, 6, 6, 6, 6, 6, 6, 6, 6, 6, 6, 6, 6, 6, 6, 6, 6, 6, 6, 6, 6, 6, 7, 7, 7, 7, 7, 7, 7, 7, 7, 7, 7, 7, 7, 7, 7, 7, 7, 7, 7, 7, 7, 7, 7, 7, 7, 7, 7, 7, 7, 7, 7, 7, 7, 7, 7, 7, 7, 7, 7, 7, 7, 7, 7, 7, 7, 7, 7, 7, 7, 7, 7, 7, 7, 7, 7, 7, 7, 7, 7, 7, 7, 7, 7, 7, 8, 8, 8, 8, 8, 8, 8, 8, 8, 8, 8, 8, 8, 8, 8, 8, 8, 8, 8, 8, 8, 8, 8, 8, 8, 8, 8, 8, 8, 8, 8, 8, 8, 8, 8, 8, 8, 8, 8, 8, 8, 8, 8, 8, 8, 8, 8, 8, 8, 8, 8, 8, 8, 8, 8, 8, 8, 8, 8, 8, 8, 8, 8, 8, 8, 8, 8, 8, 8, 8, 8, 8, 8, 8, 8, 8, 8, 8, 8, 8, 8, 8, 8, 8, 8, 8, 8, 8, 8, 8, 8, 8, 8, 8, 8, 8, 8, 8, 8, 8, 8, 8, 8, 8, 8, 8, 8, 8, 8, 8, 8, 8, 8, 8, 8, 8, 8, 8, 8, 8, 8, 8, 8, 8, 8, 8, 8, 8]) e2))))
        else
        none) fun J4 =>
    bif decide (65536 ≤ x1.1) then
      bif decide (0 ≤ 16) then
        J4 (shr .u64 x1.1 16, wrap64 (x1.2 + 16))
      else
      none
    else
    J4 x1) fun J2 =>
  bif decide (4294967296 ≤ x0) then
    bif decide (0 ≤ 32) then
      J2 (shr .u64 x0 32, 32)
    else
    none
  else
  J2 (x0, 0)
def p_math_bits_Len64 : Plan := .two (.leaf) (.two (.join ⟨slotsOf 25 [(0, .c (.hole (.int .u64))), (2, .c (.hole (.int .i64)))], [], []⟩ (.leaf)) (.two (.join ⟨slotsOf 25 [(0, .c (.hole (.int .u64))), (2, .c (.hole (.int .i64)))], [], []⟩ (.leaf)) (.leaf)))
noncomputable def c_math_bits_Len64 (n : Nat) : Cx := ⟨Go.Proofs.Tryz.prog, Θ, [33, 23, 78, 128, 163], [], [], []⟩
theorem d_math_bits_Len64 (n : Nat) (x : h_math_bits_Len64.X T) : denF (c_math_bits_Len64 n) n Go.Proofs.Tryz.f127 p_math_bits_Len64 h_math_bits_Len64 o_math_bits_Len64 x = math_bits_Len64 n x := by kernel_rfl
theorem s_math_bits_Len64 (n : Nat) : PCalls Go.Proofs.Tryz.prog Θ 127 ⟨h_math_bits_Len64, o_math_bits_Len64, math_bits_Len64 n⟩ :=
  func_ok' (C := c_math_bits_Len64 n) (n := n) (p := p_math_bits_Len64) (ok_of mixed eqsOk trivial trivial trivial) Go.Proofs.Tryz.func127 (by kernel_rfl) (by kernel_rfl) (d_math_bits_Len64 n) (by kernel_rfl)

/-- (carrefour/frac.wide).long -/
def h_frac_wide_long : Shape := ⟨slotsOf 1 [(0, .agg [.hole (.int .u64), .hole (.int .u64)])], [], []⟩
def o_frac_wide_long : List (Ex × Shape) := [(.ret, ⟨slotsOf 1 [(0, .c (.hole (.int .i64)))], [], []⟩)]
def frac_wide_long (n : Nat) (x0 : Int × Int) : Option (Int) :=
  bif !(x0.1 == 0) then
    (math_bits_Len64 n x0.1).bind fun y1 =>
    some (wrap64 (64 + y1))
  else
    (math_bits_Len64 n x0.2).bind fun y2 =>
    some y2
def p_frac_wide_long : Plan := .leaf
noncomputable def c_frac_wide_long (n : Nat) : Cx := ⟨Go.Proofs.Tryz.prog, Θ, [33, 23, 78, 128, 163], [(127, ⟨h_math_bits_Len64, o_math_bits_Len64, math_bits_Len64 n⟩)], [], []⟩
theorem d_frac_wide_long (n : Nat) (x : h_frac_wide_long.X T) : denF (c_frac_wide_long n) n Go.Proofs.Tryz.f116 p_frac_wide_long h_frac_wide_long o_frac_wide_long x = frac_wide_long n x := by kernel_rfl
theorem s_frac_wide_long (n : Nat) : PCalls Go.Proofs.Tryz.prog Θ 116 ⟨h_frac_wide_long, o_frac_wide_long, frac_wide_long n⟩ :=
  func_ok' (C := c_frac_wide_long n) (n := n) (p := p_frac_wide_long) (ok_of mixed eqsOk ⟨s_math_bits_Len64 n, trivial⟩ trivial trivial) Go.Proofs.Tryz.func116 (by kernel_rfl) (by kernel_rfl) (d_frac_wide_long n) (by kernel_rfl)

/-- (carrefour/frac.wide).over -/
def h_frac_wide_over : Shape := ⟨slotsOf 2 [(0, .agg [.hole (.int .u64), .hole (.int .u64)]), (1, .agg [.hole (.int .u64), .hole (.int .u64)])], [], []⟩
def o_frac_wide_over : List (Ex × Shape) := [(.ret, ⟨slotsOf 1 [(0, .agg [.hole (.int .u64), .hole (.int .u64)])], [], []⟩)]
def frac_wide_over (n : Nat) (x0 : Int × Int × Int × Int) : Option (Int × Int) :=
  (frac_wide_long n (x0.1, x0.2.1)).bind fun y1 =>
  (frac_wide_long n x0.2.2).bind fun y2 =>
  (iterL (Y := (Int × Int × Int × Int)) n (fun (x3 : Int × Int × Int × Int × Int × Int × Int × Int × Int) =>
    let e0 := wrap64 (x3.1 - 1)
    bif decide (0 ≤ x3.1) then
      (frac_wide_up n (x3.2.2.2.2.2.2.2.1, x3.2.2.2.2.2.2.2.2, 1)).bind fun y4 =>
      (frac_wide_up n (x3.2.2.2.1, x3.2.2.2.2.1, x3.1)).bind fun y5 =>
      (frac_wide_cmp n (y5.1, y5.2, x3.2.1, x3.2.2.1)).bind fun y6 =>
      bif decide (y6 ≤ 0) then
        (frac_wide_minus n (x3.2.1, x3.2.2.1, y5)).bind fun y7 =>
        some (.inl (e0, y7.1, y7.2, x3.2.2.2.1, x3.2.2.2.2.1, x3.2.2.2.2.2.1, x3.2.2.2.2.2.2.1, y4.1, bits2 .or .u64 y4.2 1))
      else
      some (.inl (e0, x3.2.1, x3.2.2.1, x3.2.2.2.1, x3.2.2.2.2.1, x3.2.2.2.2.2.1, x3.2.2.2.2.2.2.1, y4))
    else
    some (.inr x3.2.2.2.2.2)) (wrap64 (y1 - y2), x0.1, x0.2.1, x0.2.2.1, x0.2.2.2, 0, 0, 0, 0)).bind fun (z8 : Int × Int × Int × Int) =>
    some z8.2.2
def p_frac_wide_over : Plan := .two (.leaf) (.two (.leaf) (.two (.two (.leaf) (.one (.loop ⟨slotsOf 34 [(2, .c (.box 2 0)), (3, .c (.box 3 0)), (4, .c (.box 4 0)), (5, .c (.box 5 0)), (6, .c (.hole (.int .i64)))], [(2, 78, [.hole (.int .u64), .hole (.int .u64)]), (3, 78, [.hole (.int .u64), .hole (.int .u64)]), (4, 78, [.hole (.int .u64), .hole (.int .u64)]), (5, 78, [.hole (.int .u64), .hole (.int .u64)])], []⟩ [(.exit 0, ⟨slotsOf 34 [(4, .c (.box 4 0)), (5, .c (.box 5 0))], [(4, 78, [.hole (.int .u64), .hole (.int .u64)]), (5, 78, [.hole (.int .u64), .hole (.int .u64)])], []⟩)] (.leaf)))) (.leaf)))
noncomputable def c_frac_wide_over (n : Nat) : Cx := ⟨Go.Proofs.Tryz.prog, Θ, [33, 23, 78, 128, 163], [(114, ⟨h_frac_wide_minus, o_frac_wide_minus, frac_wide_minus n⟩), (113, ⟨h_frac_wide_cmp, o_frac_wide_cmp, frac_wide_cmp n⟩), (115, ⟨h_frac_wide_up, o_frac_wide_up, frac_wide_up n⟩), (116, ⟨h_frac_wide_long, o_frac_wide_long, frac_wide_long n⟩)], [], []⟩
theorem d_frac_wide_over (n : Nat) (x : h_frac_wide_over.X T) : denF (c_frac_wide_over n) n Go.Proofs.Tryz.f82 p_frac_wide_over h_frac_wide_over o_frac_wide_over x = frac_wide_over n x := by kernel_rfl
theorem s_frac_wide_over (n : Nat) : PCalls Go.Proofs.Tryz.prog Θ 82 ⟨h_frac_wide_over, o_frac_wide_over, frac_wide_over n⟩ :=
  func_ok' (C := c_frac_wide_over n) (n := n) (p := p_frac_wide_over) (ok_of mixed eqsOk ⟨s_frac_wide_minus n, s_frac_wide_cmp n, s_frac_wide_up n, s_frac_wide_long n, trivial⟩ trivial trivial) Go.Proofs.Tryz.func82 (by kernel_rfl) (by kernel_rfl) (d_frac_wide_over n) (by kernel_rfl)

/-- (carrefour/frac.signed).whole -/
def h_frac_signed_whole : Shape := ⟨slotsOf 1 [(0, .agg [.hole (.bool), .hole (.int .u64), .hole (.int .u64)])], [], []⟩
def o_frac_signed_whole : List (Ex × Shape) := [(.ret, ⟨slotsOf 2 [(0, .c (.hole (.int .i64))), (1, .c (.hole (.bool)))], [], []⟩)]
def frac_signed_whole (n : Nat) (x0 : Bool × Int × Int) : Option (Int × Bool) :=
  bif !(x0.2.1 == 0) then
    some (0, false)
  else
  bif x0.1 then
    some (wrap64 (IntKind.wrap .u64 (0 - x0.2.2)), decide (x0.2.2 ≤ 9223372036854775808))
  else
  some (wrap64 x0.2.2, decide (x0.2.2 < 9223372036854775808))
def p_frac_signed_whole : Plan := .leaf
noncomputable def c_frac_signed_whole (n : Nat) : Cx := ⟨Go.Proofs.Tryz.prog, Θ, [33, 23, 78, 128, 163], [], [], []⟩
theorem d_frac_signed_whole (n : Nat) (x : h_frac_signed_whole.X T) : denF (c_frac_signed_whole n) n Go.Proofs.Tryz.f83 p_frac_signed_whole h_frac_signed_whole o_frac_signed_whole x = frac_signed_whole n x := by kernel_rfl
theorem s_frac_signed_whole (n : Nat) : PCalls Go.Proofs.Tryz.prog Θ 83 ⟨h_frac_signed_whole, o_frac_signed_whole, frac_signed_whole n⟩ :=
  func_ok' (C := c_frac_signed_whole n) (n := n) (p := p_frac_signed_whole) (ok_of mixed eqsOk trivial trivial trivial) Go.Proofs.Tryz.func83 (by kernel_rfl) (by kernel_rfl) (d_frac_signed_whole n) (by kernel_rfl)

/-- carrefour/frac.reduced -/
def h_frac_reduced : Shape := ⟨slotsOf 2 [(0, .agg [.hole (.bool), .hole (.int .u64), .hole (.int .u64)]), (1, .agg [.hole (.bool), .hole (.int .u64), .hole (.int .u64)])], [], []⟩
def o_frac_reduced : List (Ex × Shape) := [(.ret, ⟨slotsOf 2 [(0, .agg [.hole (.int .i64), .hole (.int .i64)]), (1, .c (.hole (.int .i64)))], [], []⟩)]
def frac_reduced (n : Nat) (x0 : Bool × Int × Int × Bool × Int × Int) : Option (Int × Int × Int) :=
  (frac_gcd n (x0.2.1, x0.2.2.1, x0.2.2.2.2)).bind fun y1 =>
  (frac_wide_over n (x0.2.1, x0.2.2.1, y1)).bind fun y2 =>
  (frac_wide_over n (x0.2.2.2.2.1, x0.2.2.2.2.2, y1)).bind fun y3 =>
  (frac_signed_whole n (!(x0.1 == x0.2.2.2.1), y2)).bind fun y4 =>
  (frac_signed_whole n (false, y3)).bind fun y5 =>
  letJ (fun (x6 : Int × Int × Bool × Int × Int) =>
    bif x6.2.2.1 then
      some (0, 0, 2)
    else
    some (x6.1, x6.2.1, 0)) fun J7 =>
  bif !y4.2 then
    J7 (y4.1, y5.1, true, 0, 0)
  else
  J7 (y4.1, y5.1, !y5.2, 0, 0)
def p_frac_reduced : Plan := .two (.leaf) (.two (.leaf) (.two (.leaf) (.two (.leaf) (.two (.leaf) (.two (.leaf) (.two (.two (.join ⟨slotsOf 53 [(4, .c (.box 4 0)), (7, .c (.hole (.int .i64))), (9, .c (.hole (.int .i64))), (48, .c (.hole (.bool)))], [(4, 33, [.hole (.int .i64), .hole (.int .i64)])], []⟩ (.leaf)) (.leaf)) (.leaf)))))))
noncomputable def c_frac_reduced (n : Nat) : Cx := ⟨Go.Proofs.Tryz.prog, Θ, [33, 23, 78, 128, 163], [(81, ⟨h_frac_gcd, o_frac_gcd, frac_gcd n⟩), (82, ⟨h_frac_wide_over, o_frac_wide_over, frac_wide_over n⟩), (83, ⟨h_frac_signed_whole, o_frac_signed_whole, frac_signed_whole n⟩)], [], []⟩
theorem d_frac_reduced (n : Nat) (x : h_frac_reduced.X T) : denF (c_frac_reduced n) n Go.Proofs.Tryz.f48 p_frac_reduced h_frac_reduced o_frac_reduced x = frac_reduced n x := by kernel_rfl
theorem s_frac_reduced (n : Nat) : PCalls Go.Proofs.Tryz.prog Θ 48 ⟨h_frac_reduced, o_frac_reduced, frac_reduced n⟩ :=
  func_ok' (C := c_frac_reduced n) (n := n) (p := p_frac_reduced) (ok_of mixed eqsOk ⟨s_frac_gcd n, s_frac_wide_over n, s_frac_signed_whole n, trivial⟩ trivial trivial) Go.Proofs.Tryz.func48 (by kernel_rfl) (by kernel_rfl) (d_frac_reduced n) (by kernel_rfl)

/-- carrefour/frac.Of -/
def h_frac_Of : Shape := ⟨slotsOf 2 [(0, .c (.hole (.int .i64))), (1, .c (.hole (.int .i64)))], [], []⟩
def o_frac_Of : List (Ex × Shape) := [(.ret, ⟨slotsOf 2 [(0, .agg [.hole (.int .i64), .hole (.int .i64)]), (1, .c (.hole (.int .i64)))], [], []⟩)]
def frac_Of (n : Nat) (x0 : Int × Int) : Option (Int × Int × Int) :=
  bif x0.2 == 0 then
    some (0, 0, 3)
  else
  (frac_sized n x0.1).bind fun y1 =>
  (frac_sized n x0.2).bind fun y2 =>
  (frac_reduced n (y1.1, y1.2.1, y1.2.2, y2)).bind fun y3 =>
  some y3
def p_frac_Of : Plan := .leaf
noncomputable def c_frac_Of (n : Nat) : Cx := ⟨Go.Proofs.Tryz.prog, Θ, [33, 23, 78, 128, 163], [(49, ⟨h_frac_sized, o_frac_sized, frac_sized n⟩), (48, ⟨h_frac_reduced, o_frac_reduced, frac_reduced n⟩)], [], []⟩
theorem d_frac_Of (n : Nat) (x : h_frac_Of.X T) : denF (c_frac_Of n) n Go.Proofs.Tryz.f25 p_frac_Of h_frac_Of o_frac_Of x = frac_Of n x := by kernel_rfl
theorem s_frac_Of (n : Nat) : PCalls Go.Proofs.Tryz.prog Θ 25 ⟨h_frac_Of, o_frac_Of, frac_Of n⟩ :=
  func_ok' (C := c_frac_Of n) (n := n) (p := p_frac_Of) (ok_of mixed eqsOk ⟨s_frac_sized n, s_frac_reduced n, trivial⟩ trivial trivial) Go.Proofs.Tryz.func25 (by kernel_rfl) (by kernel_rfl) (d_frac_Of n) (by kernel_rfl)

/-- carrefour/frac.nought -/
def h_frac_nought : Shape := ⟨slotsOf 0 [], [], []⟩
def o_frac_nought : List (Ex × Shape) := [(.ret, ⟨slotsOf 1 [(0, .agg [.hole (.int .i64), .hole (.int .i64)])], [], []⟩)]
def frac_nought (n : Nat) (x0 : Unit) : Option (Int × Int) :=
  some (0, 1)
def p_frac_nought : Plan := .leaf
noncomputable def c_frac_nought (n : Nat) : Cx := ⟨Go.Proofs.Tryz.prog, Θ, [33, 23, 78, 128, 163], [], [], []⟩
theorem d_frac_nought (n : Nat) (x : h_frac_nought.X T) : denF (c_frac_nought n) n Go.Proofs.Tryz.f88 p_frac_nought h_frac_nought o_frac_nought x = frac_nought n x := by kernel_rfl
theorem s_frac_nought (n : Nat) : PCalls Go.Proofs.Tryz.prog Θ 88 ⟨h_frac_nought, o_frac_nought, frac_nought n⟩ :=
  func_ok' (C := c_frac_nought n) (n := n) (p := p_frac_nought) (ok_of mixed eqsOk trivial trivial trivial) Go.Proofs.Tryz.func88 (by kernel_rfl) (by kernel_rfl) (d_frac_nought n) (by kernel_rfl)

/-- carrefour/frac.norm -/
def h_frac_norm : Shape := ⟨slotsOf 1 [(0, .agg [.hole (.int .i64), .hole (.int .i64)])], [], []⟩
def o_frac_norm : List (Ex × Shape) := [(.ret, ⟨slotsOf 1 [(0, .agg [.hole (.int .i64), .hole (.int .i64)])], [], []⟩)]
def frac_norm (n : Nat) (x0 : Int × Int) : Option (Int × Int) :=
  (frac_Right n x0).bind fun y1 =>
  bif y1 then
    some x0
  else
  (frac_nought n ()).bind fun y2 =>
  some y2
def p_frac_norm : Plan := .leaf
noncomputable def c_frac_norm (n : Nat) : Cx := ⟨Go.Proofs.Tryz.prog, Θ, [33, 23, 78, 128, 163], [(28, ⟨h_frac_Right, o_frac_Right, frac_Right n⟩), (88, ⟨h_frac_nought, o_frac_nought, frac_nought n⟩)], [], []⟩
theorem d_frac_norm (n : Nat) (x : h_frac_norm.X T) : denF (c_frac_norm n) n Go.Proofs.Tryz.f55 p_frac_norm h_frac_norm o_frac_norm x = frac_norm n x := by kernel_rfl
theorem s_frac_norm (n : Nat) : PCalls Go.Proofs.Tryz.prog Θ 55 ⟨h_frac_norm, o_frac_norm, frac_norm n⟩ :=
  func_ok' (C := c_frac_norm n) (n := n) (p := p_frac_norm) (ok_of mixed eqsOk ⟨s_frac_Right n, s_frac_nought n, trivial⟩ trivial trivial) Go.Proofs.Tryz.func55 (by kernel_rfl) (by kernel_rfl) (d_frac_norm n) (by kernel_rfl)

/-- carrefour/frac.multiply -/
def h_frac_multiply : Shape := ⟨slotsOf 2 [(0, .c (.hole (.int .u64))), (1, .c (.hole (.int .u64)))], [], []⟩
def o_frac_multiply : List (Ex × Shape) := [(.ret, ⟨slotsOf 1 [(0, .agg [.hole (.int .u64), .hole (.int .u64)])], [], []⟩)]
def frac_multiply (n : Nat) (x0 : Int × Int) : Option (Int × Int) :=
  (math_bits_Mul64 n x0).bind fun y1 =>
  some y1
def p_frac_multiply : Plan := .leaf
noncomputable def c_frac_multiply (n : Nat) : Cx := ⟨Go.Proofs.Tryz.prog, Θ, [33, 23, 78, 128, 163], [(118, ⟨h_math_bits_Mul64, o_math_bits_Mul64, math_bits_Mul64 n⟩)], [], []⟩
theorem d_frac_multiply (n : Nat) (x : h_frac_multiply.X T) : denF (c_frac_multiply n) n Go.Proofs.Tryz.f89 p_frac_multiply h_frac_multiply o_frac_multiply x = frac_multiply n x := by kernel_rfl
theorem s_frac_multiply (n : Nat) : PCalls Go.Proofs.Tryz.prog Θ 89 ⟨h_frac_multiply, o_frac_multiply, frac_multiply n⟩ :=
  func_ok' (C := c_frac_multiply n) (n := n) (p := p_frac_multiply) (ok_of mixed eqsOk ⟨s_math_bits_Mul64 n, trivial⟩ trivial trivial) Go.Proofs.Tryz.func89 (by kernel_rfl) (by kernel_rfl) (d_frac_multiply n) (by kernel_rfl)

/-- (carrefour/frac.signed).times -/
def h_frac_signed_times : Shape := ⟨slotsOf 2 [(0, .agg [.hole (.bool), .hole (.int .u64), .hole (.int .u64)]), (1, .agg [.hole (.bool), .hole (.int .u64), .hole (.int .u64)])], [], []⟩
def o_frac_signed_times : List (Ex × Shape) := [(.ret, ⟨slotsOf 1 [(0, .agg [.hole (.bool), .hole (.int .u64), .hole (.int .u64)])], [], []⟩)]
def frac_signed_times (n : Nat) (x0 : Bool × Int × Int × Bool × Int × Int) : Option (Bool × Int × Int) :=
  (frac_multiply n (x0.2.2.1, x0.2.2.2.2.2)).bind fun y1 =>
  some (!(x0.1 == x0.2.2.2.1), y1)
def p_frac_signed_times : Plan := .leaf
noncomputable def c_frac_signed_times (n : Nat) : Cx := ⟨Go.Proofs.Tryz.prog, Θ, [33, 23, 78, 128, 163], [(89, ⟨h_frac_multiply, o_frac_multiply, frac_multiply n⟩)], [], []⟩
theorem d_frac_signed_times (n : Nat) (x : h_frac_signed_times.X T) : denF (c_frac_signed_times n) n Go.Proofs.Tryz.f56 p_frac_signed_times h_frac_signed_times o_frac_signed_times x = frac_signed_times n x := by kernel_rfl
theorem s_frac_signed_times (n : Nat) : PCalls Go.Proofs.Tryz.prog Θ 56 ⟨h_frac_signed_times, o_frac_signed_times, frac_signed_times n⟩ :=
  func_ok' (C := c_frac_signed_times n) (n := n) (p := p_frac_signed_times) (ok_of mixed eqsOk ⟨s_frac_multiply n, trivial⟩ trivial trivial) Go.Proofs.Tryz.func56 (by kernel_rfl) (by kernel_rfl) (d_frac_signed_times n) (by kernel_rfl)

/-- carrefour/frac.Mul -/
def h_frac_Mul : Shape := ⟨slotsOf 2 [(0, .agg [.hole (.int .i64), .hole (.int .i64)]), (1, .agg [.hole (.int .i64), .hole (.int .i64)])], [], []⟩
def o_frac_Mul : List (Ex × Shape) := [(.ret, ⟨slotsOf 2 [(0, .agg [.hole (.int .i64), .hole (.int .i64)]), (1, .c (.hole (.int .i64)))], [], []⟩)]
def frac_Mul (n : Nat) (x0 : Int × Int × Int × Int) : Option (Int × Int × Int) :=
  (frac_norm n (x0.1, x0.2.1)).bind fun y1 =>
  (frac_norm n x0.2.2).bind fun y2 =>
  (frac_sized n y1.1).bind fun y3 =>
  (frac_sized n y2.1).bind fun y4 =>
  (frac_signed_times n (y3.1, y3.2.1, y3.2.2, y4)).bind fun y5 =>
  (frac_sized n y1.2).bind fun y6 =>
  (frac_sized n y2.2).bind fun y7 =>
  (frac_signed_times n (y6.1, y6.2.1, y6.2.2, y7)).bind fun y8 =>
  (frac_reduced n (y5.1, y5.2.1, y5.2.2, y8)).bind fun y9 =>
  some y9
def p_frac_Mul : Plan := .leaf
noncomputable def c_frac_Mul (n : Nat) : Cx := ⟨Go.Proofs.Tryz.prog, Θ, [33, 23, 78, 128, 163], [(49, ⟨h_frac_sized, o_frac_sized, frac_sized n⟩), (48, ⟨h_frac_reduced, o_frac_reduced, frac_reduced n⟩), (55, ⟨h_frac_norm, o_frac_norm, frac_norm n⟩), (56, ⟨h_frac_signed_times, o_frac_signed_times, frac_signed_times n⟩)], [], []⟩
theorem d_frac_Mul (n : Nat) (x : h_frac_Mul.X T) : denF (c_frac_Mul n) n Go.Proofs.Tryz.f29 p_frac_Mul h_frac_Mul o_frac_Mul x = frac_Mul n x := by kernel_rfl
theorem s_frac_Mul (n : Nat) : PCalls Go.Proofs.Tryz.prog Θ 29 ⟨h_frac_Mul, o_frac_Mul, frac_Mul n⟩ :=
  func_ok' (C := c_frac_Mul n) (n := n) (p := p_frac_Mul) (ok_of mixed eqsOk ⟨s_frac_sized n, s_frac_reduced n, s_frac_norm n, s_frac_signed_times n, trivial⟩ trivial trivial) Go.Proofs.Tryz.func29 (by kernel_rfl) (by kernel_rfl) (d_frac_Mul n) (by kernel_rfl)

/-- carrefour/frac.Div -/
def h_frac_Div : Shape := ⟨slotsOf 2 [(0, .agg [.hole (.int .i64), .hole (.int .i64)]), (1, .agg [.hole (.int .i64), .hole (.int .i64)])], [], []⟩
def o_frac_Div : List (Ex × Shape) := [(.ret, ⟨slotsOf 2 [(0, .agg [.hole (.int .i64), .hole (.int .i64)]), (1, .c (.hole (.int .i64)))], [], []⟩)]
def frac_Div (n : Nat) (x0 : Int × Int × Int × Int) : Option (Int × Int × Int) :=
  (frac_norm n (x0.1, x0.2.1)).bind fun y1 =>
  (frac_norm n x0.2.2).bind fun y2 =>
  bif y2.1 == 0 then
    some (0, 0, 3)
  else
  (frac_sized n y1.1).bind fun y3 =>
  (frac_sized n y2.2).bind fun y4 =>
  (frac_signed_times n (y3.1, y3.2.1, y3.2.2, y4)).bind fun y5 =>
  (frac_sized n y1.2).bind fun y6 =>
  (frac_sized n y2.1).bind fun y7 =>
  (frac_signed_times n (y6.1, y6.2.1, y6.2.2, y7)).bind fun y8 =>
  (frac_reduced n (y5.1, y5.2.1, y5.2.2, y8)).bind fun y9 =>
  some y9
def p_frac_Div : Plan := .leaf
noncomputable def c_frac_Div (n : Nat) : Cx := ⟨Go.Proofs.Tryz.prog, Θ, [33, 23, 78, 128, 163], [(49, ⟨h_frac_sized, o_frac_sized, frac_sized n⟩), (48, ⟨h_frac_reduced, o_frac_reduced, frac_reduced n⟩), (55, ⟨h_frac_norm, o_frac_norm, frac_norm n⟩), (56, ⟨h_frac_signed_times, o_frac_signed_times, frac_signed_times n⟩)], [], []⟩
theorem d_frac_Div (n : Nat) (x : h_frac_Div.X T) : denF (c_frac_Div n) n Go.Proofs.Tryz.f30 p_frac_Div h_frac_Div o_frac_Div x = frac_Div n x := by kernel_rfl
theorem s_frac_Div (n : Nat) : PCalls Go.Proofs.Tryz.prog Θ 30 ⟨h_frac_Div, o_frac_Div, frac_Div n⟩ :=
  func_ok' (C := c_frac_Div n) (n := n) (p := p_frac_Div) (ok_of mixed eqsOk ⟨s_frac_sized n, s_frac_reduced n, s_frac_norm n, s_frac_signed_times n, trivial⟩ trivial trivial) Go.Proofs.Tryz.func30 (by kernel_rfl) (by kernel_rfl) (d_frac_Div n) (by kernel_rfl)

/-- carrefour/delay.Formula -/
def h_delay_Formula : Shape := ⟨slotsOf 3 [(0, .c (.hole (.int .i64))), (1, .c (.hole (.int .i64))), (2, .agg [.hole (.int .i64), .hole (.int .i64)])], [], []⟩
def o_delay_Formula : List (Ex × Shape) := [(.ret, ⟨slotsOf 2 [(0, .agg [.hole (.int .i64), .hole (.int .i64)]), (1, .c (.hole (.int .i64)))], [], []⟩)]
def delay_Formula (n : Nat) (x0 : Int × Int × Int × Int) : Option (Int × Int × Int) :=
  letJ (fun (x2 : Int × Int × Bool × Int × Int × Int × Int) =>
    bif x2.2.2.1 then
      some (0, 0, 1)
    else
    bif decide (x2.2.2.2.2.1 ≤ x2.2.2.2.1) then
      some (0, 0, 150)
    else
    (frac_Of n (wrap64 (x2.1 - x2.2.1), x2.1)).bind fun y4 =>
    (frac_Mul n (y4.1, y4.2.1, y4.1, y4.2.1)).bind fun y5 =>
    (frac_Mul n (y5.1, y5.2.1, x2.1, 1)).bind fun y6 =>
    (frac_Of n (wrap64 (x2.2.2.2.2.1 - x2.2.2.2.1), x2.2.2.2.2.1)).bind fun y7 =>
    bif !(y7.2.2 == 0) then
      some (0, 0, y7.2.2)
    else
    (frac_Mul n (y7.1, y7.2.1, 2, 1)).bind fun y8 =>
    bif !(y8.2.2 == 0) then
      some (0, 0, y8.2.2)
    else
    (frac_Div n (y6.1, y6.2.1, y8.1, y8.2.1)).bind fun y9 =>
    some y9) fun J3 =>
  bif decide (x0.1 < 1) then
    J3 (x0.1, x0.2.1, true, x0.2.2.1, x0.2.2.2, 0, 0)
  else
  bif decide (6000 < x0.1) then
    J3 (x0.1, x0.2.1, true, x0.2.2.1, x0.2.2.2, 0, 0)
  else
  bif decide (x0.2.1 < 0) then
    J3 (x0.1, x0.2.1, true, x0.2.2.1, x0.2.2.2, 0, 0)
  else
  bif decide (x0.1 < x0.2.1) then
    J3 (x0.1, x0.2.1, true, x0.2.2.1, x0.2.2.2, 0, 0)
  else
  (frac_Right n x0.2.2).bind fun y1 =>
  bif !y1 then
    J3 (x0.1, x0.2.1, true, x0.2.2.1, x0.2.2.2, 0, 0)
  else
  J3 (x0.1, x0.2.1, decide (x0.2.2.1 < 0), x0.2.2.1, x0.2.2.2, 0, 0)
def p_delay_Formula : Plan := .two (.leaf) (.two (.two (.join ⟨slotsOf 100 [(0, .c (.hole (.int .i64))), (1, .c (.hole (.int .i64))), (5, .c (.box 5 0)), (6, .c (.box 6 0)), (41, .c (.hole (.bool)))], [(5, 33, [.hole (.int .i64), .hole (.int .i64)]), (6, 33, [.hole (.int .i64), .hole (.int .i64)])], []⟩ (.leaf)) (.leaf)) (.leaf))
noncomputable def c_delay_Formula (n : Nat) : Cx := ⟨Go.Proofs.Tryz.prog, Θ, [33, 23, 78, 128, 163], [(28, ⟨h_frac_Right, o_frac_Right, frac_Right n⟩), (25, ⟨h_frac_Of, o_frac_Of, frac_Of n⟩), (29, ⟨h_frac_Mul, o_frac_Mul, frac_Mul n⟩), (30, ⟨h_frac_Div, o_frac_Div, frac_Div n⟩)], [], []⟩
theorem d_delay_Formula (n : Nat) (x : h_delay_Formula.X T) : denF (c_delay_Formula n) n Go.Proofs.Tryz.f13 p_delay_Formula h_delay_Formula o_delay_Formula x = delay_Formula n x := by kernel_rfl
theorem s_delay_Formula (n : Nat) : PCalls Go.Proofs.Tryz.prog Θ 13 ⟨h_delay_Formula, o_delay_Formula, delay_Formula n⟩ :=
  func_ok' (C := c_delay_Formula n) (n := n) (p := p_delay_Formula) (ok_of mixed eqsOk ⟨s_frac_Right n, s_frac_Of n, s_frac_Mul n, s_frac_Div n, trivial⟩ trivial trivial) Go.Proofs.Tryz.func13 (by kernel_rfl) (by kernel_rfl) (d_delay_Formula n) (by kernel_rfl)

/-- carrefour/queue.Serves -/
def h_queue_Serves : Shape := ⟨slotsOf 1 [(0, .agg [.hole (.int .i64), .hole (.int .i64), .hole (.int .i64), .hole (.int .i64), .hole (.int .i64)])], [], []⟩
def o_queue_Serves : List (Ex × Shape) := [(.ret, ⟨slotsOf 1 [(0, .c (.hole (.bool)))], [], []⟩)]
def queue_Serves (n : Nat) (x0 : Int × Int × Int × Int × Int) : Option (Bool) :=
  (queue_Right n x0).bind fun y1 =>
  bif y1 then
    (circle_Norm n (x0.2.2.2.2, x0.2.2.1, x0.2.2.2.1)).bind fun y2 =>
    some (decide (wrap64 (x0.1 * x0.2.2.2.2) ≤ wrap64 (x0.2.1 * y2.2)))
  else
  some false
def p_queue_Serves : Plan := .leaf
noncomputable def c_queue_Serves (n : Nat) : Cx := ⟨Go.Proofs.Tryz.prog, Θ, [33, 23, 78, 128, 163], [(18, ⟨h_queue_Right, o_queue_Right, queue_Right n⟩), (66, ⟨h_circle_Norm, o_circle_Norm, circle_Norm n⟩)], [], []⟩
theorem d_queue_Serves (n : Nat) (x : h_queue_Serves.X T) : denF (c_queue_Serves n) n Go.Proofs.Tryz.f46 p_queue_Serves h_queue_Serves o_queue_Serves x = queue_Serves n x := by kernel_rfl
theorem s_queue_Serves (n : Nat) : PCalls Go.Proofs.Tryz.prog Θ 46 ⟨h_queue_Serves, o_queue_Serves, queue_Serves n⟩ :=
  func_ok' (C := c_queue_Serves n) (n := n) (p := p_queue_Serves) (ok_of mixed eqsOk ⟨s_queue_Right n, s_circle_Norm n, trivial⟩ trivial trivial) Go.Proofs.Tryz.func46 (by kernel_rfl) (by kernel_rfl) (d_queue_Serves n) (by kernel_rfl)

/-- carrefour/queue.nothing -/
def h_queue_nothing : Shape := ⟨slotsOf 0 [], [], []⟩
def o_queue_nothing : List (Ex × Shape) := [(.ret, ⟨slotsOf 1 [(0, .agg [.hole (.int .i64), .hole (.int .i64), .hole (.int .i64), .hole (.int .i64)])], [], []⟩)]
def queue_nothing (n : Nat) (x0 : Unit) : Option (Int × Int × Int × Int) :=
  some (0, (-2305843009213693952), 0, (-2305843009213693952))
def p_queue_nothing : Plan := .leaf
noncomputable def c_queue_nothing (n : Nat) : Cx := ⟨Go.Proofs.Tryz.prog, Θ, [33, 23, 78, 128, 163], [], [], []⟩
theorem d_queue_nothing (n : Nat) (x : h_queue_nothing.X T) : denF (c_queue_nothing n) n Go.Proofs.Tryz.f107 p_queue_nothing h_queue_nothing o_queue_nothing x = queue_nothing n x := by kernel_rfl
theorem s_queue_nothing (n : Nat) : PCalls Go.Proofs.Tryz.prog Θ 107 ⟨h_queue_nothing, o_queue_nothing, queue_nothing n⟩ :=
  func_ok' (C := c_queue_nothing n) (n := n) (p := p_queue_nothing) (ok_of mixed eqsOk trivial trivial trivial) Go.Proofs.Tryz.func107 (by kernel_rfl) (by kernel_rfl) (d_queue_nothing n) (by kernel_rfl)

/-- carrefour/queue.until -/
def h_queue_until : Shape := ⟨slotsOf 2 [(0, .agg [.hole (.int .i64), .hole (.int .i64), .hole (.int .i64), .hole (.int .i64), .hole (.int .i64)]), (1, .c (.hole (.int .i64)))], [], []⟩
def o_queue_until : List (Ex × Shape) := [(.ret, ⟨slotsOf 2 [(0, .c (.hole (.bool))), (1, .c (.hole (.int .i64)))], [], []⟩)]
def queue_until (n : Nat) (x0 : Int × Int × Int × Int × Int × Int) : Option (Bool × Int) :=
  (circle_Norm n (x0.2.2.2.2.1, x0.2.2.1, x0.2.2.2.1)).bind fun y1 =>
  letJ (fun (x2 : Int × Bool × Int × Int × Int × Int × Int × Int × Int) =>
    let e0 := wrap64 (x2.2.2.2.2.2.2.2.1 + x2.2.2.2.2.2.2.2.2)
    let e1 := wrap64 (x2.2.2.2.2.2.2.1 - x2.1)
    bif x2.2.1 then
      some (decide (0 < x2.2.2.2.2.2.2.2.2), e1)
    else
    (circle_In n (x2.2.2.2.2.2.2.1, x2.2.2.2.2.2.2.2.1, x2.2.2.2.2.2.2.2.2, x2.1)).bind fun y4 =>
    bif y4 then
      letJ (fun (x5 : Int × Int × Bool × Int × Int × Int × Int × Int) =>
        bif x5.2.2.1 then
          some (true, wrap64 ((mn (wrap64 (x5.2.1 - x5.2.2.2.2.2.2.2)) x5.2.2.2.2.2.2.2) - x5.1))
        else
        some (true, wrap64 ((mn x5.2.1 x5.2.2.2.2.2.2.2) - x5.1))) fun J6 =>
      bif decide (x2.2.2.2.2.2.2.1 < e0) then
        J6 (x2.1, e0, decide (x2.1 < wrap64 (e0 - x2.2.2.2.2.2.2.1)), x2.2.2.1, x2.2.2.2.1, x2.2.2.2.2.1, x2.2.2.2.2.2.1, x2.2.2.2.2.2.2.1)
      else
      J6 (x2.1, e0, false, x2.2.2.1, x2.2.2.2.1, x2.2.2.2.2.1, x2.2.2.2.2.2.1, x2.2.2.2.2.2.2.1)
    else
      bif decide (x2.1 < x2.2.2.2.2.2.2.2.1) then
        some (false, wrap64 (x2.2.2.2.2.2.2.2.1 - x2.1))
      else
      some (false, e1)) fun J3 =>
  bif y1.2 == 0 then
    J3 (x0.2.2.2.2.2, true, x0.1, x0.2.1, x0.2.2.1, x0.2.2.2.1, x0.2.2.2.2.1, y1)
  else
  J3 (x0.2.2.2.2.2, y1.2 == x0.2.2.2.2.1, x0.1, x0.2.1, x0.2.2.1, x0.2.2.2.1, x0.2.2.2.2.1, y1)
def p_queue_until : Plan := .two (.leaf) (.two (.leaf) (.two (.one (.two (.join ⟨slotsOf 77 [(1, .c (.hole (.int .i64))), (2, .c (.box 2 0)), (6, .c (.box 6 0)), (13, .c (.hole (.bool)))], [(2, 25, [.hole (.int .i64), .hole (.int .i64), .hole (.int .i64), .hole (.int .i64), .hole (.int .i64)]), (6, 23, [.hole (.int .i64), .hole (.int .i64)])], []⟩ (.leaf)) (.two (.leaf) (.two (.leaf) (.two (.two (.leaf) (.two (.two (.join ⟨slotsOf 77 [(1, .c (.hole (.int .i64))), (2, .c (.box 2 0)), (7, .c (.hole (.int .i64))), (53, .c (.hole (.bool)))], [(2, 25, [.hole (.int .i64), .hole (.int .i64), .hole (.int .i64), .hole (.int .i64), .hole (.int .i64)])], []⟩ (.leaf)) (.leaf)) (.leaf))) (.leaf)))))) (.leaf)))
noncomputable def c_queue_until (n : Nat) : Cx := ⟨Go.Proofs.Tryz.prog, Θ, [33, 23, 78, 128, 163], [(66, ⟨h_circle_Norm, o_circle_Norm, circle_Norm n⟩), (39, ⟨h_circle_In, o_circle_In, circle_In n⟩)], [], []⟩
theorem d_queue_until (n : Nat) (x : h_queue_until.X T) : denF (c_queue_until n) n Go.Proofs.Tryz.f108 p_queue_until h_queue_until o_queue_until x = queue_until n x := by kernel_rfl
theorem s_queue_until (n : Nat) : PCalls Go.Proofs.Tryz.prog Θ 108 ⟨h_queue_until, o_queue_until, queue_until n⟩ :=
  func_ok' (C := c_queue_until n) (n := n) (p := p_queue_until) (ok_of mixed eqsOk ⟨s_circle_Norm n, s_circle_In n, trivial⟩ trivial trivial) Go.Proofs.Tryz.func108 (by kernel_rfl) (by kernel_rfl) (d_queue_until n) (by kernel_rfl)

/-- carrefour/queue.tick -/
def h_queue_tick : Shape := ⟨slotsOf 2 [(0, .c (.hole (.int .i64))), (1, .c (.hole (.int .i64)))], [], []⟩
def o_queue_tick : List (Ex × Shape) := [(.ret, ⟨slotsOf 1 [(0, .agg [.hole (.int .i64), .hole (.int .i64), .hole (.int .i64), .hole (.int .i64)])], [], []⟩)]
def queue_tick (n : Nat) (x0 : Int × Int) : Option (Int × Int × Int × Int) :=
  let e0 := wrap64 (x0.1 - x0.2)
  let e1 := mx 0 e0
  bif decide (0 < x0.2) then
    some (e0, 0, e1, 0)
  else
  some (e0, (-2305843009213693952), e1, (-2305843009213693952))
def p_queue_tick : Plan := .leaf
noncomputable def c_queue_tick (n : Nat) : Cx := ⟨Go.Proofs.Tryz.prog, Θ, [33, 23, 78, 128, 163], [], [], []⟩
theorem d_queue_tick (n : Nat) (x : h_queue_tick.X T) : denF (c_queue_tick n) n Go.Proofs.Tryz.f125 p_queue_tick h_queue_tick o_queue_tick x = queue_tick n x := by kernel_rfl
theorem s_queue_tick (n : Nat) : PCalls Go.Proofs.Tryz.prog Θ 125 ⟨h_queue_tick, o_queue_tick, queue_tick n⟩ :=
  func_ok' (C := c_queue_tick n) (n := n) (p := p_queue_tick) (ok_of mixed eqsOk trivial trivial trivial) Go.Proofs.Tryz.func125 (by kernel_rfl) (by kernel_rfl) (d_queue_tick n) (by kernel_rfl)

/-- (carrefour/queue.effect).then -/
def h_queue_effect_then : Shape := ⟨slotsOf 2 [(0, .agg [.hole (.int .i64), .hole (.int .i64), .hole (.int .i64), .hole (.int .i64)]), (1, .agg [.hole (.int .i64), .hole (.int .i64), .hole (.int .i64), .hole (.int .i64)])], [], []⟩
def o_queue_effect_then : List (Ex × Shape) := [(.ret, ⟨slotsOf 1 [(0, .agg [.hole (.int .i64), .hole (.int .i64), .hole (.int .i64), .hole (.int .i64)])], [], []⟩)]
def queue_effect_then (n : Nat) (x0 : Int × Int × Int × Int × Int × Int × Int × Int) : Option (Int × Int × Int × Int) :=
  some (wrap64 (x0.1 + x0.2.2.2.2.1), mx (wrap64 (x0.2.1 + x0.2.2.2.2.1)) x0.2.2.2.2.2.1, mx x0.2.2.1 (wrap64 (x0.1 + x0.2.2.2.2.2.2.1)), mx (mx x0.2.2.2.1 (wrap64 (x0.2.1 + x0.2.2.2.2.2.2.1))) x0.2.2.2.2.2.2.2)
def p_queue_effect_then : Plan := .leaf
noncomputable def c_queue_effect_then (n : Nat) : Cx := ⟨Go.Proofs.Tryz.prog, Θ, [33, 23, 78, 128, 163], [], [], []⟩
theorem d_queue_effect_then (n : Nat) (x : h_queue_effect_then.X T) : denF (c_queue_effect_then n) n Go.Proofs.Tryz.f79 p_queue_effect_then h_queue_effect_then o_queue_effect_then x = queue_effect_then n x := by kernel_rfl
theorem s_queue_effect_then (n : Nat) : PCalls Go.Proofs.Tryz.prog Θ 79 ⟨h_queue_effect_then, o_queue_effect_then, queue_effect_then n⟩ :=
  func_ok' (C := c_queue_effect_then n) (n := n) (p := p_queue_effect_then) (ok_of mixed eqsOk trivial trivial trivial) Go.Proofs.Tryz.func79 (by kernel_rfl) (by kernel_rfl) (d_queue_effect_then n) (by kernel_rfl)

/-- (carrefour/queue.effect).times -/
def h_queue_effect_times : Shape := ⟨slotsOf 2 [(0, .agg [.hole (.int .i64), .hole (.int .i64), .hole (.int .i64), .hole (.int .i64)]), (1, .c (.hole (.int .i64)))], [], []⟩
def o_queue_effect_times : List (Ex × Shape) := [(.ret, ⟨slotsOf 1 [(0, .agg [.hole (.int .i64), .hole (.int .i64), .hole (.int .i64), .hole (.int .i64)])], [], []⟩)]
def queue_effect_times (n : Nat) (x0 : Int × Int × Int × Int × Int) : Option (Int × Int × Int × Int) :=
  (queue_nothing n ()).bind fun y1 =>
  (iterL (Y := (Int × Int × Int × Int × Int × Int × Int × Int)) n (fun (x2 : Int × Int × Int × Int × Int × Int × Int × Int × Int × Int × Int × Int × Int) =>
    bif decide (0 < x2.1) then
      letJ (fun (x4 : Int × Int × Int × Int × Int × Int × Int × Int × Int × Int × Int × Int × Int) =>
        (queue_effect_then n (x4.2.1, x4.2.2.1, x4.2.2.2.1, x4.2.2.2.2.1, x4.2.1, x4.2.2.1, x4.2.2.2.1, x4.2.2.2.2.1)).bind fun y6 =>
        bif decide (0 ≤ 1) then
          some (.inl (shr .i64 x4.1 1, y6.1, y6.2.1, y6.2.2.1, y6.2.2.2, x4.2.2.2.2.2))
        else
        none) fun J5 =>
      bif (bits2 .and .i64 x2.1 1) == 1 then
        (queue_effect_then n (x2.2.2.2.2.2.2.2.2.2.1, x2.2.2.2.2.2.2.2.2.2.2.1, x2.2.2.2.2.2.2.2.2.2.2.2.1, x2.2.2.2.2.2.2.2.2.2.2.2.2, x2.2.1, x2.2.2.1, x2.2.2.2.1, x2.2.2.2.2.1)).bind fun y3 =>
        J5 (x2.1, x2.2.1, x2.2.2.1, x2.2.2.2.1, x2.2.2.2.2.1, x2.2.2.2.2.2.1, x2.2.2.2.2.2.2.1, x2.2.2.2.2.2.2.2.1, x2.2.2.2.2.2.2.2.2.1, y3)
      else
      J5 x2
    else
    some (.inr x2.2.2.2.2.2)) (x0.2.2.2.2, x0.1, x0.2.1, x0.2.2.1, x0.2.2.2.1, 0, 0, 0, 0, y1)).bind fun (z7 : Int × Int × Int × Int × Int × Int × Int × Int) =>
    some z7.2.2.2.2
def p_queue_effect_times : Plan := .two (.leaf) (.two (.leaf) (.two (.one (.loop ⟨slotsOf 21 [(1, .c (.hole (.int .i64))), (2, .c (.box 2 0)), (4, .c (.box 4 0)), (5, .c (.box 5 0))], [(2, 73, [.hole (.int .i64), .hole (.int .i64), .hole (.int .i64), .hole (.int .i64)]), (4, 73, [.hole (.int .i64), .hole (.int .i64), .hole (.int .i64), .hole (.int .i64)]), (5, 73, [.hole (.int .i64), .hole (.int .i64), .hole (.int .i64), .hole (.int .i64)])], []⟩ [(.exit 0, ⟨slotsOf 21 [(4, .c (.box 4 0)), (5, .c (.box 5 0))], [(4, 73, [.hole (.int .i64), .hole (.int .i64), .hole (.int .i64), .hole (.int .i64)]), (5, 73, [.hole (.int .i64), .hole (.int .i64), .hole (.int .i64), .hole (.int .i64)])], []⟩)] (.two (.leaf) (.two (.one (.two (.join ⟨slotsOf 21 [(1, .c (.hole (.int .i64))), (2, .c (.box 2 0)), (4, .c (.box 4 0)), (5, .c (.box 5 0))], [(2, 73, [.hole (.int .i64), .hole (.int .i64), .hole (.int .i64), .hole (.int .i64)]), (4, 73, [.hole (.int .i64), .hole (.int .i64), .hole (.int .i64), .hole (.int .i64)]), (5, 73, [.hole (.int .i64), .hole (.int .i64), .hole (.int .i64), .hole (.int .i64)])], []⟩ (.leaf)) (.leaf))) (.leaf))))) (.leaf)))
noncomputable def c_queue_effect_times (n : Nat) : Cx := ⟨Go.Proofs.Tryz.prog, Θ, [33, 23, 78, 128, 163], [(107, ⟨h_queue_nothing, o_queue_nothing, queue_nothing n⟩), (79, ⟨h_queue_effect_then, o_queue_effect_then, queue_effect_then n⟩)], [], []⟩
theorem d_queue_effect_times (n : Nat) (x : h_queue_effect_times.X T) : denF (c_queue_effect_times n) n Go.Proofs.Tryz.f80 p_queue_effect_times h_queue_effect_times o_queue_effect_times x = queue_effect_times n x := by kernel_rfl
theorem s_queue_effect_times (n : Nat) : PCalls Go.Proofs.Tryz.prog Θ 80 ⟨h_queue_effect_times, o_queue_effect_times, queue_effect_times n⟩ :=
  func_ok' (C := c_queue_effect_times n) (n := n) (p := p_queue_effect_times) (ok_of mixed eqsOk ⟨s_queue_nothing n, s_queue_effect_then n, trivial⟩ trivial trivial) Go.Proofs.Tryz.func80 (by kernel_rfl) (by kernel_rfl) (d_queue_effect_times n) (by kernel_rfl)

end Go.Proofs.YtiildimlelphhaaGreatDoor.Fn
