/- Functions of the program, each as a plain function, and that the machine does what it says. -/
import Derived.Test.YtiildimlelphhaaGreatDoorFnT2
namespace Go.Proofs.YtiildimlelphhaaGreatDoor.Fn
set_option linter.unusedVariables false
set_option maxRecDepth 100000
open Go Go.RowKit Go.Den
/-- carrefour/carrefourref25.Serves -/
def h_ref25_Serves : Shape := ⟨slotsOf 1 [(0, .agg [.hole (.int .i64), .hole (.int .i64), .hole (.int .i64), .hole (.int .i64), .hole (.int .i64)])], [], []⟩
def o_ref25_Serves : List (Ex × Shape) := [(.ret, ⟨slotsOf 1 [(0, .c (.hole (.bool)))], [], []⟩)]
def ref25_Serves (n : Nat) (x0 : Int × Int × Int × Int × Int) : Option (Bool) :=
  (ref25_Right n x0).bind fun y1 =>
  bif !y1 then
    some false
  else
  (iterL (Y := (Int × Int)) n (fun (x2 : Int × Int × Int × Int × Int × Int × Int × Int) =>
    let e0 := wrap64 (x2.1 + x2.2.2.2.1)
    bif decide (x2.2.2.1 < x2.2.2.2.2.2.2.2) then
      (ref03_In n (x2.2.2.2.2.2.2.2, x2.2.2.2.2.2.1, x2.2.2.2.2.2.2.1, x2.2.2.1)).bind fun y3 =>
      bif y3 then
        some (.inl (e0, wrap64 (x2.2.1 + x2.2.2.2.2.1), wrap64 (x2.2.2.1 + 1), x2.2.2.2))
      else
      some (.inl (e0, x2.2.1, wrap64 (x2.2.2.1 + 1), x2.2.2.2))
    else
    some (.inr (x2.1, x2.2.1))) (0, 0, 0, x0)).bind fun (z4 : Int × Int) =>
    some (decide (z4.1 ≤ z4.2))
def p_ref25_Serves : Plan := .two (.leaf) (.two (.leaf) (.two (.leaf) (.two (.two (.leaf) (.one (.loop ⟨slotsOf 32 [(1, .c (.box 1 0)), (3, .c (.hole (.int .i64))), (4, .c (.hole (.int .i64))), (5, .c (.hole (.int .i64)))], [(1, 25, [.hole (.int .i64), .hole (.int .i64), .hole (.int .i64), .hole (.int .i64), .hole (.int .i64)])], []⟩ [(.exit 0, ⟨slotsOf 32 [(3, .c (.hole (.int .i64))), (4, .c (.hole (.int .i64)))], [], []⟩)] (.leaf)))) (.leaf))))
noncomputable def c_ref25_Serves (n : Nat) : Cx := ⟨Go.Proofs.Tryz.prog, Θ, [33, 23, 78, 128, 163], [(22, ⟨h_ref25_Right, o_ref25_Right, ref25_Right n⟩), (45, ⟨h_ref03_In, o_ref03_In, ref03_In n⟩)], [], []⟩
theorem d_ref25_Serves (n : Nat) (x : h_ref25_Serves.X T) : denF (c_ref25_Serves n) n Go.Proofs.Tryz.f50 p_ref25_Serves h_ref25_Serves o_ref25_Serves x = ref25_Serves n x := by kernel_rfl
theorem s_ref25_Serves (n : Nat) : PCalls Go.Proofs.Tryz.prog Θ 50 ⟨h_ref25_Serves, o_ref25_Serves, ref25_Serves n⟩ :=
  func_ok' (C := c_ref25_Serves n) (n := n) (p := p_ref25_Serves) (ok_of mixed eqsOk ⟨s_ref25_Right n, s_ref03_In n, trivial⟩ trivial trivial) Go.Proofs.Tryz.func50 (by kernel_rfl) (by kernel_rfl) (d_ref25_Serves n) (by kernel_rfl)

/-- carrefour/carrefourref25.Steady -/
def h_ref25_Steady : Shape := ⟨slotsOf 1 [(0, .agg [.hole (.int .i64), .hole (.int .i64), .hole (.int .i64), .hole (.int .i64), .hole (.int .i64)])], [], []⟩
def o_ref25_Steady : List (Ex × Shape) := [(.ret, ⟨slotsOf 2 [(0, .c (.hole (.int .i64))), (1, .c (.hole (.bool)))], [], []⟩)]
def ref25_Steady (n : Nat) (x0 : Int × Int × Int × Int × Int) : Option (Int × Bool) :=
  (ref25_Serves n x0).bind fun y1 =>
  bif !y1 then
    some (0, false)
  else
  (iterL (Y := (Int × Bool) ⊕ (Unit)) n (fun (x2 : Int × Int × Int × Int × Int × Int × Int) =>
    bif decide (x2.2.1 ≤ wrap64 (x2.2.2.2.2.2.2 + 1)) then
      (ref25_After n (x2.2.2.1, x2.2.2.2.1, x2.2.2.2.2.1, x2.2.2.2.2.2.1, x2.2.2.2.2.2.2, x2.1, 0, x2.2.2.2.2.2.2)).bind fun y3 =>
      bif y3.1 == x2.1 then
        some (.inr (.inl (x2.1, true)))
      else
      some (.inl (y3.1, wrap64 (x2.2.1 + 1), x2.2.2))
    else
    some (.inr (.inr ()))) (0, 0, x0)).bind (Sum.elim (fun (z4 : Int × Bool) =>
    some z4) (fun (z5 : Unit) =>
    some (0, false)))
def p_ref25_Steady : Plan := .two (.leaf) (.two (.leaf) (.two (.leaf) (.two (.two (.leaf) (.one (.loop ⟨slotsOf 31 [(1, .c (.box 1 0)), (4, .c (.hole (.int .i64))), (5, .c (.hole (.int .i64)))], [(1, 25, [.hole (.int .i64), .hole (.int .i64), .hole (.int .i64), .hole (.int .i64), .hole (.int .i64)])], []⟩ [(.ret, ⟨slotsOf 31 [(2, .c (.hole (.int .i64))), (3, .c (.hole (.bool)))], [], []⟩), (.exit 0, ⟨slotsOf 31 [], [], []⟩)] (.leaf)))) (.leaf))))
noncomputable def c_ref25_Steady (n : Nat) : Cx := ⟨Go.Proofs.Tryz.prog, Θ, [33, 23, 78, 128, 163], [(15, ⟨h_ref25_After, o_ref25_After, ref25_After n⟩), (50, ⟨h_ref25_Serves, o_ref25_Serves, ref25_Serves n⟩)], [], []⟩
theorem d_ref25_Steady (n : Nat) (x : h_ref25_Steady.X T) : denF (c_ref25_Steady n) n Go.Proofs.Tryz.f26 p_ref25_Steady h_ref25_Steady o_ref25_Steady x = ref25_Steady n x := by kernel_rfl
theorem s_ref25_Steady (n : Nat) : PCalls Go.Proofs.Tryz.prog Θ 26 ⟨h_ref25_Steady, o_ref25_Steady, ref25_Steady n⟩ :=
  func_ok' (C := c_ref25_Steady n) (n := n) (p := p_ref25_Steady) (ok_of mixed eqsOk ⟨s_ref25_After n, s_ref25_Serves n, trivial⟩ trivial trivial) Go.Proofs.Tryz.func26 (by kernel_rfl) (by kernel_rfl) (d_ref25_Steady n) (by kernel_rfl)

/-- carrefour/carrefourref01.Size -/
def h_ref01_Size : Shape := ⟨slotsOf 1 [(0, .c (.hole (.int .i64)))], [], []⟩
def o_ref01_Size : List (Ex × Shape) := [(.ret, ⟨slotsOf 1 [(0, .c (.hole (.int .u64)))], [], []⟩)]
def ref01_Size (n : Nat) (x0 : Int) : Option (Int) :=
  let e0 := IntKind.wrap .u64 x0
  bif decide (x0 < 0) then
    some (IntKind.wrap .u64 (0 - e0))
  else
  some e0
def p_ref01_Size : Plan := .leaf
noncomputable def c_ref01_Size (n : Nat) : Cx := ⟨Go.Proofs.Tryz.prog, Θ, [33, 23, 78, 128, 163], [], [], []⟩
theorem d_ref01_Size (n : Nat) (x : h_ref01_Size.X T) : denF (c_ref01_Size n) n Go.Proofs.Tryz.f51 p_ref01_Size h_ref01_Size o_ref01_Size x = ref01_Size n x := by kernel_rfl
theorem s_ref01_Size (n : Nat) : PCalls Go.Proofs.Tryz.prog Θ 51 ⟨h_ref01_Size, o_ref01_Size, ref01_Size n⟩ :=
  func_ok' (C := c_ref01_Size n) (n := n) (p := p_ref01_Size) (ok_of mixed eqsOk trivial trivial trivial) Go.Proofs.Tryz.func51 (by kernel_rfl) (by kernel_rfl) (d_ref01_Size n) (by kernel_rfl)

/-- carrefour/carrefourref02.gcd -/
def h_ref02_gcd : Shape := ⟨slotsOf 2 [(0, .c (.hole (.int .u64))), (1, .c (.hole (.int .u64)))], [], []⟩
def o_ref02_gcd : List (Ex × Shape) := [(.ret, ⟨slotsOf 1 [(0, .c (.hole (.int .u64)))], [], []⟩)]
def ref02_gcd (n : Nat) (x0 : Int × Int) : Option (Int) :=
  (iterL (Y := (Int)) n (fun (x1 : Int × Int) =>
    bif !(x1.2 == 0) then
      bif !(x1.2 == 0) then
        some (.inl (x1.2, Int.tmod x1.1 x1.2))
      else
      none
    else
    some (.inr x1.1)) x0).bind fun (z2 : Int) =>
    some z2
def p_ref02_gcd : Plan := .two (.leaf) (.two (.one (.loop ⟨slotsOf 14 [(0, .c (.hole (.int .u64))), (1, .c (.hole (.int .u64)))], [], []⟩ [(.exit 0, ⟨slotsOf 14 [(0, .c (.hole (.int .u64)))], [], []⟩)] (.leaf))) (.leaf))
noncomputable def c_ref02_gcd (n : Nat) : Cx := ⟨Go.Proofs.Tryz.prog, Θ, [33, 23, 78, 128, 163], [], [], []⟩
theorem d_ref02_gcd (n : Nat) (x : h_ref02_gcd.X T) : denF (c_ref02_gcd n) n Go.Proofs.Tryz.f52 p_ref02_gcd h_ref02_gcd o_ref02_gcd x = ref02_gcd n x := by kernel_rfl
theorem s_ref02_gcd (n : Nat) : PCalls Go.Proofs.Tryz.prog Θ 52 ⟨h_ref02_gcd, o_ref02_gcd, ref02_gcd n⟩ :=
  func_ok' (C := c_ref02_gcd n) (n := n) (p := p_ref02_gcd) (ok_of mixed eqsOk trivial trivial trivial) Go.Proofs.Tryz.func52 (by kernel_rfl) (by kernel_rfl) (d_ref02_gcd n) (by kernel_rfl)

/-- carrefour/carrefourref01.Signed -/
def h_ref01_Signed : Shape := ⟨slotsOf 2 [(0, .c (.hole (.int .u64))), (1, .c (.hole (.bool)))], [], []⟩
def o_ref01_Signed : List (Ex × Shape) := [(.ret, ⟨slotsOf 2 [(0, .c (.hole (.int .i64))), (1, .c (.hole (.int .i64)))], [], []⟩)]
def ref01_Signed (n : Nat) (x0 : Int × Bool) : Option (Int × Int) :=
  letJ (fun (x1 : Int × Bool × Bool) =>
    let e0 := wrap64 x1.1
    bif x1.2.2 then
      some ((-9223372036854775808), 0)
    else
    bif decide (9223372036854775807 < x1.1) then
      some (0, 2)
    else
    bif x1.2.1 then
      some (wrap64 (0 - e0), 0)
    else
    some (e0, 0)) fun J2 =>
  bif x0.1 == 9223372036854775808 then
    J2 (x0.1, x0.2, x0.2)
  else
  J2 (x0.1, x0.2, false)
def p_ref01_Signed : Plan := .two (.leaf) (.two (.two (.join ⟨slotsOf 19 [(0, .c (.hole (.int .u64))), (1, .c (.hole (.bool))), (10, .c (.hole (.bool)))], [], []⟩ (.leaf)) (.leaf)) (.leaf))
noncomputable def c_ref01_Signed (n : Nat) : Cx := ⟨Go.Proofs.Tryz.prog, Θ, [33, 23, 78, 128, 163], [], [], []⟩
theorem d_ref01_Signed (n : Nat) (x : h_ref01_Signed.X T) : denF (c_ref01_Signed n) n Go.Proofs.Tryz.f84 p_ref01_Signed h_ref01_Signed o_ref01_Signed x = ref01_Signed n x := by kernel_rfl
theorem s_ref01_Signed (n : Nat) : PCalls Go.Proofs.Tryz.prog Θ 84 ⟨h_ref01_Signed, o_ref01_Signed, ref01_Signed n⟩ :=
  func_ok' (C := c_ref01_Signed n) (n := n) (p := p_ref01_Signed) (ok_of mixed eqsOk trivial trivial trivial) Go.Proofs.Tryz.func84 (by kernel_rfl) (by kernel_rfl) (d_ref01_Signed n) (by kernel_rfl)

/-- carrefour/carrefourref02.made -/
def h_ref02_made : Shape := ⟨slotsOf 3 [(0, .c (.hole (.int .u64))), (1, .c (.hole (.int .u64))), (2, .c (.hole (.bool)))], [], []⟩
def o_ref02_made : List (Ex × Shape) := [(.ret, ⟨slotsOf 2 [(0, .agg [.hole (.int .i64), .hole (.int .i64)]), (1, .c (.hole (.int .i64)))], [], []⟩)]
def ref02_made (n : Nat) (x0 : Int × Int × Bool) : Option (Int × Int × Int) :=
  (ref01_Signed n (x0.1, x0.2.2)).bind fun y1 =>
  (ref01_Signed n (x0.2.1, false)).bind fun y2 =>
  letJ (fun (x3 : Int × Int × Bool × Int × Int) =>
    bif x3.2.2.1 then
      some (0, 0, 2)
    else
    some (x3.1, x3.2.1, 0)) fun J4 =>
  bif !(y1.2 == 0) then
    J4 (y1.1, y2.1, true, 0, 0)
  else
  J4 (y1.1, y2.1, !(y2.2 == 0), 0, 0)
def p_ref02_made : Plan := .two (.leaf) (.two (.leaf) (.two (.leaf) (.two (.two (.join ⟨slotsOf 33 [(6, .c (.box 6 0)), (8, .c (.hole (.int .i64))), (10, .c (.hole (.int .i64))), (28, .c (.hole (.bool)))], [(6, 33, [.hole (.int .i64), .hole (.int .i64)])], []⟩ (.leaf)) (.leaf)) (.leaf))))
noncomputable def c_ref02_made (n : Nat) : Cx := ⟨Go.Proofs.Tryz.prog, Θ, [33, 23, 78, 128, 163], [(84, ⟨h_ref01_Signed, o_ref01_Signed, ref01_Signed n⟩)], [], []⟩
theorem d_ref02_made (n : Nat) (x : h_ref02_made.X T) : denF (c_ref02_made n) n Go.Proofs.Tryz.f53 p_ref02_made h_ref02_made o_ref02_made x = ref02_made n x := by kernel_rfl
theorem s_ref02_made (n : Nat) : PCalls Go.Proofs.Tryz.prog Θ 53 ⟨h_ref02_made, o_ref02_made, ref02_made n⟩ :=
  func_ok' (C := c_ref02_made n) (n := n) (p := p_ref02_made) (ok_of mixed eqsOk ⟨s_ref01_Signed n, trivial⟩ trivial trivial) Go.Proofs.Tryz.func53 (by kernel_rfl) (by kernel_rfl) (d_ref02_made n) (by kernel_rfl)

/-- carrefour/carrefourref02.Of -/
def h_ref02_Of : Shape := ⟨slotsOf 2 [(0, .c (.hole (.int .i64))), (1, .c (.hole (.int .i64)))], [], []⟩
def o_ref02_Of : List (Ex × Shape) := [(.ret, ⟨slotsOf 2 [(0, .agg [.hole (.int .i64), .hole (.int .i64)]), (1, .c (.hole (.int .i64)))], [], []⟩)]
def ref02_Of (n : Nat) (x0 : Int × Int) : Option (Int × Int × Int) :=
  bif x0.2 == 0 then
    some (0, 0, 3)
  else
  (ref01_Size n x0.1).bind fun y1 =>
  (ref01_Size n x0.2).bind fun y2 =>
  (ref02_gcd n (y1, y2)).bind fun y3 =>
  let e0 := IntKind.wrap .u64 (Int.tdiv y1 y3)
  let e1 := IntKind.wrap .u64 (Int.tdiv y2 y3)
  bif !(y3 == 0) then
    bif !(y3 == 0) then
      bif !(x0.1 == 0) then
        (ref02_made n (e0, e1, !((decide (x0.1 < 0)) == (decide (x0.2 < 0))))).bind fun y4 =>
        some y4
      else
        (ref02_made n (e0, e1, false)).bind fun y5 =>
        some y5
    else
    none
  else
  none
def p_ref02_Of : Plan := .leaf
noncomputable def c_ref02_Of (n : Nat) : Cx := ⟨Go.Proofs.Tryz.prog, Θ, [33, 23, 78, 128, 163], [(51, ⟨h_ref01_Size, o_ref01_Size, ref01_Size n⟩), (52, ⟨h_ref02_gcd, o_ref02_gcd, ref02_gcd n⟩), (53, ⟨h_ref02_made, o_ref02_made, ref02_made n⟩)], [], []⟩
theorem d_ref02_Of (n : Nat) (x : h_ref02_Of.X T) : denF (c_ref02_Of n) n Go.Proofs.Tryz.f27 p_ref02_Of h_ref02_Of o_ref02_Of x = ref02_Of n x := by kernel_rfl
theorem s_ref02_Of (n : Nat) : PCalls Go.Proofs.Tryz.prog Θ 27 ⟨h_ref02_Of, o_ref02_Of, ref02_Of n⟩ :=
  func_ok' (C := c_ref02_Of n) (n := n) (p := p_ref02_Of) (ok_of mixed eqsOk ⟨s_ref01_Size n, s_ref02_gcd n, s_ref02_made n, trivial⟩ trivial trivial) Go.Proofs.Tryz.func27 (by kernel_rfl) (by kernel_rfl) (d_ref02_Of n) (by kernel_rfl)

/-- carrefour/carrefourref26.Mean -/
def h_ref26_Mean : Shape := ⟨slotsOf 1 [(0, .agg [.hole (.int .i64), .hole (.int .i64), .hole (.int .i64), .hole (.int .i64), .hole (.int .i64)])], [], []⟩
def o_ref26_Mean : List (Ex × Shape) := [(.ret, ⟨slotsOf 2 [(0, .agg [.hole (.int .i64), .hole (.int .i64)]), (1, .c (.hole (.int .i64)))], [], []⟩)]
def ref26_Mean (n : Nat) (x0 : Int × Int × Int × Int × Int) : Option (Int × Int × Int) :=
  (ref25_Right n x0).bind fun y1 =>
  bif !y1 then
    some (0, 0, 1)
  else
  (ref25_Steady n x0).bind fun y2 =>
  letJ (fun (x3 : Int × Bool × Int × Int × Int × Int × Int × Int × Int) =>
    bif x3.2.1 then
      some (0, 0, 150)
    else
    (ref26_Total n (x3.2.2.1, x3.2.2.2.1, x3.2.2.2.2.1, x3.2.2.2.2.2.1, x3.2.2.2.2.2.2.1, x3.1, 0, x3.2.2.2.2.2.2.1)).bind fun y5 =>
    bif !(y5.2 == 0) then
      some (0, 0, y5.2)
    else
    (ref02_Of n (y5.1, wrap64 (x3.2.2.1 * x3.2.2.2.2.2.2.1))).bind fun y6 =>
    some y6) fun J4 =>
  bif !y2.2 then
    J4 (y2.1, true, x0.1, x0.2.1, x0.2.2.1, x0.2.2.2.1, x0.2.2.2.2, 0, 0)
  else
  J4 (y2.1, x0.1 == 0, x0.1, x0.2.1, x0.2.2.1, x0.2.2.2.1, x0.2.2.2.2, 0, 0)
def p_ref26_Mean : Plan := .two (.leaf) (.two (.leaf) (.two (.leaf) (.two (.two (.join ⟨slotsOf 46 [(1, .c (.box 1 0)), (2, .c (.box 2 0)), (4, .c (.hole (.int .i64))), (23, .c (.hole (.bool)))], [(1, 25, [.hole (.int .i64), .hole (.int .i64), .hole (.int .i64), .hole (.int .i64), .hole (.int .i64)]), (2, 33, [.hole (.int .i64), .hole (.int .i64)])], []⟩ (.leaf)) (.leaf)) (.leaf))))
noncomputable def c_ref26_Mean (n : Nat) : Cx := ⟨Go.Proofs.Tryz.prog, Θ, [33, 23, 78, 128, 163], [(22, ⟨h_ref25_Right, o_ref25_Right, ref25_Right n⟩), (9, ⟨h_ref26_Total, o_ref26_Total, ref26_Total n⟩), (26, ⟨h_ref25_Steady, o_ref25_Steady, ref25_Steady n⟩), (27, ⟨h_ref02_Of, o_ref02_Of, ref02_Of n⟩)], [], []⟩
theorem d_ref26_Mean (n : Nat) (x : h_ref26_Mean.X T) : denF (c_ref26_Mean n) n Go.Proofs.Tryz.f12 p_ref26_Mean h_ref26_Mean o_ref26_Mean x = ref26_Mean n x := by kernel_rfl
theorem s_ref26_Mean (n : Nat) : PCalls Go.Proofs.Tryz.prog Θ 12 ⟨h_ref26_Mean, o_ref26_Mean, ref26_Mean n⟩ :=
  func_ok' (C := c_ref26_Mean n) (n := n) (p := p_ref26_Mean) (ok_of mixed eqsOk ⟨s_ref25_Right n, s_ref26_Total n, s_ref25_Steady n, s_ref02_Of n, trivial⟩ trivial trivial) Go.Proofs.Tryz.func12 (by kernel_rfl) (by kernel_rfl) (d_ref26_Mean n) (by kernel_rfl)

/-- carrefour/carrefourlaw26.DelayMean -/
def h_law26_DelayMean : Shape := ⟨slotsOf 1 [(0, .agg [.hole (.int .i64), .hole (.int .i64), .hole (.int .i64), .hole (.int .i64), .hole (.int .i64)])], [], []⟩
def o_law26_DelayMean : List (Ex × Shape) := [(.ret, ⟨slotsOf 1 [(0, .c (.hole (.bool)))], [], []⟩)]
noncomputable def law26_DelayMean (n : Nat) (x0 : Int × Int × Int × Int × Int) : Option (Bool) :=
  letJ (fun (x1 : Bool × Int × Int × Int × Int × Int) =>
    bif x1.1 then
      some true
    else
    (delay_Mean n x1.2).bind fun y3 =>
    (ref26_Mean n x1.2).bind fun y4 =>
    bif (y3.1 == y4.1) && ((y3.2.1 == y4.2.1) && true) then
      bif y3.2.2 == y4.2.2 then
        (law26_awake n ()).bind fun y5 =>
        some y5
      else
      some false
    else
    some false) fun J2 =>
  bif decide (120 < x0.2.2.2.2) then
    J2 (decide (x0.2.2.2.2 ≤ 6000), x0)
  else
  J2 (false, x0)
def p_law26_DelayMean : Plan := .two (.leaf) (.two (.two (.join ⟨slotsOf 36 [(1, .c (.box 1 0)), (14, .c (.hole (.bool)))], [(1, 25, [.hole (.int .i64), .hole (.int .i64), .hole (.int .i64), .hole (.int .i64), .hole (.int .i64)])], []⟩ (.leaf)) (.leaf)) (.leaf))
noncomputable def c_law26_DelayMean (n : Nat) : Cx := ⟨Go.Proofs.Tryz.prog, Θ, [33, 23, 78, 128, 163], [(11, ⟨h_delay_Mean, o_delay_Mean, delay_Mean n⟩), (10, ⟨h_law26_awake, o_law26_awake, law26_awake n⟩), (12, ⟨h_ref26_Mean, o_ref26_Mean, ref26_Mean n⟩)], [], []⟩
theorem d_law26_DelayMean (n : Nat) (x : h_law26_DelayMean.X T) : denF (c_law26_DelayMean n) n Go.Proofs.Tryz.f4 p_law26_DelayMean h_law26_DelayMean o_law26_DelayMean x = law26_DelayMean n x := by kernel_rfl
theorem s_law26_DelayMean (n : Nat) : PCalls Go.Proofs.Tryz.prog Θ 4 ⟨h_law26_DelayMean, o_law26_DelayMean, law26_DelayMean n⟩ :=
  func_ok' (C := c_law26_DelayMean n) (n := n) (p := p_law26_DelayMean) (ok_of mixed eqsOk ⟨s_delay_Mean n, s_law26_awake n, s_ref26_Mean n, trivial⟩ trivial trivial) Go.Proofs.Tryz.func4 (by kernel_rfl) (by kernel_rfl) (d_law26_DelayMean n) (by kernel_rfl)

end Go.Proofs.YtiildimlelphhaaGreatDoor.Fn
