/- Functions of the program, each as a plain function, and that the machine does what it says. -/
import Derived.Test.YthkcpgiibmajhaaTab
namespace Go.Proofs.Ythkcpgiibmajhaa.Fn
set_option linter.unusedVariables false
open Go Go.RowKit Go.Den
def p2 : List PD := []
def r2 : List PD := []
/-- gosem.cut.init -/
def f2 (n : Nat) (x0 : Unit) : Option (Unit) :=
  none
def plan2 : Plan := .leaf
noncomputable def c2 (n : Nat) : Cx := ⟨Go.Proofs.Try.prog, Θ, [], []⟩
theorem d2 (n : Nat) (x : Unit) : denF (c2 n) n Go.Proofs.Try.f2 plan2 p2 r2 x = f2 n x := by kernel_rfl
theorem s2 (n : Nat) : PCalls Go.Proofs.Try.prog Θ 2 ⟨p2, r2, f2 n⟩ :=
  func_ok' (C := c2 n) (n := n) (p := plan2) (ok_of mixed eqsOk trivial) Go.Proofs.Try.func2 (by kernel_rfl) (d2 n) (by kernel_rfl)
def p35 : List PD := []
def r35 : List PD := [.agg [.int .i64, .int .i64, .int .i64, .int .i64]]
/-- carrefour/queue.nothing -/
def f35 (n : Nat) (x0 : Unit) : Option (Int × Int × Int × Int) :=
  some (0, (-2305843009213693952), 0, (-2305843009213693952))
def plan35 : Plan := .leaf
noncomputable def c35 (n : Nat) : Cx := ⟨Go.Proofs.Try.prog, Θ, [], []⟩
theorem d35 (n : Nat) (x : Unit) : denF (c35 n) n Go.Proofs.Try.f35 plan35 p35 r35 x = f35 n x := by kernel_rfl
theorem s35 (n : Nat) : PCalls Go.Proofs.Try.prog Θ 35 ⟨p35, r35, f35 n⟩ :=
  func_ok' (C := c35 n) (n := n) (p := plan35) (ok_of mixed eqsOk trivial) Go.Proofs.Try.func35 (by kernel_rfl) (d35 n) (by kernel_rfl)
def p38 : List PD := [.one (.int .i64), .one (.int .i64)]
def r38 : List PD := [.one (.int .i64), .one (.int .i64)]
/-- carrefour/whole.Mod -/
def f38 (n : Nat) (x0 : Int × Int) : Option (Int × Int) :=
  let e0 := Int.tmod x0.1 x0.2
  bif decide (x0.2 < 1) then
    some (0, 1)
  else
  bif !(x0.2 == 0) then
    bif decide (e0 < 0) then
      some (wrap64 (e0 + x0.2), 0)
    else
    some (e0, 0)
  else
  none
def plan38 : Plan := .leaf
noncomputable def c38 (n : Nat) : Cx := ⟨Go.Proofs.Try.prog, Θ, [], []⟩
theorem d38 (n : Nat) (x : Int × Int) : denF (c38 n) n Go.Proofs.Try.f38 plan38 p38 r38 x = f38 n x := by kernel_rfl
theorem s38 (n : Nat) : PCalls Go.Proofs.Try.prog Θ 38 ⟨p38, r38, f38 n⟩ :=
  func_ok' (C := c38 n) (n := n) (p := plan38) (ok_of mixed eqsOk trivial) Go.Proofs.Try.func38 (by kernel_rfl) (d38 n) (by kernel_rfl)
def p34 : List PD := [.one (.int .i64), .one (.int .i64)]
def r34 : List PD := [.one (.int .i64)]
/-- carrefour/circle.modulo -/
def f34 (n : Nat) (x0 : Int × Int) : Option (Int) :=
  (f38 n x0).bind fun y1 =>
  some y1.1
def plan34 : Plan := .leaf
noncomputable def c34 (n : Nat) : Cx := ⟨Go.Proofs.Try.prog, Θ, [], [(38, ⟨p38, r38, f38 n⟩)]⟩
theorem d34 (n : Nat) (x : Int × Int) : denF (c34 n) n Go.Proofs.Try.f34 plan34 p34 r34 x = f34 n x := by kernel_rfl
theorem s34 (n : Nat) : PCalls Go.Proofs.Try.prog Θ 34 ⟨p34, r34, f34 n⟩ :=
  func_ok' (C := c34 n) (n := n) (p := plan34) (ok_of mixed eqsOk ⟨s38 n, trivial⟩) Go.Proofs.Try.func34 (by kernel_rfl) (d34 n) (by kernel_rfl)
def p33 : List PD := [.one (.int .i64)]
def r33 : List PD := [.one (.bool)]
/-- carrefour/circle.cycle -/
def f33 (n : Nat) (x0 : Int) : Option (Bool) :=
  bif decide (1 ≤ x0) then
    some (decide (x0 ≤ 6000))
  else
  some false
def plan33 : Plan := .leaf
noncomputable def c33 (n : Nat) : Cx := ⟨Go.Proofs.Try.prog, Θ, [], []⟩
theorem d33 (n : Nat) (x : Int) : denF (c33 n) n Go.Proofs.Try.f33 plan33 p33 r33 x = f33 n x := by kernel_rfl
theorem s33 (n : Nat) : PCalls Go.Proofs.Try.prog Θ 33 ⟨p33, r33, f33 n⟩ :=
  func_ok' (C := c33 n) (n := n) (p := plan33) (ok_of mixed eqsOk trivial) Go.Proofs.Try.func33 (by kernel_rfl) (d33 n) (by kernel_rfl)
def p25 : List PD := [.one (.int .i64), .agg [.int .i64, .int .i64]]
def r25 : List PD := [.agg [.int .i64, .int .i64]]
/-- carrefour/circle.Norm -/
def f25 (n : Nat) (x0 : Int × Int × Int) : Option (Int × Int) :=
  letJ (fun (x2 : Int × Bool × Int × Int × Int × Int) =>
    bif x2.2.1 then
      some (0, 0)
    else
    bif decide (x2.1 ≤ x2.2.2.2.1) then
      some (0, x2.1)
    else
    (f34 n (x2.2.2.1, x2.1)).bind fun y4 =>
    some (y4, x2.2.2.2.1)) fun J3 =>
  (f33 n x0.1).bind fun y1 =>
  bif !y1 then
    J3 (x0.1, true, x0.2.1, x0.2.2, 0, 0)
  else
  J3 (x0.1, decide (x0.2.2 < 1), x0.2.1, x0.2.2, 0, 0)
def plan25 : Plan := .two (.leaf) (.two (.one (.two (.join ⟨slotsOf 29 [(0, .c (.hole (.int .i64))), (3, .c (.box 3 0)), (4, .c (.box 4 0)), (5, .c (.hole (.bool)))], [(3, 23, [.hole (.int .i64), .hole (.int .i64)]), (4, 23, [.hole (.int .i64), .hole (.int .i64)])], []⟩ (.leaf)) (.leaf))) (.leaf))
noncomputable def c25 (n : Nat) : Cx := ⟨Go.Proofs.Try.prog, Θ, [], [(34, ⟨p34, r34, f34 n⟩), (33, ⟨p33, r33, f33 n⟩)]⟩
theorem d25 (n : Nat) (x : Int × Int × Int) : denF (c25 n) n Go.Proofs.Try.f25 plan25 p25 r25 x = f25 n x := by kernel_rfl
theorem s25 (n : Nat) : PCalls Go.Proofs.Try.prog Θ 25 ⟨p25, r25, f25 n⟩ :=
  func_ok' (C := c25 n) (n := n) (p := plan25) (ok_of mixed eqsOk ⟨s34 n, s33 n, trivial⟩) Go.Proofs.Try.func25 (by kernel_rfl) (d25 n) (by kernel_rfl)
def p39 : List PD := [.one (.int .i64), .agg [.int .i64, .int .i64], .one (.int .i64)]
def r39 : List PD := [.one (.bool)]
/-- carrefour/circle.In -/
def f39 (n : Nat) (x0 : Int × (Int × Int) × Int) : Option (Bool) :=
  (f25 n (x0.1, x0.2.1)).bind fun y1 =>
  bif decide (0 < y1.2) then
    (f34 n (x0.2.2, x0.1)).bind fun y2 =>
    (f34 n (wrap64 (y2 - y1.1), x0.1)).bind fun y3 =>
    some (decide (y3 < y1.2))
  else
  some false
def plan39 : Plan := .leaf
noncomputable def c39 (n : Nat) : Cx := ⟨Go.Proofs.Try.prog, Θ, [], [(25, ⟨p25, r25, f25 n⟩), (34, ⟨p34, r34, f34 n⟩)]⟩
theorem d39 (n : Nat) (x : Int × (Int × Int) × Int) : denF (c39 n) n Go.Proofs.Try.f39 plan39 p39 r39 x = f39 n x := by kernel_rfl
theorem s39 (n : Nat) : PCalls Go.Proofs.Try.prog Θ 39 ⟨p39, r39, f39 n⟩ :=
  func_ok' (C := c39 n) (n := n) (p := plan39) (ok_of mixed eqsOk ⟨s25 n, s34 n, trivial⟩) Go.Proofs.Try.func39 (by kernel_rfl) (d39 n) (by kernel_rfl)
def p36 : List PD := [.agg [.int .i64, .int .i64, .int .i64, .int .i64, .int .i64], .one (.int .i64)]
def r36 : List PD := [.one (.bool), .one (.int .i64)]
/-- carrefour/queue.until -/
def f36 (n : Nat) (x0 : (Int × Int × Int × Int × Int) × Int) : Option (Bool × Int) :=
  (f25 n (x0.1.2.2.2.2, x0.1.2.2.1, x0.1.2.2.2.1)).bind fun y1 =>
  letJ (fun (x2 : Int × Bool × Int × Int × Int × Int × Int × Int × Int) =>
    let e0 := wrap64 (x2.2.2.2.2.2.2.2.1 + x2.2.2.2.2.2.2.2.2)
    let e1 := wrap64 (x2.2.2.2.2.2.2.1 - x2.1)
    bif x2.2.1 then
      some (decide (0 < x2.2.2.2.2.2.2.2.2), e1)
    else
    (f39 n (x2.2.2.2.2.2.2.1, x2.2.2.2.2.2.2.2, x2.1)).bind fun y4 =>
    bif y4 then
      letJ (fun (x5 : Int × Int × Bool × Int × Int × Int × Int × Int) =>
        bif x5.2.2.1 then
          some (true, wrap64 ((mn (wrap64 (x5.2.1 - x5.2.2.2.2.2.2.2)) x5.2.2.2.2.2.2.2) - x5.1))
        else
        some (true, wrap64 ((mn x5.2.1 x5.2.2.2.2.2.2.2) - x5.1))) fun J6 =>
      bif decide (x2.2.2.2.2.2.2.1 < e0) then
        J6 (x2.1, e0, decide (x2.1 < wrap64 (e0 - x2.2.2.2.2.2.2.1)), x2.2.2.1, x2.2.2.2.1, x2.2.2.2.2.1, x2.2.2.2.2.2.1, x2.2.2.2.2.2.2.1)
      else
      J6 (x2.1, e0, false, x2.2.2.1, x2.2.2.2.1, x2.2.2.2.2.1, x2.2.2.2.2.2.1, x2.2.2.2.2.2.2.1)
    else
      bif decide (x2.1 < x2.2.2.2.2.2.2.2.1) then
        some (false, wrap64 (x2.2.2.2.2.2.2.2.1 - x2.1))
      else
      some (false, e1)) fun J3 =>
  bif y1.2 == 0 then
    J3 (x0.2, true, x0.1.1, x0.1.2.1, x0.1.2.2.1, x0.1.2.2.2.1, x0.1.2.2.2.2, y1)
  else
  J3 (x0.2, y1.2 == x0.1.2.2.2.2, x0.1.1, x0.1.2.1, x0.1.2.2.1, x0.1.2.2.2.1, x0.1.2.2.2.2, y1)
def plan36 : Plan := .two (.leaf) (.two (.leaf) (.two (.one (.two (.join ⟨slotsOf 77 [(1, .c (.hole (.int .i64))), (2, .c (.box 2 0)), (6, .c (.box 6 0)), (13, .c (.hole (.bool)))], [(2, 25, [.hole (.int .i64), .hole (.int .i64), .hole (.int .i64), .hole (.int .i64), .hole (.int .i64)]), (6, 23, [.hole (.int .i64), .hole (.int .i64)])], []⟩ (.leaf)) (.two (.leaf) (.two (.leaf) (.two (.two (.leaf) (.two (.two (.join ⟨slotsOf 77 [(1, .c (.hole (.int .i64))), (2, .c (.box 2 0)), (7, .c (.hole (.int .i64))), (53, .c (.hole (.bool)))], [(2, 25, [.hole (.int .i64), .hole (.int .i64), .hole (.int .i64), .hole (.int .i64), .hole (.int .i64)])], []⟩ (.leaf)) (.leaf)) (.leaf))) (.leaf)))))) (.leaf)))
noncomputable def c36 (n : Nat) : Cx := ⟨Go.Proofs.Try.prog, Θ, [], [(25, ⟨p25, r25, f25 n⟩), (39, ⟨p39, r39, f39 n⟩)]⟩
theorem d36 (n : Nat) (x : (Int × Int × Int × Int × Int) × Int) : denF (c36 n) n Go.Proofs.Try.f36 plan36 p36 r36 x = f36 n x := by kernel_rfl
theorem s36 (n : Nat) : PCalls Go.Proofs.Try.prog Θ 36 ⟨p36, r36, f36 n⟩ :=
  func_ok' (C := c36 n) (n := n) (p := plan36) (ok_of mixed eqsOk ⟨s25 n, s39 n, trivial⟩) Go.Proofs.Try.func36 (by kernel_rfl) (d36 n) (by kernel_rfl)
def p40 : List PD := [.one (.int .i64), .one (.int .i64)]
def r40 : List PD := [.agg [.int .i64, .int .i64, .int .i64, .int .i64]]
/-- carrefour/queue.tick -/
def f40 (n : Nat) (x0 : Int × Int) : Option (Int × Int × Int × Int) :=
  let e0 := wrap64 (x0.1 - x0.2)
  let e1 := mx 0 e0
  bif decide (0 < x0.2) then
    some (e0, 0, e1, 0)
  else
  some (e0, (-2305843009213693952), e1, (-2305843009213693952))
def plan40 : Plan := .leaf
noncomputable def c40 (n : Nat) : Cx := ⟨Go.Proofs.Try.prog, Θ, [], []⟩
theorem d40 (n : Nat) (x : Int × Int) : denF (c40 n) n Go.Proofs.Try.f40 plan40 p40 r40 x = f40 n x := by kernel_rfl
theorem s40 (n : Nat) : PCalls Go.Proofs.Try.prog Θ 40 ⟨p40, r40, f40 n⟩ :=
  func_ok' (C := c40 n) (n := n) (p := plan40) (ok_of mixed eqsOk trivial) Go.Proofs.Try.func40 (by kernel_rfl) (d40 n) (by kernel_rfl)
def p31 : List PD := [.agg [.int .i64, .int .i64, .int .i64, .int .i64], .agg [.int .i64, .int .i64, .int .i64, .int .i64]]
def r31 : List PD := [.agg [.int .i64, .int .i64, .int .i64, .int .i64]]
/-- (carrefour/queue.effect).then -/
def f31 (n : Nat) (x0 : (Int × Int × Int × Int) × Int × Int × Int × Int) : Option (Int × Int × Int × Int) :=
  some (wrap64 (x0.1.1 + x0.2.1), mx (wrap64 (x0.1.2.1 + x0.2.1)) x0.2.2.1, mx x0.1.2.2.1 (wrap64 (x0.1.1 + x0.2.2.2.1)), mx (mx x0.1.2.2.2 (wrap64 (x0.1.2.1 + x0.2.2.2.1))) x0.2.2.2.2)
def plan31 : Plan := .leaf
noncomputable def c31 (n : Nat) : Cx := ⟨Go.Proofs.Try.prog, Θ, [], []⟩
theorem d31 (n : Nat) (x : (Int × Int × Int × Int) × Int × Int × Int × Int) : denF (c31 n) n Go.Proofs.Try.f31 plan31 p31 r31 x = f31 n x := by kernel_rfl
theorem s31 (n : Nat) : PCalls Go.Proofs.Try.prog Θ 31 ⟨p31, r31, f31 n⟩ :=
  func_ok' (C := c31 n) (n := n) (p := plan31) (ok_of mixed eqsOk trivial) Go.Proofs.Try.func31 (by kernel_rfl) (d31 n) (by kernel_rfl)
def p32 : List PD := [.agg [.int .i64, .int .i64, .int .i64, .int .i64], .one (.int .i64)]
def r32 : List PD := [.agg [.int .i64, .int .i64, .int .i64, .int .i64]]
/-- (carrefour/queue.effect).times -/
def f32 (n : Nat) (x0 : (Int × Int × Int × Int) × Int) : Option (Int × Int × Int × Int) :=
  (f35 n ()).bind fun y1 =>
  (iterL (Y := (Int × Int × Int × Int × Int × Int × Int × Int)) n (fun (x2 : Int × Int × Int × Int × Int × Int × Int × Int × Int × Int × Int × Int × Int) =>
    bif decide (0 < x2.1) then
      letJ (fun (x4 : Int × Int × Int × Int × Int × Int × Int × Int × Int × Int × Int × Int × Int) =>
        (f31 n ((x4.2.1, x4.2.2.1, x4.2.2.2.1, x4.2.2.2.2.1), x4.2.1, x4.2.2.1, x4.2.2.2.1, x4.2.2.2.2.1)).bind fun y6 =>
        bif decide (0 ≤ 1) then
          some (.inl (shr .i64 x4.1 1, y6.1, y6.2.1, y6.2.2.1, y6.2.2.2, x4.2.2.2.2.2))
        else
        none) fun J5 =>
      bif (bits2 .and .i64 x2.1 1) == 1 then
        (f31 n (x2.2.2.2.2.2.2.2.2.2, x2.2.1, x2.2.2.1, x2.2.2.2.1, x2.2.2.2.2.1)).bind fun y3 =>
        J5 (x2.1, x2.2.1, x2.2.2.1, x2.2.2.2.1, x2.2.2.2.2.1, x2.2.2.2.2.2.1, x2.2.2.2.2.2.2.1, x2.2.2.2.2.2.2.2.1, x2.2.2.2.2.2.2.2.2.1, y3)
      else
      J5 x2
    else
    some (.inr x2.2.2.2.2.2)) (x0.2, x0.1.1, x0.1.2.1, x0.1.2.2.1, x0.1.2.2.2, 0, 0, 0, 0, y1)).bind fun (z7 : Int × Int × Int × Int × Int × Int × Int × Int) =>
    some z7.2.2.2.2
def plan32 : Plan := .two (.leaf) (.two (.leaf) (.two (.one (.loop ⟨slotsOf 21 [(1, .c (.hole (.int .i64))), (2, .c (.box 2 0)), (4, .c (.box 4 0)), (5, .c (.box 5 0))], [(2, 40, [.hole (.int .i64), .hole (.int .i64), .hole (.int .i64), .hole (.int .i64)]), (4, 40, [.hole (.int .i64), .hole (.int .i64), .hole (.int .i64), .hole (.int .i64)]), (5, 40, [.hole (.int .i64), .hole (.int .i64), .hole (.int .i64), .hole (.int .i64)])], []⟩ [(.exit 0, ⟨slotsOf 21 [(4, .c (.box 4 0)), (5, .c (.box 5 0))], [(4, 40, [.hole (.int .i64), .hole (.int .i64), .hole (.int .i64), .hole (.int .i64)]), (5, 40, [.hole (.int .i64), .hole (.int .i64), .hole (.int .i64), .hole (.int .i64)])], []⟩)] (.two (.leaf) (.two (.one (.two (.join ⟨slotsOf 21 [(1, .c (.hole (.int .i64))), (2, .c (.box 2 0)), (4, .c (.box 4 0)), (5, .c (.box 5 0))], [(2, 40, [.hole (.int .i64), .hole (.int .i64), .hole (.int .i64), .hole (.int .i64)]), (4, 40, [.hole (.int .i64), .hole (.int .i64), .hole (.int .i64), .hole (.int .i64)]), (5, 40, [.hole (.int .i64), .hole (.int .i64), .hole (.int .i64), .hole (.int .i64)])], []⟩ (.leaf)) (.leaf))) (.leaf))))) (.leaf)))
noncomputable def c32 (n : Nat) : Cx := ⟨Go.Proofs.Try.prog, Θ, [], [(35, ⟨p35, r35, f35 n⟩), (31, ⟨p31, r31, f31 n⟩)]⟩
theorem d32 (n : Nat) (x : (Int × Int × Int × Int) × Int) : denF (c32 n) n Go.Proofs.Try.f32 plan32 p32 r32 x = f32 n x := by kernel_rfl
theorem s32 (n : Nat) : PCalls Go.Proofs.Try.prog Θ 32 ⟨p32, r32, f32 n⟩ :=
  func_ok' (C := c32 n) (n := n) (p := plan32) (ok_of mixed eqsOk ⟨s35 n, s31 n, trivial⟩) Go.Proofs.Try.func32 (by kernel_rfl) (d32 n) (by kernel_rfl)
def p37 : List PD := [.agg [.int .i64, .int .i64, .int .i64, .int .i64, .int .i64], .one (.bool), .one (.int .i64)]
def r37 : List PD := [.agg [.int .i64, .int .i64, .int .i64, .int .i64]]
/-- carrefour/queue.row -/
def f37 (n : Nat) (x0 : (Int × Int × Int × Int × Int) × Bool × Int) : Option (Int × Int × Int × Int) :=
  bif x0.2.1 then
    (f40 n (x0.1.1, x0.1.2.1)).bind fun y1 =>
    (f32 n (y1, x0.2.2)).bind fun y2 =>
    some y2
  else
    (f40 n (x0.1.1, 0)).bind fun y3 =>
    (f32 n (y3, x0.2.2)).bind fun y4 =>
    some y4
def plan37 : Plan := .leaf
noncomputable def c37 (n : Nat) : Cx := ⟨Go.Proofs.Try.prog, Θ, [], [(40, ⟨p40, r40, f40 n⟩), (32, ⟨p32, r32, f32 n⟩)]⟩
theorem d37 (n : Nat) (x : (Int × Int × Int × Int × Int) × Bool × Int) : denF (c37 n) n Go.Proofs.Try.f37 plan37 p37 r37 x = f37 n x := by kernel_rfl
theorem s37 (n : Nat) : PCalls Go.Proofs.Try.prog Θ 37 ⟨p37, r37, f37 n⟩ :=
  func_ok' (C := c37 n) (n := n) (p := plan37) (ok_of mixed eqsOk ⟨s40 n, s32 n, trivial⟩) Go.Proofs.Try.func37 (by kernel_rfl) (d37 n) (by kernel_rfl)
def p30 : List PD := [.agg [.int .i64, .int .i64, .int .i64, .int .i64, .int .i64], .one (.int .i64), .one (.int .i64)]
def r30 : List PD := [.agg [.int .i64, .int .i64, .int .i64, .int .i64]]
/-- carrefour/queue.from -/
def f30 (n : Nat) (x0 : (Int × Int × Int × Int × Int) × Int × Int) : Option (Int × Int × Int × Int) :=
  (f35 n ()).bind fun y1 =>
  (iterL (Y := (Int × Int × Int × Int × Int × Int × Int × Int)) n (fun (x2 : Int × Int × Int × Int × Int × Int × Int × Int × Int × Int × Int × Int × Int × Int × Int) =>
    bif decide (x2.1 < x2.2.1) then
      (f36 n ((x2.2.2.1, x2.2.2.2.1, x2.2.2.2.2.1, x2.2.2.2.2.2.1, x2.2.2.2.2.2.2.1), x2.1)).bind fun y3 =>
      let e0 := mn y3.2 (wrap64 (x2.2.1 - x2.1))
      (f37 n ((x2.2.2.1, x2.2.2.2.1, x2.2.2.2.2.1, x2.2.2.2.2.2.1, x2.2.2.2.2.2.2.1), y3.1, e0)).bind fun y4 =>
      (f31 n (x2.2.2.2.2.2.2.2.2.2.2.2, y4)).bind fun y5 =>
      some (.inl (wrap64 (x2.1 + e0), x2.2.1, x2.2.2.1, x2.2.2.2.1, x2.2.2.2.2.1, x2.2.2.2.2.2.1, x2.2.2.2.2.2.2.1, x2.2.2.2.2.2.2.2.1, x2.2.2.2.2.2.2.2.2.1, x2.2.2.2.2.2.2.2.2.2.1, x2.2.2.2.2.2.2.2.2.2.2.1, y5))
    else
    some (.inr x2.2.2.2.2.2.2.2)) (x0.2.1, x0.2.2, x0.1.1, x0.1.2.1, x0.1.2.2.1, x0.1.2.2.2.1, x0.1.2.2.2.2, 0, 0, 0, 0, y1)).bind fun (z6 : Int × Int × Int × Int × Int × Int × Int × Int) =>
    some z6.2.2.2.2
def plan30 : Plan := .two (.leaf) (.two (.leaf) (.two (.one (.loop ⟨slotsOf 35 [(1, .c (.hole (.int .i64))), (2, .c (.hole (.int .i64))), (3, .c (.box 3 0)), (6, .c (.box 6 0)), (7, .c (.box 7 0))], [(3, 25, [.hole (.int .i64), .hole (.int .i64), .hole (.int .i64), .hole (.int .i64), .hole (.int .i64)]), (6, 40, [.hole (.int .i64), .hole (.int .i64), .hole (.int .i64), .hole (.int .i64)]), (7, 40, [.hole (.int .i64), .hole (.int .i64), .hole (.int .i64), .hole (.int .i64)])], []⟩ [(.exit 0, ⟨slotsOf 35 [(6, .c (.box 6 0)), (7, .c (.box 7 0))], [(6, 40, [.hole (.int .i64), .hole (.int .i64), .hole (.int .i64), .hole (.int .i64)]), (7, 40, [.hole (.int .i64), .hole (.int .i64), .hole (.int .i64), .hole (.int .i64)])], []⟩)] (.leaf))) (.leaf)))
noncomputable def c30 (n : Nat) : Cx := ⟨Go.Proofs.Try.prog, Θ, [], [(35, ⟨p35, r35, f35 n⟩), (36, ⟨p36, r36, f36 n⟩), (37, ⟨p37, r37, f37 n⟩), (31, ⟨p31, r31, f31 n⟩)]⟩
theorem d30 (n : Nat) (x : (Int × Int × Int × Int × Int) × Int × Int) : denF (c30 n) n Go.Proofs.Try.f30 plan30 p30 r30 x = f30 n x := by kernel_rfl
theorem s30 (n : Nat) : PCalls Go.Proofs.Try.prog Θ 30 ⟨p30, r30, f30 n⟩ :=
  func_ok' (C := c30 n) (n := n) (p := plan30) (ok_of mixed eqsOk ⟨s35 n, s36 n, s37 n, s31 n, trivial⟩) Go.Proofs.Try.func30 (by kernel_rfl) (d30 n) (by kernel_rfl)
def p23 : List PD := [.agg [.int .i64, .int .i64, .int .i64, .int .i64, .int .i64], .one (.int .i64), .one (.int .i64)]
def r23 : List PD := [.agg [.int .i64, .int .i64, .int .i64, .int .i64]]
/-- carrefour/queue.all -/
def f23 (n : Nat) (x0 : (Int × Int × Int × Int × Int) × Int × Int) : Option (Int × Int × Int × Int) :=
  let e0 := Int.tmod x0.2.1 x0.1.2.2.2.2
  let e1 := wrap64 (x0.1.2.2.2.2 - e0)
  let e2 := wrap64 (x0.2.2 - e1)
  bif !(x0.1.2.2.2.2 == 0) then
    bif decide (x0.2.2 ≤ e1) then
      (f30 n (x0.1, e0, wrap64 (e0 + x0.2.2))).bind fun y1 =>
      some y1
    else
      (f30 n (x0.1, e0, x0.1.2.2.2.2)).bind fun y2 =>
      (f30 n (x0.1, 0, x0.1.2.2.2.2)).bind fun y3 =>
      bif !(x0.1.2.2.2.2 == 0) then
        (f32 n (y3, wrap64 (Int.tdiv e2 x0.1.2.2.2.2))).bind fun y4 =>
        (f31 n (y2, y4)).bind fun y5 =>
        bif !(x0.1.2.2.2.2 == 0) then
          (f30 n (x0.1, 0, Int.tmod e2 x0.1.2.2.2.2)).bind fun y6 =>
          (f31 n (y5, y6)).bind fun y7 =>
          some y7
        else
        none
      else
      none
  else
  none
def plan23 : Plan := .leaf
noncomputable def c23 (n : Nat) : Cx := ⟨Go.Proofs.Try.prog, Θ, [], [(30, ⟨p30, r30, f30 n⟩), (32, ⟨p32, r32, f32 n⟩), (31, ⟨p31, r31, f31 n⟩)]⟩
theorem d23 (n : Nat) (x : (Int × Int × Int × Int × Int) × Int × Int) : denF (c23 n) n Go.Proofs.Try.f23 plan23 p23 r23 x = f23 n x := by kernel_rfl
theorem s23 (n : Nat) : PCalls Go.Proofs.Try.prog Θ 23 ⟨p23, r23, f23 n⟩ :=
  func_ok' (C := c23 n) (n := n) (p := plan23) (ok_of mixed eqsOk ⟨s30 n, s32 n, s31 n, trivial⟩) Go.Proofs.Try.func23 (by kernel_rfl) (d23 n) (by kernel_rfl)
def p24 : List PD := [.one (.int .i64)]
def r24 : List PD := [.one (.bool)]
/-- carrefour/queue.Right$1 -/
def f24 (n : Nat) (x0 : Int) : Option (Bool) :=
  bif decide (0 ≤ x0) then
    some (decide (x0 ≤ 1000000000))
  else
  some false
def plan24 : Plan := .leaf
noncomputable def c24 (n : Nat) : Cx := ⟨Go.Proofs.Try.prog, Θ, [], []⟩
theorem d24 (n : Nat) (x : Int) : denF (c24 n) n Go.Proofs.Try.f24 plan24 p24 r24 x = f24 n x := by kernel_rfl
theorem s24 (n : Nat) : PCalls Go.Proofs.Try.prog Θ 24 ⟨p24, r24, f24 n⟩ :=
  func_ok' (C := c24 n) (n := n) (p := plan24) (ok_of mixed eqsOk trivial) Go.Proofs.Try.func24 (by kernel_rfl) (d24 n) (by kernel_rfl)
def p14 : List PD := [.agg [.int .i64, .int .i64, .int .i64, .int .i64, .int .i64]]
def r14 : List PD := [.one (.bool)]
/-- carrefour/queue.Right -/
def f14 (n : Nat) (x0 : Int × Int × Int × Int × Int) : Option (Bool) :=
  letJ (fun (x3 : Bool) =>
    some x3) fun J4 =>
  bif decide (1 ≤ x0.2.2.2.2) then
    bif decide (x0.2.2.2.2 ≤ 6000) then
      (f24 n x0.1).bind fun y1 =>
      bif y1 then
        (f24 n x0.2.1).bind fun y2 =>
        J4 y2
      else
      J4 false
    else
    J4 false
  else
  J4 false
def plan14 : Plan := .two (.leaf) (.two (.leaf) (.two (.join ⟨slotsOf 24 [(2, .c (.hole (.bool)))], [], []⟩ (.leaf)) (.leaf)))
noncomputable def c14 (n : Nat) : Cx := ⟨Go.Proofs.Try.prog, Θ, [], [(24, ⟨p24, r24, f24 n⟩)]⟩
theorem d14 (n : Nat) (x : Int × Int × Int × Int × Int) : denF (c14 n) n Go.Proofs.Try.f14 plan14 p14 r14 x = f14 n x := by kernel_rfl
theorem s14 (n : Nat) : PCalls Go.Proofs.Try.prog Θ 14 ⟨p14, r14, f14 n⟩ :=
  func_ok' (C := c14 n) (n := n) (p := plan14) (ok_of mixed eqsOk ⟨s24 n, trivial⟩) Go.Proofs.Try.func14 (by kernel_rfl) (d14 n) (by kernel_rfl)
def p16 : List PD := [.agg [.int .i64, .int .i64, .int .i64, .int .i64, .int .i64], .one (.int .i64), .one (.int .i64), .one (.int .i64)]
def r16 : List PD := [.agg [.int .i64, .int .i64, .int .i64, .int .i64], .one (.bool)]
/-- carrefour/queue.asked -/
def f16 (n : Nat) (x0 : (Int × Int × Int × Int × Int) × Int × Int × Int) : Option ((Int × Int × Int × Int) × Bool) :=
  letJ (fun (x2 : Int × Int × Bool × Int × Int × Int × Int × Int × Int × Int × Int × Int) =>
    bif x2.2.2.1 then
      some ((0, 0, 0, 0), false)
    else
    (f23 n ((x2.2.2.2.1, x2.2.2.2.2.1, x2.2.2.2.2.2.1, x2.2.2.2.2.2.2.1, x2.2.2.2.2.2.2.2.1), x2.1, x2.2.1)).bind fun y4 =>
    some (y4, true)) fun J3 =>
  (f14 n x0.1).bind fun y1 =>
  bif !y1 then
    J3 (x0.2.2.1, x0.2.2.2, true, x0.1.1, x0.1.2.1, x0.1.2.2.1, x0.1.2.2.2.1, x0.1.2.2.2.2, 0, 0, 0, 0)
  else
  bif decide (x0.2.1 < 0) then
    J3 (x0.2.2.1, x0.2.2.2, true, x0.1.1, x0.1.2.1, x0.1.2.2.1, x0.1.2.2.2.1, x0.1.2.2.2.2, 0, 0, 0, 0)
  else
  bif decide (1152921504606846976 < x0.2.1) then
    J3 (x0.2.2.1, x0.2.2.2, true, x0.1.1, x0.1.2.1, x0.1.2.2.1, x0.1.2.2.2.1, x0.1.2.2.2.2, 0, 0, 0, 0)
  else
  bif decide (x0.2.2.1 < 0) then
    J3 (x0.2.2.1, x0.2.2.2, true, x0.1.1, x0.1.2.1, x0.1.2.2.1, x0.1.2.2.2.1, x0.1.2.2.2.2, 0, 0, 0, 0)
  else
  bif decide (1099511627776 < x0.2.2.1) then
    J3 (x0.2.2.1, x0.2.2.2, true, x0.1.1, x0.1.2.1, x0.1.2.2.1, x0.1.2.2.2.1, x0.1.2.2.2.2, 0, 0, 0, 0)
  else
  bif decide (x0.2.2.2 < 0) then
    J3 (x0.2.2.1, x0.2.2.2, true, x0.1.1, x0.1.2.1, x0.1.2.2.1, x0.1.2.2.2.1, x0.1.2.2.2.2, 0, 0, 0, 0)
  else
  J3 (x0.2.2.1, x0.2.2.2, decide (1073741824 < x0.2.2.2), x0.1.1, x0.1.2.1, x0.1.2.2.1, x0.1.2.2.2.1, x0.1.2.2.2.2, 0, 0, 0, 0)
def plan16 : Plan := .two (.leaf) (.two (.two (.join ⟨slotsOf 42 [(2, .c (.hole (.int .i64))), (3, .c (.hole (.int .i64))), (4, .c (.box 4 0)), (8, .c (.box 8 0)), (36, .c (.hole (.bool)))], [(4, 25, [.hole (.int .i64), .hole (.int .i64), .hole (.int .i64), .hole (.int .i64), .hole (.int .i64)]), (8, 40, [.hole (.int .i64), .hole (.int .i64), .hole (.int .i64), .hole (.int .i64)])], []⟩ (.leaf)) (.leaf)) (.leaf))
noncomputable def c16 (n : Nat) : Cx := ⟨Go.Proofs.Try.prog, Θ, [], [(23, ⟨p23, r23, f23 n⟩), (14, ⟨p14, r14, f14 n⟩)]⟩
theorem d16 (n : Nat) (x : (Int × Int × Int × Int × Int) × Int × Int × Int) : denF (c16 n) n Go.Proofs.Try.f16 plan16 p16 r16 x = f16 n x := by kernel_rfl
theorem s16 (n : Nat) : PCalls Go.Proofs.Try.prog Θ 16 ⟨p16, r16, f16 n⟩ :=
  func_ok' (C := c16 n) (n := n) (p := plan16) (ok_of mixed eqsOk ⟨s23 n, s14 n, trivial⟩) Go.Proofs.Try.func16 (by kernel_rfl) (d16 n) (by kernel_rfl)
def p17 : List PD := [.agg [.int .i64, .int .i64, .int .i64, .int .i64], .one (.int .i64)]
def r17 : List PD := [.one (.int .i64)]
/-- (carrefour/queue.effect).after -/
def f17 (n : Nat) (x0 : (Int × Int × Int × Int) × Int) : Option (Int) :=
  some (mx (wrap64 (x0.2 + x0.1.1)) x0.1.2.1)
def plan17 : Plan := .leaf
noncomputable def c17 (n : Nat) : Cx := ⟨Go.Proofs.Try.prog, Θ, [], []⟩
theorem d17 (n : Nat) (x : (Int × Int × Int × Int) × Int) : denF (c17 n) n Go.Proofs.Try.f17 plan17 p17 r17 x = f17 n x := by kernel_rfl
theorem s17 (n : Nat) : PCalls Go.Proofs.Try.prog Θ 17 ⟨p17, r17, f17 n⟩ :=
  func_ok' (C := c17 n) (n := n) (p := plan17) (ok_of mixed eqsOk trivial) Go.Proofs.Try.func17 (by kernel_rfl) (d17 n) (by kernel_rfl)
def p7 : List PD := [.agg [.int .i64, .int .i64, .int .i64, .int .i64, .int .i64], .one (.int .i64), .one (.int .i64), .one (.int .i64)]
def r7 : List PD := [.one (.int .i64), .one (.int .i64)]
/-- carrefour/queue.After -/
def f7 (n : Nat) (x0 : (Int × Int × Int × Int × Int) × Int × Int × Int) : Option (Int × Int) :=
  (f16 n x0).bind fun y1 =>
  bif !y1.2 then
    some (0, 1)
  else
  (f17 n (y1.1, x0.2.1)).bind fun y2 =>
  some (y2, 0)
def plan7 : Plan := .leaf
noncomputable def c7 (n : Nat) : Cx := ⟨Go.Proofs.Try.prog, Θ, [], [(16, ⟨p16, r16, f16 n⟩), (17, ⟨p17, r17, f17 n⟩)]⟩
theorem d7 (n : Nat) (x : (Int × Int × Int × Int × Int) × Int × Int × Int) : denF (c7 n) n Go.Proofs.Try.f7 plan7 p7 r7 x = f7 n x := by kernel_rfl
theorem s7 (n : Nat) : PCalls Go.Proofs.Try.prog Θ 7 ⟨p7, r7, f7 n⟩ :=
  func_ok' (C := c7 n) (n := n) (p := plan7) (ok_of mixed eqsOk ⟨s16 n, s17 n, trivial⟩) Go.Proofs.Try.func7 (by kernel_rfl) (d7 n) (by kernel_rfl)
def p28 : List PD := [.one (.int .i64)]
def r28 : List PD := [.one (.bool)]
/-- carrefour/carrefourref03.Cycle -/
def f28 (n : Nat) (x0 : Int) : Option (Bool) :=
  bif decide (1 ≤ x0) then
    some (decide (x0 ≤ 6000))
  else
  some false
def plan28 : Plan := .leaf
noncomputable def c28 (n : Nat) : Cx := ⟨Go.Proofs.Try.prog, Θ, [], []⟩
theorem d28 (n : Nat) (x : Int) : denF (c28 n) n Go.Proofs.Try.f28 plan28 p28 r28 x = f28 n x := by kernel_rfl
theorem s28 (n : Nat) : PCalls Go.Proofs.Try.prog Θ 28 ⟨p28, r28, f28 n⟩ :=
  func_ok' (C := c28 n) (n := n) (p := plan28) (ok_of mixed eqsOk trivial) Go.Proofs.Try.func28 (by kernel_rfl) (d28 n) (by kernel_rfl)
end Go.Proofs.Ythkcpgiibmajhaa.Fn
