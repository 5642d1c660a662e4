/- Functions of the program, each as a plain function, and that the machine does what it says. -/
import Derived.Test.YtiildimlelphhaaGreatDoorFnT1
namespace Go.Proofs.YtiildimlelphhaaGreatDoor.Fn
set_option linter.unusedVariables false
set_option maxRecDepth 100000
open Go Go.RowKit Go.Den
/-- carrefour/queue.row -/
def h_queue_row : Shape := ⟨slotsOf 3 [(0, .agg [.hole (.int .i64), .hole (.int .i64), .hole (.int .i64), .hole (.int .i64), .hole (.int .i64)]), (1, .c (.hole (.bool))), (2, .c (.hole (.int .i64)))], [], []⟩
def o_queue_row : List (Ex × Shape) := [(.ret, ⟨slotsOf 1 [(0, .agg [.hole (.int .i64), .hole (.int .i64), .hole (.int .i64), .hole (.int .i64)])], [], []⟩)]
def queue_row (n : Nat) (x0 : Int × Int × Int × Int × Int × Bool × Int) : Option (Int × Int × Int × Int) :=
  bif x0.2.2.2.2.2.1 then
    (queue_tick n (x0.1, x0.2.1)).bind fun y1 =>
    (queue_effect_times n (y1.1, y1.2.1, y1.2.2.1, y1.2.2.2, x0.2.2.2.2.2.2)).bind fun y2 =>
    some y2
  else
    (queue_tick n (x0.1, 0)).bind fun y3 =>
    (queue_effect_times n (y3.1, y3.2.1, y3.2.2.1, y3.2.2.2, x0.2.2.2.2.2.2)).bind fun y4 =>
    some y4
def p_queue_row : Plan := .leaf
noncomputable def c_queue_row (n : Nat) : Cx := ⟨Go.Proofs.Tryz.prog, Θ, [33, 23, 78, 128, 163], [(125, ⟨h_queue_tick, o_queue_tick, queue_tick n⟩), (80, ⟨h_queue_effect_times, o_queue_effect_times, queue_effect_times n⟩)], [], []⟩
theorem d_queue_row (n : Nat) (x : h_queue_row.X T) : denF (c_queue_row n) n Go.Proofs.Tryz.f109 p_queue_row h_queue_row o_queue_row x = queue_row n x := by kernel_rfl
theorem s_queue_row (n : Nat) : PCalls Go.Proofs.Tryz.prog Θ 109 ⟨h_queue_row, o_queue_row, queue_row n⟩ :=
  func_ok' (C := c_queue_row n) (n := n) (p := p_queue_row) (ok_of mixed eqsOk ⟨s_queue_tick n, s_queue_effect_times n, trivial⟩ trivial trivial) Go.Proofs.Tryz.func109 (by kernel_rfl) (by kernel_rfl) (d_queue_row n) (by kernel_rfl)

/-- carrefour/queue.from -/
def h_queue_from : Shape := ⟨slotsOf 3 [(0, .agg [.hole (.int .i64), .hole (.int .i64), .hole (.int .i64), .hole (.int .i64), .hole (.int .i64)]), (1, .c (.hole (.int .i64))), (2, .c (.hole (.int .i64)))], [], []⟩
def o_queue_from : List (Ex × Shape) := [(.ret, ⟨slotsOf 1 [(0, .agg [.hole (.int .i64), .hole (.int .i64), .hole (.int .i64), .hole (.int .i64)])], [], []⟩)]
def queue_from (n : Nat) (x0 : Int × Int × Int × Int × Int × Int × Int) : Option (Int × Int × Int × Int) :=
  (queue_nothing n ()).bind fun y1 =>
  (iterL (Y := (Int × Int × Int × Int × Int × Int × Int × Int)) n (fun (x2 : Int × Int × Int × Int × Int × Int × Int × Int × Int × Int × Int × Int × Int × Int × Int) =>
    bif decide (x2.1 < x2.2.1) then
      (queue_until n (x2.2.2.1, x2.2.2.2.1, x2.2.2.2.2.1, x2.2.2.2.2.2.1, x2.2.2.2.2.2.2.1, x2.1)).bind fun y3 =>
      let e0 := mn y3.2 (wrap64 (x2.2.1 - x2.1))
      (queue_row n (x2.2.2.1, x2.2.2.2.1, x2.2.2.2.2.1, x2.2.2.2.2.2.1, x2.2.2.2.2.2.2.1, y3.1, e0)).bind fun y4 =>
      (queue_effect_then n (x2.2.2.2.2.2.2.2.2.2.2.2.1, x2.2.2.2.2.2.2.2.2.2.2.2.2.1, x2.2.2.2.2.2.2.2.2.2.2.2.2.2.1, x2.2.2.2.2.2.2.2.2.2.2.2.2.2.2, y4)).bind fun y5 =>
      some (.inl (wrap64 (x2.1 + e0), x2.2.1, x2.2.2.1, x2.2.2.2.1, x2.2.2.2.2.1, x2.2.2.2.2.2.1, x2.2.2.2.2.2.2.1, x2.2.2.2.2.2.2.2.1, x2.2.2.2.2.2.2.2.2.1, x2.2.2.2.2.2.2.2.2.2.1, x2.2.2.2.2.2.2.2.2.2.2.1, y5))
    else
    some (.inr x2.2.2.2.2.2.2.2)) (x0.2.2.2.2.2.1, x0.2.2.2.2.2.2, x0.1, x0.2.1, x0.2.2.1, x0.2.2.2.1, x0.2.2.2.2.1, 0, 0, 0, 0, y1)).bind fun (z6 : Int × Int × Int × Int × Int × Int × Int × Int) =>
    some z6.2.2.2.2
def p_queue_from : Plan := .two (.leaf) (.two (.leaf) (.two (.one (.loop ⟨slotsOf 35 [(1, .c (.hole (.int .i64))), (2, .c (.hole (.int .i64))), (3, .c (.box 3 0)), (6, .c (.box 6 0)), (7, .c (.box 7 0))], [(3, 25, [.hole (.int .i64), .hole (.int .i64), .hole (.int .i64), .hole (.int .i64), .hole (.int .i64)]), (6, 73, [.hole (.int .i64), .hole (.int .i64), .hole (.int .i64), .hole (.int .i64)]), (7, 73, [.hole (.int .i64), .hole (.int .i64), .hole (.int .i64), .hole (.int .i64)])], []⟩ [(.exit 0, ⟨slotsOf 35 [(6, .c (.box 6 0)), (7, .c (.box 7 0))], [(6, 73, [.hole (.int .i64), .hole (.int .i64), .hole (.int .i64), .hole (.int .i64)]), (7, 73, [.hole (.int .i64), .hole (.int .i64), .hole (.int .i64), .hole (.int .i64)])], []⟩)] (.leaf))) (.leaf)))
noncomputable def c_queue_from (n : Nat) : Cx := ⟨Go.Proofs.Tryz.prog, Θ, [33, 23, 78, 128, 163], [(107, ⟨h_queue_nothing, o_queue_nothing, queue_nothing n⟩), (108, ⟨h_queue_until, o_queue_until, queue_until n⟩), (79, ⟨h_queue_effect_then, o_queue_effect_then, queue_effect_then n⟩), (109, ⟨h_queue_row, o_queue_row, queue_row n⟩)], [], []⟩
theorem d_queue_from (n : Nat) (x : h_queue_from.X T) : denF (c_queue_from n) n Go.Proofs.Tryz.f78 p_queue_from h_queue_from o_queue_from x = queue_from n x := by kernel_rfl
theorem s_queue_from (n : Nat) : PCalls Go.Proofs.Tryz.prog Θ 78 ⟨h_queue_from, o_queue_from, queue_from n⟩ :=
  func_ok' (C := c_queue_from n) (n := n) (p := p_queue_from) (ok_of mixed eqsOk ⟨s_queue_nothing n, s_queue_until n, s_queue_effect_then n, s_queue_row n, trivial⟩ trivial trivial) Go.Proofs.Tryz.func78 (by kernel_rfl) (by kernel_rfl) (d_queue_from n) (by kernel_rfl)

/-- carrefour/queue.all -/
def h_queue_all : Shape := ⟨slotsOf 3 [(0, .agg [.hole (.int .i64), .hole (.int .i64), .hole (.int .i64), .hole (.int .i64), .hole (.int .i64)]), (1, .c (.hole (.int .i64))), (2, .c (.hole (.int .i64)))], [], []⟩
def o_queue_all : List (Ex × Shape) := [(.ret, ⟨slotsOf 1 [(0, .agg [.hole (.int .i64), .hole (.int .i64), .hole (.int .i64), .hole (.int .i64)])], [], []⟩)]
def queue_all (n : Nat) (x0 : Int × Int × Int × Int × Int × Int × Int) : Option (Int × Int × Int × Int) :=
  let e0 := Int.tmod x0.2.2.2.2.2.1 x0.2.2.2.2.1
  let e1 := wrap64 (x0.2.2.2.2.1 - e0)
  let e2 := wrap64 (x0.2.2.2.2.2.2 - e1)
  bif !(x0.2.2.2.2.1 == 0) then
    bif decide (x0.2.2.2.2.2.2 ≤ e1) then
      (queue_from n (x0.1, x0.2.1, x0.2.2.1, x0.2.2.2.1, x0.2.2.2.2.1, e0, wrap64 (e0 + x0.2.2.2.2.2.2))).bind fun y1 =>
      some y1
    else
      (queue_from n (x0.1, x0.2.1, x0.2.2.1, x0.2.2.2.1, x0.2.2.2.2.1, e0, x0.2.2.2.2.1)).bind fun y2 =>
      (queue_from n (x0.1, x0.2.1, x0.2.2.1, x0.2.2.2.1, x0.2.2.2.2.1, 0, x0.2.2.2.2.1)).bind fun y3 =>
      bif !(x0.2.2.2.2.1 == 0) then
        (queue_effect_times n (y3.1, y3.2.1, y3.2.2.1, y3.2.2.2, wrap64 (Int.tdiv e2 x0.2.2.2.2.1))).bind fun y4 =>
        (queue_effect_then n (y2.1, y2.2.1, y2.2.2.1, y2.2.2.2, y4)).bind fun y5 =>
        bif !(x0.2.2.2.2.1 == 0) then
          (queue_from n (x0.1, x0.2.1, x0.2.2.1, x0.2.2.2.1, x0.2.2.2.2.1, 0, Int.tmod e2 x0.2.2.2.2.1)).bind fun y6 =>
          (queue_effect_then n (y5.1, y5.2.1, y5.2.2.1, y5.2.2.2, y6)).bind fun y7 =>
          some y7
        else
        none
      else
      none
  else
  none
def p_queue_all : Plan := .leaf
noncomputable def c_queue_all (n : Nat) : Cx := ⟨Go.Proofs.Tryz.prog, Θ, [33, 23, 78, 128, 163], [(79, ⟨h_queue_effect_then, o_queue_effect_then, queue_effect_then n⟩), (80, ⟨h_queue_effect_times, o_queue_effect_times, queue_effect_times n⟩), (78, ⟨h_queue_from, o_queue_from, queue_from n⟩)], [], []⟩
theorem d_queue_all (n : Nat) (x : h_queue_all.X T) : denF (c_queue_all n) n Go.Proofs.Tryz.f47 p_queue_all h_queue_all o_queue_all x = queue_all n x := by kernel_rfl
theorem s_queue_all (n : Nat) : PCalls Go.Proofs.Tryz.prog Θ 47 ⟨h_queue_all, o_queue_all, queue_all n⟩ :=
  func_ok' (C := c_queue_all n) (n := n) (p := p_queue_all) (ok_of mixed eqsOk ⟨s_queue_effect_then n, s_queue_effect_times n, s_queue_from n, trivial⟩ trivial trivial) Go.Proofs.Tryz.func47 (by kernel_rfl) (by kernel_rfl) (d_queue_all n) (by kernel_rfl)

/-- carrefour/queue.Steady -/
def h_queue_Steady : Shape := ⟨slotsOf 1 [(0, .agg [.hole (.int .i64), .hole (.int .i64), .hole (.int .i64), .hole (.int .i64), .hole (.int .i64)])], [], []⟩
def o_queue_Steady : List (Ex × Shape) := [(.ret, ⟨slotsOf 2 [(0, .c (.hole (.int .i64))), (1, .c (.hole (.bool)))], [], []⟩)]
def queue_Steady (n : Nat) (x0 : Int × Int × Int × Int × Int) : Option (Int × Bool) :=
  (queue_Serves n x0).bind fun y1 =>
  bif !y1 then
    some (0, false)
  else
  (queue_all n (x0.1, x0.2.1, x0.2.2.1, x0.2.2.2.1, x0.2.2.2.2, 0, x0.2.2.2.2)).bind fun y2 =>
  some (mx 0 y2.2.1, true)
def p_queue_Steady : Plan := .leaf
noncomputable def c_queue_Steady (n : Nat) : Cx := ⟨Go.Proofs.Tryz.prog, Θ, [33, 23, 78, 128, 163], [(46, ⟨h_queue_Serves, o_queue_Serves, queue_Serves n⟩), (47, ⟨h_queue_all, o_queue_all, queue_all n⟩)], [], []⟩
theorem d_queue_Steady (n : Nat) (x : h_queue_Steady.X T) : denF (c_queue_Steady n) n Go.Proofs.Tryz.f24 p_queue_Steady h_queue_Steady o_queue_Steady x = queue_Steady n x := by kernel_rfl
theorem s_queue_Steady (n : Nat) : PCalls Go.Proofs.Tryz.prog Θ 24 ⟨h_queue_Steady, o_queue_Steady, queue_Steady n⟩ :=
  func_ok' (C := c_queue_Steady n) (n := n) (p := p_queue_Steady) (ok_of mixed eqsOk ⟨s_queue_Serves n, s_queue_all n, trivial⟩ trivial trivial) Go.Proofs.Tryz.func24 (by kernel_rfl) (by kernel_rfl) (d_queue_Steady n) (by kernel_rfl)

/-- carrefour/delay.Mean -/
def h_delay_Mean : Shape := ⟨slotsOf 1 [(0, .agg [.hole (.int .i64), .hole (.int .i64), .hole (.int .i64), .hole (.int .i64), .hole (.int .i64)])], [], []⟩
def o_delay_Mean : List (Ex × Shape) := [(.ret, ⟨slotsOf 2 [(0, .agg [.hole (.int .i64), .hole (.int .i64)]), (1, .c (.hole (.int .i64)))], [], []⟩)]
noncomputable def delay_Mean (n : Nat) (x0 : Int × Int × Int × Int × Int) : Option (Int × Int × Int) :=
  (queue_Right n x0).bind fun y1 =>
  bif !y1 then
    some (0, 0, 1)
  else
  (queue_Steady n x0).bind fun y2 =>
  letJ (fun (x3 : Int × Bool × Int × Int × Int × Int × Int × Int × Int) =>
    bif x3.2.1 then
      some (0, 0, 150)
    else
    (delay_Total n (x3.2.2.1, x3.2.2.2.1, x3.2.2.2.2.1, x3.2.2.2.2.2.1, x3.2.2.2.2.2.2.1, x3.1, 0, x3.2.2.2.2.2.2.1)).bind fun y5 =>
    bif !(y5.2 == 0) then
      some (0, 0, y5.2)
    else
    (frac_Of n (y5.1, wrap64 (x3.2.2.1 * x3.2.2.2.2.2.2.1))).bind fun y6 =>
    some y6) fun J4 =>
  bif !y2.2 then
    J4 (y2.1, true, x0.1, x0.2.1, x0.2.2.1, x0.2.2.2.1, x0.2.2.2.2, 0, 0)
  else
  J4 (y2.1, x0.1 == 0, x0.1, x0.2.1, x0.2.2.1, x0.2.2.2.1, x0.2.2.2.2, 0, 0)
def p_delay_Mean : Plan := .two (.leaf) (.two (.leaf) (.two (.leaf) (.two (.two (.join ⟨slotsOf 46 [(1, .c (.box 1 0)), (2, .c (.box 2 0)), (4, .c (.hole (.int .i64))), (23, .c (.hole (.bool)))], [(1, 25, [.hole (.int .i64), .hole (.int .i64), .hole (.int .i64), .hole (.int .i64), .hole (.int .i64)]), (2, 33, [.hole (.int .i64), .hole (.int .i64)])], []⟩ (.leaf)) (.leaf)) (.leaf))))
noncomputable def c_delay_Mean (n : Nat) : Cx := ⟨Go.Proofs.Tryz.prog, Θ, [33, 23, 78, 128, 163], [(18, ⟨h_queue_Right, o_queue_Right, queue_Right n⟩), (8, ⟨h_delay_Total, o_delay_Total, delay_Total n⟩), (25, ⟨h_frac_Of, o_frac_Of, frac_Of n⟩), (24, ⟨h_queue_Steady, o_queue_Steady, queue_Steady n⟩)], [], []⟩
theorem d_delay_Mean (n : Nat) (x : h_delay_Mean.X T) : denF (c_delay_Mean n) n Go.Proofs.Tryz.f11 p_delay_Mean h_delay_Mean o_delay_Mean x = delay_Mean n x := by kernel_rfl
theorem s_delay_Mean (n : Nat) : PCalls Go.Proofs.Tryz.prog Θ 11 ⟨h_delay_Mean, o_delay_Mean, delay_Mean n⟩ :=
  func_ok' (C := c_delay_Mean n) (n := n) (p := p_delay_Mean) (ok_of mixed eqsOk ⟨s_queue_Right n, s_delay_Total n, s_frac_Of n, s_queue_Steady n, trivial⟩ trivial trivial) Go.Proofs.Tryz.func11 (by kernel_rfl) (by kernel_rfl) (d_delay_Mean n) (by kernel_rfl)

/-- carrefour/carrefourlaw26.awake -/
def h_law26_awake : Shape := ⟨slotsOf 0 [], [], []⟩
def o_law26_awake : List (Ex × Shape) := [(.ret, ⟨slotsOf 1 [(0, .c (.hole (.bool)))], [], []⟩)]
noncomputable def law26_awake (n : Nat) (x0 : Unit) : Option (Bool) :=
  (delay_Total n (600, 1800, 0, 10, 20, 0, 10, 10)).bind fun y1 =>
  (delay_Formula n (40, 20, 1, 2)).bind fun y2 =>
  (delay_Mean n (600, 1800, 0, 10, 20)).bind fun y3 =>
  letJ (fun (x4 : Bool) =>
    some x4) fun J5 =>
  bif y1.2 == 0 then
    bif y1.1 == 33000 then
      bif y2.2.2 == 0 then
        bif (y2.1 == 10) && ((y2.2.1 == 1) && true) then
          bif y3.2.2 == 0 then
            J5 ((y3.1 == 15) && ((y3.2.1 == 4) && true))
          else
          J5 false
        else
        J5 false
      else
      J5 false
    else
    J5 false
  else
  J5 false
def p_law26_awake : Plan := .two (.leaf) (.two (.leaf) (.two (.leaf) (.two (.leaf) (.two (.leaf) (.two (.join ⟨slotsOf 49 [(0, .c (.hole (.bool)))], [], []⟩ (.leaf)) (.leaf))))))
noncomputable def c_law26_awake (n : Nat) : Cx := ⟨Go.Proofs.Tryz.prog, Θ, [33, 23, 78, 128, 163], [(8, ⟨h_delay_Total, o_delay_Total, delay_Total n⟩), (13, ⟨h_delay_Formula, o_delay_Formula, delay_Formula n⟩), (11, ⟨h_delay_Mean, o_delay_Mean, delay_Mean n⟩)], [], []⟩
theorem d_law26_awake (n : Nat) (x : h_law26_awake.X T) : denF (c_law26_awake n) n Go.Proofs.Tryz.f10 p_law26_awake h_law26_awake o_law26_awake x = law26_awake n x := by kernel_rfl
theorem s_law26_awake (n : Nat) : PCalls Go.Proofs.Tryz.prog Θ 10 ⟨h_law26_awake, o_law26_awake, law26_awake n⟩ :=
  func_ok' (C := c_law26_awake n) (n := n) (p := p_law26_awake) (ok_of mixed eqsOk ⟨s_delay_Total n, s_delay_Formula n, s_delay_Mean n, trivial⟩ trivial trivial) Go.Proofs.Tryz.func10 (by kernel_rfl) (by kernel_rfl) (d_law26_awake n) (by kernel_rfl)

/-- carrefour/carrefourlaw26.DelayTotal -/
def h_law26_DelayTotal : Shape := ⟨slotsOf 2 [(0, .agg [.hole (.int .i64), .hole (.int .i64), .hole (.int .i64), .hole (.int .i64), .hole (.int .i64)]), (1, .agg [.hole (.int .i64), .hole (.int .i64), .hole (.int .i64)])], [], []⟩
def o_law26_DelayTotal : List (Ex × Shape) := [(.ret, ⟨slotsOf 1 [(0, .c (.hole (.bool)))], [], []⟩)]
noncomputable def law26_DelayTotal (n : Nat) (x0 : Int × Int × Int × Int × Int × Int × Int × Int) : Option (Bool) :=
  bif inB 0 3 then
    bif inB 1 3 then
      bif inB 2 3 then
        letJ (fun (x1 : Int × Int × Int × Bool × Int × Int × Int × Int × Int) =>
          bif x1.2.2.2.1 then
            some true
          else
          (delay_Total n (x1.2.2.2.2.1, x1.2.2.2.2.2.1, x1.2.2.2.2.2.2.1, x1.2.2.2.2.2.2.2.1, x1.2.2.2.2.2.2.2.2, x1.1, x1.2.1, x1.2.2.1)).bind fun y3 =>
          (ref26_Total n (x1.2.2.2.2.1, x1.2.2.2.2.2.1, x1.2.2.2.2.2.2.1, x1.2.2.2.2.2.2.2.1, x1.2.2.2.2.2.2.2.2, x1.1, x1.2.1, x1.2.2.1)).bind fun y4 =>
          bif y3.1 == y4.1 then
            bif y3.2 == y4.2 then
              (law26_awake n ()).bind fun y5 =>
              some y5
            else
            some false
          else
          some false) fun J2 =>
        bif decide (3000 < x0.2.2.2.2.2.2.2) then
          J2 (x0.2.2.2.2.2.1, x0.2.2.2.2.2.2.1, x0.2.2.2.2.2.2.2, decide (x0.2.2.2.2.2.2.2 ≤ 1048576), x0.1, x0.2.1, x0.2.2.1, x0.2.2.2.1, x0.2.2.2.2.1)
        else
        J2 (x0.2.2.2.2.2.1, x0.2.2.2.2.2.2.1, x0.2.2.2.2.2.2.2, false, x0.1, x0.2.1, x0.2.2.1, x0.2.2.2.1, x0.2.2.2.2.1)
      else
      none
    else
    none
  else
  none
def p_law26_DelayTotal : Plan := .two (.leaf) (.two (.leaf) (.two (.two (.join ⟨slotsOf 51 [(2, .c (.box 2 0)), (5, .c (.hole (.int .i64))), (6, .c (.hole (.int .i64))), (7, .c (.hole (.int .i64))), (23, .c (.hole (.bool)))], [(2, 25, [.hole (.int .i64), .hole (.int .i64), .hole (.int .i64), .hole (.int .i64), .hole (.int .i64)])], []⟩ (.leaf)) (.leaf)) (.leaf)))
noncomputable def c_law26_DelayTotal (n : Nat) : Cx := ⟨Go.Proofs.Tryz.prog, Θ, [33, 23, 78, 128, 163], [(8, ⟨h_delay_Total, o_delay_Total, delay_Total n⟩), (9, ⟨h_ref26_Total, o_ref26_Total, ref26_Total n⟩), (10, ⟨h_law26_awake, o_law26_awake, law26_awake n⟩)], [], []⟩
theorem d_law26_DelayTotal (n : Nat) (x : h_law26_DelayTotal.X T) : denF (c_law26_DelayTotal n) n Go.Proofs.Tryz.f3 p_law26_DelayTotal h_law26_DelayTotal o_law26_DelayTotal x = law26_DelayTotal n x := by kernel_rfl
theorem s_law26_DelayTotal (n : Nat) : PCalls Go.Proofs.Tryz.prog Θ 3 ⟨h_law26_DelayTotal, o_law26_DelayTotal, law26_DelayTotal n⟩ :=
  func_ok' (C := c_law26_DelayTotal n) (n := n) (p := p_law26_DelayTotal) (ok_of mixed eqsOk ⟨s_delay_Total n, s_ref26_Total n, s_law26_awake n, trivial⟩ trivial trivial) Go.Proofs.Tryz.func3 (by kernel_rfl) (by kernel_rfl) (d_law26_DelayTotal n) (by kernel_rfl)

/-- carrefour/carrefourref25.May -/
def h_ref25_May : Shape := ⟨slotsOf 4 [(0, .agg [.hole (.int .i64), .hole (.int .i64), .hole (.int .i64), .hole (.int .i64), .hole (.int .i64)]), (1, .c (.hole (.int .i64))), (2, .c (.hole (.int .i64))), (3, .c (.hole (.int .i64)))], [], []⟩
def o_ref25_May : List (Ex × Shape) := [(.ret, ⟨slotsOf 1 [(0, .c (.hole (.bool)))], [], []⟩)]
def ref25_May (n : Nat) (x0 : Int × Int × Int × Int × Int × Int × Int × Int) : Option (Bool) :=
  letJ (fun (x2 : Bool) =>
    some x2) fun J3 =>
  (ref25_Right n (x0.1, x0.2.1, x0.2.2.1, x0.2.2.2.1, x0.2.2.2.2.1)).bind fun y1 =>
  bif y1 then
    bif decide (0 ≤ x0.2.2.2.2.2.1) then
      bif decide (x0.2.2.2.2.2.1 ≤ 1152921504606846976) then
        bif decide (0 ≤ x0.2.2.2.2.2.2.1) then
          bif decide (x0.2.2.2.2.2.2.1 ≤ 1099511627776) then
            bif decide (0 ≤ x0.2.2.2.2.2.2.2) then
              J3 (decide (x0.2.2.2.2.2.2.2 ≤ 1073741824))
            else
            J3 false
          else
          J3 false
        else
        J3 false
      else
      J3 false
    else
    J3 false
  else
  J3 false
def p_ref25_May : Plan := .two (.leaf) (.two (.join ⟨slotsOf 35 [(8, .c (.hole (.bool)))], [], []⟩ (.leaf)) (.leaf))
noncomputable def c_ref25_May (n : Nat) : Cx := ⟨Go.Proofs.Tryz.prog, Θ, [33, 23, 78, 128, 163], [(22, ⟨h_ref25_Right, o_ref25_Right, ref25_Right n⟩)], [], []⟩
theorem d_ref25_May (n : Nat) (x : h_ref25_May.X T) : denF (c_ref25_May n) n Go.Proofs.Tryz.f35 p_ref25_May h_ref25_May o_ref25_May x = ref25_May n x := by kernel_rfl
theorem s_ref25_May (n : Nat) : PCalls Go.Proofs.Tryz.prog Θ 35 ⟨h_ref25_May, o_ref25_May, ref25_May n⟩ :=
  func_ok' (C := c_ref25_May n) (n := n) (p := p_ref25_May) (ok_of mixed eqsOk ⟨s_ref25_Right n, trivial⟩ trivial trivial) Go.Proofs.Tryz.func35 (by kernel_rfl) (by kernel_rfl) (d_ref25_May n) (by kernel_rfl)

/-- carrefour/carrefourref25.After -/
def h_ref25_After : Shape := ⟨slotsOf 4 [(0, .agg [.hole (.int .i64), .hole (.int .i64), .hole (.int .i64), .hole (.int .i64), .hole (.int .i64)]), (1, .c (.hole (.int .i64))), (2, .c (.hole (.int .i64))), (3, .c (.hole (.int .i64)))], [], []⟩
def o_ref25_After : List (Ex × Shape) := [(.ret, ⟨slotsOf 2 [(0, .c (.hole (.int .i64))), (1, .c (.hole (.int .i64)))], [], []⟩)]
def ref25_After (n : Nat) (x0 : Int × Int × Int × Int × Int × Int × Int × Int) : Option (Int × Int) :=
  (ref25_May n x0).bind fun y1 =>
  bif !y1 then
    some (0, 1)
  else
  (iterL (Y := (Int)) n (fun (x2 : Int × Int × Int × Int × Int × Int × Int × Int × Int) =>
    bif decide (x2.2.2.2.1 < x2.2.2.1) then
      (ref25_Tick n (x2.2.2.2.2.1, x2.2.2.2.2.2.1, x2.2.2.2.2.2.2.1, x2.2.2.2.2.2.2.2.1, x2.2.2.2.2.2.2.2.2, x2.1, wrap64 (x2.2.1 + x2.2.2.2.1))).bind fun y3 =>
      some (.inl (y3, x2.2.1, x2.2.2.1, wrap64 (x2.2.2.2.1 + 1), x2.2.2.2.2))
    else
    some (.inr x2.1)) (x0.2.2.2.2.2.1, x0.2.2.2.2.2.2.1, x0.2.2.2.2.2.2.2, 0, x0.1, x0.2.1, x0.2.2.1, x0.2.2.2.1, x0.2.2.2.2.1)).bind fun (z4 : Int) =>
    some (z4, 0)
def p_ref25_After : Plan := .two (.leaf) (.two (.leaf) (.two (.two (.leaf) (.one (.loop ⟨slotsOf 29 [(1, .c (.hole (.int .i64))), (2, .c (.hole (.int .i64))), (3, .c (.hole (.int .i64))), (4, .c (.box 4 0)), (10, .c (.hole (.int .i64)))], [(4, 25, [.hole (.int .i64), .hole (.int .i64), .hole (.int .i64), .hole (.int .i64), .hole (.int .i64)])], []⟩ [(.exit 0, ⟨slotsOf 29 [(1, .c (.hole (.int .i64)))], [], []⟩)] (.leaf)))) (.leaf)))
noncomputable def c_ref25_After (n : Nat) : Cx := ⟨Go.Proofs.Tryz.prog, Θ, [33, 23, 78, 128, 163], [(23, ⟨h_ref25_Tick, o_ref25_Tick, ref25_Tick n⟩), (35, ⟨h_ref25_May, o_ref25_May, ref25_May n⟩)], [], []⟩
theorem d_ref25_After (n : Nat) (x : h_ref25_After.X T) : denF (c_ref25_After n) n Go.Proofs.Tryz.f15 p_ref25_After h_ref25_After o_ref25_After x = ref25_After n x := by kernel_rfl
theorem s_ref25_After (n : Nat) : PCalls Go.Proofs.Tryz.prog Θ 15 ⟨h_ref25_After, o_ref25_After, ref25_After n⟩ :=
  func_ok' (C := c_ref25_After n) (n := n) (p := p_ref25_After) (ok_of mixed eqsOk ⟨s_ref25_Tick n, s_ref25_May n, trivial⟩ trivial trivial) Go.Proofs.Tryz.func15 (by kernel_rfl) (by kernel_rfl) (d_ref25_After n) (by kernel_rfl)

/-- carrefour/carrefourlaw26.DelaySplit -/
def h_law26_DelaySplit : Shape := ⟨slotsOf 2 [(0, .agg [.hole (.int .i64), .hole (.int .i64), .hole (.int .i64), .hole (.int .i64), .hole (.int .i64)]), (1, .agg [.hole (.int .i64), .hole (.int .i64), .hole (.int .i64), .hole (.int .i64)])], [], []⟩
def o_law26_DelaySplit : List (Ex × Shape) := [(.ret, ⟨slotsOf 1 [(0, .c (.hole (.bool)))], [], []⟩)]
noncomputable def law26_DelaySplit (n : Nat) (x0 : Int × Int × Int × Int × Int × Int × Int × Int × Int) : Option (Bool) :=
  bif inB 0 4 then
    bif inB 1 4 then
      bif inB 2 4 then
        bif inB 3 4 then
          letJ (fun (x1 : Int × Int × Int × Int × Bool × Int × Int × Int × Int × Int) =>
            bif x1.2.2.2.2.1 then
              (law26_awake n ()).bind fun y3 =>
              some y3
            else
              (delay_Total n (x1.2.2.2.2.2.1, x1.2.2.2.2.2.2.1, x1.2.2.2.2.2.2.2.1, x1.2.2.2.2.2.2.2.2.1, x1.2.2.2.2.2.2.2.2.2, x1.1, x1.2.1, x1.2.2.1)).bind fun y4 =>
              (ref25_After n (x1.2.2.2.2.2.1, x1.2.2.2.2.2.2.1, x1.2.2.2.2.2.2.2.1, x1.2.2.2.2.2.2.2.2.1, x1.2.2.2.2.2.2.2.2.2, x1.1, x1.2.1, x1.2.2.1)).bind fun y5 =>
              letJ (fun (x6 : Int × Int × Int × Int × Int × Int × Bool × Int × Int × Int × Int × Int) =>
                bif x6.2.2.2.2.2.2.1 then
                  (law26_awake n ()).bind fun y8 =>
                  some y8
                else
                  (delay_Total n (x6.2.2.2.2.2.2.2.1, x6.2.2.2.2.2.2.2.2.1, x6.2.2.2.2.2.2.2.2.2.1, x6.2.2.2.2.2.2.2.2.2.2.1, x6.2.2.2.2.2.2.2.2.2.2.2, x6.2.2.2.2.2.1, wrap64 (x6.2.1 + x6.2.2.1), x6.2.2.2.1)).bind fun y9 =>
                  (delay_Total n (x6.2.2.2.2.2.2.2.1, x6.2.2.2.2.2.2.2.2.1, x6.2.2.2.2.2.2.2.2.2.1, x6.2.2.2.2.2.2.2.2.2.2.1, x6.2.2.2.2.2.2.2.2.2.2.2, x6.1, x6.2.1, wrap64 (x6.2.2.1 + x6.2.2.2.1))).bind fun y10 =>
                  (ref01_Add n (x6.2.2.2.2.1, y9.1)).bind fun y11 =>
                  letJ (fun (x12 : Int × Int × Int × Int × Int × Int × Int × Bool × Int × Int × Int × Int × Int) =>
                    bif x12.2.2.2.2.2.2.2.1 then
                      bif x12.2.2.2.2.2.1 == 2 then
                        (law26_awake n ()).bind fun y14 =>
                        some y14
                      else
                      some false
                    else
                      (ref25_After n (x12.2.2.2.2.2.2.2.2.1, x12.2.2.2.2.2.2.2.2.2.1, x12.2.2.2.2.2.2.2.2.2.2.1, x12.2.2.2.2.2.2.2.2.2.2.2.1, x12.2.2.2.2.2.2.2.2.2.2.2.2, x12.2.2.2.1, wrap64 (x12.1 + x12.2.1), x12.2.2.1)).bind fun y15 =>
                      letJ (fun (x18 : Bool) =>
                        some x18) fun J19 =>
                      bif x12.2.2.2.2.2.1 == 0 then
                        bif x12.2.2.2.2.1 == x12.2.2.2.2.2.2.1 then
                          bif (wrap64 (x12.2.1 + x12.2.2.1)) == 0 then
                            (law26_awake n ()).bind fun y16 =>
                            J19 y16
                          else
                            bif decide (y15.1 ≤ x12.2.2.2.2.1) then
                              (law26_awake n ()).bind fun y17 =>
                              J19 y17
                            else
                            J19 false
                        else
                        J19 false
                      else
                      J19 false) fun J13 =>
                  bif !(y9.2 == 0) then
                    J13 (x6.2.1, x6.2.2.1, x6.2.2.2.1, x6.2.2.2.2.2.1, y10.1, y10.2, y11.1, true, x6.2.2.2.2.2.2.2)
                  else
                  J13 (x6.2.1, x6.2.2.1, x6.2.2.2.1, x6.2.2.2.2.2.1, y10.1, y10.2, y11.1, !(y11.2 == 0), x6.2.2.2.2.2.2.2)) fun J7 =>
              bif !(y4.2 == 0) then
                J7 (x1.1, x1.2.1, x1.2.2.1, x1.2.2.2.1, y4.1, y5.1, true, x1.2.2.2.2.2)
              else
              bif !(y5.2 == 0) then
                J7 (x1.1, x1.2.1, x1.2.2.1, x1.2.2.2.1, y4.1, y5.1, true, x1.2.2.2.2.2)
              else
              J7 (x1.1, x1.2.1, x1.2.2.1, x1.2.2.2.1, y4.1, y5.1, decide (1099511627776 < y5.1), x1.2.2.2.2.2)) fun J2 =>
          bif decide (x0.2.2.2.2.2.2.2.1 < 0) then
            J2 (x0.2.2.2.2.2.1, x0.2.2.2.2.2.2.1, x0.2.2.2.2.2.2.2.1, x0.2.2.2.2.2.2.2.2, true, x0.1, x0.2.1, x0.2.2.1, x0.2.2.2.1, x0.2.2.2.2.1)
          else
          bif decide (3000 < x0.2.2.2.2.2.2.2.1) then
            J2 (x0.2.2.2.2.2.1, x0.2.2.2.2.2.2.1, x0.2.2.2.2.2.2.2.1, x0.2.2.2.2.2.2.2.2, true, x0.1, x0.2.1, x0.2.2.1, x0.2.2.2.1, x0.2.2.2.2.1)
          else
          bif decide (x0.2.2.2.2.2.2.2.2 < 0) then
            J2 (x0.2.2.2.2.2.1, x0.2.2.2.2.2.2.1, x0.2.2.2.2.2.2.2.1, x0.2.2.2.2.2.2.2.2, true, x0.1, x0.2.1, x0.2.2.1, x0.2.2.2.1, x0.2.2.2.2.1)
          else
          bif decide (3000 < x0.2.2.2.2.2.2.2.2) then
            J2 (x0.2.2.2.2.2.1, x0.2.2.2.2.2.2.1, x0.2.2.2.2.2.2.2.1, x0.2.2.2.2.2.2.2.2, true, x0.1, x0.2.1, x0.2.2.1, x0.2.2.2.1, x0.2.2.2.2.1)
          else
          bif decide (x0.2.2.2.2.2.2.1 < 0) then
            J2 (x0.2.2.2.2.2.1, x0.2.2.2.2.2.2.1, x0.2.2.2.2.2.2.2.1, x0.2.2.2.2.2.2.2.2, true, x0.1, x0.2.1, x0.2.2.1, x0.2.2.2.1, x0.2.2.2.2.1)
          else
          J2 (x0.2.2.2.2.2.1, x0.2.2.2.2.2.2.1, x0.2.2.2.2.2.2.2.1, x0.2.2.2.2.2.2.2.2, decide (1073741824 < x0.2.2.2.2.2.2.1), x0.1, x0.2.1, x0.2.2.1, x0.2.2.2.1, x0.2.2.2.2.1)
        else
        none
      else
      none
    else
    none
  else
  none
def p_law26_DelaySplit : Plan := .two (.leaf) (.two (.leaf) (.two (.two (.join ⟨slotsOf 147 [(2, .c (.box 2 0)), (5, .c (.hole (.int .i64))), (6, .c (.hole (.int .i64))), (7, .c (.hole (.int .i64))), (8, .c (.hole (.int .i64))), (50, .c (.hole (.bool)))], [(2, 25, [.hole (.int .i64), .hole (.int .i64), .hole (.int .i64), .hole (.int .i64), .hole (.int .i64)])], []⟩ (.leaf)) (.leaf)) (.two (.leaf) (.two (.leaf) (.two (.two (.join ⟨slotsOf 147 [(2, .c (.box 2 0)), (5, .c (.hole (.int .i64))), (6, .c (.hole (.int .i64))), (7, .c (.hole (.int .i64))), (8, .c (.hole (.int .i64))), (9, .c (.hole (.int .i64))), (11, .c (.hole (.int .i64))), (77, .c (.hole (.bool)))], [(2, 25, [.hole (.int .i64), .hole (.int .i64), .hole (.int .i64), .hole (.int .i64), .hole (.int .i64)])], []⟩ (.leaf)) (.leaf)) (.two (.leaf) (.two (.leaf) (.two (.leaf) (.two (.two (.join ⟨slotsOf 147 [(2, .c (.box 2 0)), (6, .c (.hole (.int .i64))), (7, .c (.hole (.int .i64))), (8, .c (.hole (.int .i64))), (11, .c (.hole (.int .i64))), (15, .c (.hole (.int .i64))), (16, .c (.hole (.int .i64))), (17, .c (.hole (.int .i64))), (110, .c (.hole (.bool)))], [(2, 25, [.hole (.int .i64), .hole (.int .i64), .hole (.int .i64), .hole (.int .i64), .hole (.int .i64)])], []⟩ (.leaf)) (.leaf)) (.two (.leaf) (.two (.join ⟨slotsOf 147 [(4, .c (.hole (.bool)))], [], []⟩ (.leaf)) (.leaf))))))))))))
noncomputable def c_law26_DelaySplit (n : Nat) : Cx := ⟨Go.Proofs.Tryz.prog, Θ, [33, 23, 78, 128, 163], [(8, ⟨h_delay_Total, o_delay_Total, delay_Total n⟩), (16, ⟨h_ref01_Add, o_ref01_Add, ref01_Add n⟩), (10, ⟨h_law26_awake, o_law26_awake, law26_awake n⟩), (15, ⟨h_ref25_After, o_ref25_After, ref25_After n⟩)], [], []⟩
theorem d_law26_DelaySplit (n : Nat) (x : h_law26_DelaySplit.X T) : denF (c_law26_DelaySplit n) n Go.Proofs.Tryz.f6 p_law26_DelaySplit h_law26_DelaySplit o_law26_DelaySplit x = law26_DelaySplit n x := by kernel_rfl
theorem s_law26_DelaySplit (n : Nat) : PCalls Go.Proofs.Tryz.prog Θ 6 ⟨h_law26_DelaySplit, o_law26_DelaySplit, law26_DelaySplit n⟩ :=
  func_ok' (C := c_law26_DelaySplit n) (n := n) (p := p_law26_DelaySplit) (ok_of mixed eqsOk ⟨s_delay_Total n, s_ref01_Add n, s_law26_awake n, s_ref25_After n, trivial⟩ trivial trivial) Go.Proofs.Tryz.func6 (by kernel_rfl) (by kernel_rfl) (d_law26_DelaySplit n) (by kernel_rfl)

end Go.Proofs.YtiildimlelphhaaGreatDoor.Fn
