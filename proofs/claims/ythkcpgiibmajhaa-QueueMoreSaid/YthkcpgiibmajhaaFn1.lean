/- Functions of the program, each as a plain function, and that the machine does what it says. -/
import Derived.Test.YthkcpgiibmajhaaFn0
namespace Go.Proofs.Ythkcpgiibmajhaa.Fn
set_option linter.unusedVariables false
open Go Go.RowKit Go.Den
def p26 : List PD := [.agg [.int .i64, .int .i64, .int .i64, .int .i64, .int .i64]]
def r26 : List PD := [.one (.bool)]
/-- carrefour/carrefourref25.Right -/
def f26 (n : Nat) (x0 : Int × Int × Int × Int × Int) : Option (Bool) :=
  letJ (fun (x2 : Bool) =>
    some x2) fun J3 =>
  (f28 n x0.2.2.2.2).bind fun y1 =>
  bif y1 then
    bif decide (0 ≤ x0.1) then
      bif decide (x0.1 ≤ 1000000000) then
        bif decide (0 ≤ x0.2.1) then
          J3 (decide (x0.2.1 ≤ 1000000000))
        else
        J3 false
      else
      J3 false
    else
    J3 false
  else
  J3 false
def plan26 : Plan := .two (.leaf) (.two (.join ⟨slotsOf 26 [(2, .c (.hole (.bool)))], [], []⟩ (.leaf)) (.leaf))
noncomputable def c26 (n : Nat) : Cx := ⟨Go.Proofs.Try.prog, Θ, [], [(28, ⟨p28, r28, f28 n⟩)]⟩
theorem d26 (n : Nat) (x : Int × Int × Int × Int × Int) : denF (c26 n) n Go.Proofs.Try.f26 plan26 p26 r26 x = f26 n x := by kernel_rfl
theorem s26 (n : Nat) : PCalls Go.Proofs.Try.prog Θ 26 ⟨p26, r26, f26 n⟩ :=
  func_ok' (C := c26 n) (n := n) (p := plan26) (ok_of mixed eqsOk ⟨s28 n, trivial⟩) Go.Proofs.Try.func26 (by kernel_rfl) (d26 n) (by kernel_rfl)
def p18 : List PD := [.agg [.int .i64, .int .i64, .int .i64, .int .i64, .int .i64], .one (.int .i64), .one (.int .i64), .one (.int .i64)]
def r18 : List PD := [.one (.bool)]
/-- carrefour/carrefourref25.May -/
def f18 (n : Nat) (x0 : (Int × Int × Int × Int × Int) × Int × Int × Int) : Option (Bool) :=
  letJ (fun (x2 : Bool) =>
    some x2) fun J3 =>
  (f26 n x0.1).bind fun y1 =>
  bif y1 then
    bif decide (0 ≤ x0.2.1) then
      bif decide (x0.2.1 ≤ 1152921504606846976) then
        bif decide (0 ≤ x0.2.2.1) then
          bif decide (x0.2.2.1 ≤ 1099511627776) then
            bif decide (0 ≤ x0.2.2.2) then
              J3 (decide (x0.2.2.2 ≤ 1073741824))
            else
            J3 false
          else
          J3 false
        else
        J3 false
      else
      J3 false
    else
    J3 false
  else
  J3 false
def plan18 : Plan := .two (.leaf) (.two (.join ⟨slotsOf 35 [(8, .c (.hole (.bool)))], [], []⟩ (.leaf)) (.leaf))
noncomputable def c18 (n : Nat) : Cx := ⟨Go.Proofs.Try.prog, Θ, [], [(26, ⟨p26, r26, f26 n⟩)]⟩
theorem d18 (n : Nat) (x : (Int × Int × Int × Int × Int) × Int × Int × Int) : denF (c18 n) n Go.Proofs.Try.f18 plan18 p18 r18 x = f18 n x := by kernel_rfl
theorem s18 (n : Nat) : PCalls Go.Proofs.Try.prog Θ 18 ⟨p18, r18, f18 n⟩ :=
  func_ok' (C := c18 n) (n := n) (p := plan18) (ok_of mixed eqsOk ⟨s26 n, trivial⟩) Go.Proofs.Try.func18 (by kernel_rfl) (d18 n) (by kernel_rfl)
def p29 : List PD := [.one (.int .i64), .one (.int .i64)]
def r29 : List PD := [.one (.int .i64)]
/-- carrefour/carrefourref03.Mod -/
def f29 (n : Nat) (x0 : Int × Int) : Option (Int) :=
  let e0 := Int.tmod x0.1 x0.2
  bif !(x0.2 == 0) then
    bif decide (e0 < 0) then
      some (wrap64 (e0 + x0.2))
    else
    some e0
  else
  none
def plan29 : Plan := .leaf
noncomputable def c29 (n : Nat) : Cx := ⟨Go.Proofs.Try.prog, Θ, [], []⟩
theorem d29 (n : Nat) (x : Int × Int) : denF (c29 n) n Go.Proofs.Try.f29 plan29 p29 r29 x = f29 n x := by kernel_rfl
theorem s29 (n : Nat) : PCalls Go.Proofs.Try.prog Θ 29 ⟨p29, r29, f29 n⟩ :=
  func_ok' (C := c29 n) (n := n) (p := plan29) (ok_of mixed eqsOk trivial) Go.Proofs.Try.func29 (by kernel_rfl) (d29 n) (by kernel_rfl)
def p27 : List PD := [.one (.int .i64), .agg [.int .i64, .int .i64], .one (.int .i64)]
def r27 : List PD := [.one (.bool)]
/-- carrefour/carrefourref03.In -/
def f27 (n : Nat) (x0 : Int × (Int × Int) × Int) : Option (Bool) :=
  letJ (fun (x2 : Int × Int × Bool × Int × Int) =>
    bif x2.2.2.1 then
      some false
    else
    bif decide (x2.1 ≤ x2.2.2.2.2) then
      some true
    else
    (f29 n (x2.2.1, x2.1)).bind fun y4 =>
    (f29 n (x2.2.2.2.1, x2.1)).bind fun y5 =>
    (f29 n (wrap64 (y4 - y5), x2.1)).bind fun y6 =>
    some (decide (y6 < x2.2.2.2.2))) fun J3 =>
  (f28 n x0.1).bind fun y1 =>
  bif !y1 then
    J3 (x0.1, x0.2.2, true, x0.2.1)
  else
  J3 (x0.1, x0.2.2, decide (x0.2.1.2 < 1), x0.2.1)
def plan27 : Plan := .two (.leaf) (.two (.two (.join ⟨slotsOf 34 [(0, .c (.hole (.int .i64))), (2, .c (.hole (.int .i64))), (4, .c (.box 4 0)), (14, .c (.hole (.bool)))], [(4, 23, [.hole (.int .i64), .hole (.int .i64)])], []⟩ (.leaf)) (.leaf)) (.leaf))
noncomputable def c27 (n : Nat) : Cx := ⟨Go.Proofs.Try.prog, Θ, [], [(29, ⟨p29, r29, f29 n⟩), (28, ⟨p28, r28, f28 n⟩)]⟩
theorem d27 (n : Nat) (x : Int × (Int × Int) × Int) : denF (c27 n) n Go.Proofs.Try.f27 plan27 p27 r27 x = f27 n x := by kernel_rfl
theorem s27 (n : Nat) : PCalls Go.Proofs.Try.prog Θ 27 ⟨p27, r27, f27 n⟩ :=
  func_ok' (C := c27 n) (n := n) (p := plan27) (ok_of mixed eqsOk ⟨s29 n, s28 n, trivial⟩) Go.Proofs.Try.func27 (by kernel_rfl) (d27 n) (by kernel_rfl)
def p19 : List PD := [.agg [.int .i64, .int .i64, .int .i64, .int .i64, .int .i64], .one (.int .i64), .one (.int .i64)]
def r19 : List PD := [.one (.int .i64)]
/-- carrefour/carrefourref25.Tick -/
def f19 (n : Nat) (x0 : (Int × Int × Int × Int × Int) × Int × Int) : Option (Int) :=
  let e0 := wrap64 (x0.2.1 + x0.1.1)
  (f27 n (x0.1.2.2.2.2, (x0.1.2.2.1, x0.1.2.2.2.1), x0.2.2)).bind fun y1 =>
  bif y1 then
    some (mx 0 (wrap64 (e0 - x0.1.2.1)))
  else
  some e0
def plan19 : Plan := .leaf
noncomputable def c19 (n : Nat) : Cx := ⟨Go.Proofs.Try.prog, Θ, [], [(27, ⟨p27, r27, f27 n⟩)]⟩
theorem d19 (n : Nat) (x : (Int × Int × Int × Int × Int) × Int × Int) : denF (c19 n) n Go.Proofs.Try.f19 plan19 p19 r19 x = f19 n x := by kernel_rfl
theorem s19 (n : Nat) : PCalls Go.Proofs.Try.prog Θ 19 ⟨p19, r19, f19 n⟩ :=
  func_ok' (C := c19 n) (n := n) (p := plan19) (ok_of mixed eqsOk ⟨s27 n, trivial⟩) Go.Proofs.Try.func19 (by kernel_rfl) (d19 n) (by kernel_rfl)
def p8 : List PD := [.agg [.int .i64, .int .i64, .int .i64, .int .i64, .int .i64], .one (.int .i64), .one (.int .i64), .one (.int .i64)]
def r8 : List PD := [.one (.int .i64), .one (.int .i64)]
/-- carrefour/carrefourref25.After -/
def f8 (n : Nat) (x0 : (Int × Int × Int × Int × Int) × Int × Int × Int) : Option (Int × Int) :=
  (f18 n x0).bind fun y1 =>
  bif !y1 then
    some (0, 1)
  else
  (iterL (Y := (Int)) n (fun (x2 : Int × Int × Int × Int × Int × Int × Int × Int × Int) =>
    bif decide (x2.2.2.2.1 < x2.2.2.1) then
      (f19 n (x2.2.2.2.2, x2.1, wrap64 (x2.2.1 + x2.2.2.2.1))).bind fun y3 =>
      some (.inl (y3, x2.2.1, x2.2.2.1, wrap64 (x2.2.2.2.1 + 1), x2.2.2.2.2))
    else
    some (.inr x2.1)) (x0.2.1, x0.2.2.1, x0.2.2.2, 0, x0.1)).bind fun (z4 : Int) =>
    some (z4, 0)
def plan8 : Plan := .two (.leaf) (.two (.leaf) (.two (.two (.leaf) (.one (.loop ⟨slotsOf 29 [(1, .c (.hole (.int .i64))), (2, .c (.hole (.int .i64))), (3, .c (.hole (.int .i64))), (4, .c (.box 4 0)), (10, .c (.hole (.int .i64)))], [(4, 25, [.hole (.int .i64), .hole (.int .i64), .hole (.int .i64), .hole (.int .i64), .hole (.int .i64)])], []⟩ [(.exit 0, ⟨slotsOf 29 [(1, .c (.hole (.int .i64)))], [], []⟩)] (.leaf)))) (.leaf)))
noncomputable def c8 (n : Nat) : Cx := ⟨Go.Proofs.Try.prog, Θ, [], [(18, ⟨p18, r18, f18 n⟩), (19, ⟨p19, r19, f19 n⟩)]⟩
theorem d8 (n : Nat) (x : (Int × Int × Int × Int × Int) × Int × Int × Int) : denF (c8 n) n Go.Proofs.Try.f8 plan8 p8 r8 x = f8 n x := by kernel_rfl
theorem s8 (n : Nat) : PCalls Go.Proofs.Try.prog Θ 8 ⟨p8, r8, f8 n⟩ :=
  func_ok' (C := c8 n) (n := n) (p := plan8) (ok_of mixed eqsOk ⟨s18 n, s19 n, trivial⟩) Go.Proofs.Try.func8 (by kernel_rfl) (d8 n) (by kernel_rfl)
def p20 : List PD := [.agg [.int .i64, .int .i64, .int .i64, .int .i64], .one (.int .i64)]
def r20 : List PD := [.one (.int .i64)]
/-- (carrefour/queue.effect).peak -/
def f20 (n : Nat) (x0 : (Int × Int × Int × Int) × Int) : Option (Int) :=
  some (mx (wrap64 (x0.2 + x0.1.2.2.1)) x0.1.2.2.2)
def plan20 : Plan := .leaf
noncomputable def c20 (n : Nat) : Cx := ⟨Go.Proofs.Try.prog, Θ, [], []⟩
theorem d20 (n : Nat) (x : (Int × Int × Int × Int) × Int) : denF (c20 n) n Go.Proofs.Try.f20 plan20 p20 r20 x = f20 n x := by kernel_rfl
theorem s20 (n : Nat) : PCalls Go.Proofs.Try.prog Θ 20 ⟨p20, r20, f20 n⟩ :=
  func_ok' (C := c20 n) (n := n) (p := plan20) (ok_of mixed eqsOk trivial) Go.Proofs.Try.func20 (by kernel_rfl) (d20 n) (by kernel_rfl)
def p9 : List PD := [.agg [.int .i64, .int .i64, .int .i64, .int .i64, .int .i64], .one (.int .i64), .one (.int .i64), .one (.int .i64)]
def r9 : List PD := [.one (.int .i64), .one (.int .i64)]
/-- carrefour/queue.Peak -/
def f9 (n : Nat) (x0 : (Int × Int × Int × Int × Int) × Int × Int × Int) : Option (Int × Int) :=
  (f16 n x0).bind fun y1 =>
  bif !y1.2 then
    some (0, 1)
  else
  (f20 n (y1.1, x0.2.1)).bind fun y2 =>
  some (y2, 0)
def plan9 : Plan := .leaf
noncomputable def c9 (n : Nat) : Cx := ⟨Go.Proofs.Try.prog, Θ, [], [(16, ⟨p16, r16, f16 n⟩), (20, ⟨p20, r20, f20 n⟩)]⟩
theorem d9 (n : Nat) (x : (Int × Int × Int × Int × Int) × Int × Int × Int) : denF (c9 n) n Go.Proofs.Try.f9 plan9 p9 r9 x = f9 n x := by kernel_rfl
theorem s9 (n : Nat) : PCalls Go.Proofs.Try.prog Θ 9 ⟨p9, r9, f9 n⟩ :=
  func_ok' (C := c9 n) (n := n) (p := plan9) (ok_of mixed eqsOk ⟨s16 n, s20 n, trivial⟩) Go.Proofs.Try.func9 (by kernel_rfl) (d9 n) (by kernel_rfl)
def p10 : List PD := [.agg [.int .i64, .int .i64, .int .i64, .int .i64, .int .i64], .one (.int .i64), .one (.int .i64), .one (.int .i64)]
def r10 : List PD := [.one (.int .i64), .one (.int .i64)]
/-- carrefour/carrefourref25.Peak -/
def f10 (n : Nat) (x0 : (Int × Int × Int × Int × Int) × Int × Int × Int) : Option (Int × Int) :=
  (f18 n x0).bind fun y1 =>
  bif !y1 then
    some (0, 1)
  else
  (iterL (Y := (Int)) n (fun (x2 : Int × Int × Int × Int × Int × Int × Int × Int × Int × Int) =>
    bif decide (x2.2.2.2.2.1 < x2.2.2.1) then
      (f19 n (x2.2.2.2.2.2, x2.1, wrap64 (x2.2.1 + x2.2.2.2.2.1))).bind fun y3 =>
      some (.inl (y3, x2.2.1, x2.2.2.1, mx x2.2.2.2.1 y3, wrap64 (x2.2.2.2.2.1 + 1), x2.2.2.2.2.2))
    else
    some (.inr x2.2.2.2.1)) (x0.2.1, x0.2.2.1, x0.2.2.2, x0.2.1, 0, x0.1)).bind fun (z4 : Int) =>
    some (z4, 0)
def plan10 : Plan := .two (.leaf) (.two (.leaf) (.two (.leaf) (.two (.two (.leaf) (.one (.loop ⟨slotsOf 34 [(1, .c (.hole (.int .i64))), (2, .c (.hole (.int .i64))), (3, .c (.hole (.int .i64))), (4, .c (.box 4 0)), (10, .c (.hole (.int .i64))), (11, .c (.hole (.int .i64)))], [(4, 25, [.hole (.int .i64), .hole (.int .i64), .hole (.int .i64), .hole (.int .i64), .hole (.int .i64)])], []⟩ [(.exit 0, ⟨slotsOf 34 [(10, .c (.hole (.int .i64)))], [], []⟩)] (.leaf)))) (.leaf))))
noncomputable def c10 (n : Nat) : Cx := ⟨Go.Proofs.Try.prog, Θ, [], [(18, ⟨p18, r18, f18 n⟩), (19, ⟨p19, r19, f19 n⟩)]⟩
theorem d10 (n : Nat) (x : (Int × Int × Int × Int × Int) × Int × Int × Int) : denF (c10 n) n Go.Proofs.Try.f10 plan10 p10 r10 x = f10 n x := by kernel_rfl
theorem s10 (n : Nat) : PCalls Go.Proofs.Try.prog Θ 10 ⟨p10, r10, f10 n⟩ :=
  func_ok' (C := c10 n) (n := n) (p := plan10) (ok_of mixed eqsOk ⟨s18 n, s19 n, trivial⟩) Go.Proofs.Try.func10 (by kernel_rfl) (d10 n) (by kernel_rfl)
def p15 : List PD := [.agg [.int .i64, .int .i64, .int .i64, .int .i64, .int .i64]]
def r15 : List PD := [.one (.bool)]
/-- carrefour/queue.Serves -/
def f15 (n : Nat) (x0 : Int × Int × Int × Int × Int) : Option (Bool) :=
  (f14 n x0).bind fun y1 =>
  bif y1 then
    (f25 n (x0.2.2.2.2, x0.2.2.1, x0.2.2.2.1)).bind fun y2 =>
    some (decide (wrap64 (x0.1 * x0.2.2.2.2) ≤ wrap64 (x0.2.1 * y2.2)))
  else
  some false
def plan15 : Plan := .leaf
noncomputable def c15 (n : Nat) : Cx := ⟨Go.Proofs.Try.prog, Θ, [], [(14, ⟨p14, r14, f14 n⟩), (25, ⟨p25, r25, f25 n⟩)]⟩
theorem d15 (n : Nat) (x : Int × Int × Int × Int × Int) : denF (c15 n) n Go.Proofs.Try.f15 plan15 p15 r15 x = f15 n x := by kernel_rfl
theorem s15 (n : Nat) : PCalls Go.Proofs.Try.prog Θ 15 ⟨p15, r15, f15 n⟩ :=
  func_ok' (C := c15 n) (n := n) (p := plan15) (ok_of mixed eqsOk ⟨s14 n, s25 n, trivial⟩) Go.Proofs.Try.func15 (by kernel_rfl) (d15 n) (by kernel_rfl)
def p11 : List PD := []
def r11 : List PD := [.one (.bool)]
/-- carrefour/carrefourlaw25.awake -/
def f11 (n : Nat) (x0 : Unit) : Option (Bool) :=
  (f7 n ((600, 1800, 0, 10, 40), 0, 10, 30)).bind fun y1 =>
  (f7 n ((600, 1800, 0, 10, 40), 18000, 40, 10)).bind fun y2 =>
  (f9 n ((600, 1800, 0, 10, 40), 0, 10, 40)).bind fun y3 =>
  letJ (fun (x6 : Bool) =>
    some x6) fun J7 =>
  bif y1.2 == 0 then
    bif y1.1 == 18000 then
      bif y2.2 == 0 then
        bif y2.1 == 6000 then
          bif y3.2 == 0 then
            bif y3.1 == 18000 then
              (f15 n (600, 1800, 0, 10, 40)).bind fun y4 =>
              bif !y4 then
                (f14 n (600, 1800, 0, 10, 40)).bind fun y5 =>
                J7 y5
              else
              J7 false
            else
            J7 false
          else
          J7 false
        else
        J7 false
      else
      J7 false
    else
    J7 false
  else
  J7 false
def plan11 : Plan := .two (.leaf) (.two (.leaf) (.two (.leaf) (.two (.leaf) (.two (.leaf) (.two (.join ⟨slotsOf 56 [(0, .c (.hole (.bool)))], [], []⟩ (.leaf)) (.leaf))))))
noncomputable def c11 (n : Nat) : Cx := ⟨Go.Proofs.Try.prog, Θ, [], [(7, ⟨p7, r7, f7 n⟩), (9, ⟨p9, r9, f9 n⟩), (15, ⟨p15, r15, f15 n⟩), (14, ⟨p14, r14, f14 n⟩)]⟩
theorem d11 (n : Nat) (x : Unit) : denF (c11 n) n Go.Proofs.Try.f11 plan11 p11 r11 x = f11 n x := by kernel_rfl
theorem s11 (n : Nat) : PCalls Go.Proofs.Try.prog Θ 11 ⟨p11, r11, f11 n⟩ :=
  func_ok' (C := c11 n) (n := n) (p := plan11) (ok_of mixed eqsOk ⟨s7 n, s9 n, s15 n, s14 n, trivial⟩) Go.Proofs.Try.func11 (by kernel_rfl) (d11 n) (by kernel_rfl)
def p3 : List PD := [.agg [.int .i64, .int .i64, .int .i64, .int .i64, .int .i64], .agg [.int .i64, .int .i64, .int .i64]]
def r3 : List PD := [.one (.bool)]
/-- carrefour/carrefourlaw25.QueueAfter -/
def f3 (n : Nat) (x0 : (Int × Int × Int × Int × Int) × Int × Int × Int) : Option (Bool) :=
  bif inB 0 3 then
    bif inB 1 3 then
      bif inB 2 3 then
        letJ (fun (x1 : Int × Int × Int × Bool × Int × Int × Int × Int × Int) =>
          bif x1.2.2.2.1 then
            some true
          else
          (f7 n (x1.2.2.2.2, x1.1, x1.2.1, x1.2.2.1)).bind fun y3 =>
          (f8 n (x1.2.2.2.2, x1.1, x1.2.1, x1.2.2.1)).bind fun y4 =>
          (f9 n (x1.2.2.2.2, x1.1, x1.2.1, x1.2.2.1)).bind fun y5 =>
          (f10 n (x1.2.2.2.2, x1.1, x1.2.1, x1.2.2.1)).bind fun y6 =>
          letJ (fun (x8 : Bool) =>
            some x8) fun J9 =>
          bif y3.1 == y4.1 then
            bif y3.2 == y4.2 then
              bif y5.1 == y6.1 then
                bif y5.2 == y6.2 then
                  (f11 n ()).bind fun y7 =>
                  J9 y7
                else
                J9 false
              else
              J9 false
            else
            J9 false
          else
          J9 false) fun J2 =>
        bif decide (3000 < x0.2.2.2) then
          J2 (x0.2.1, x0.2.2.1, x0.2.2.2, decide (x0.2.2.2 ≤ 1073741824), x0.1)
        else
        J2 (x0.2.1, x0.2.2.1, x0.2.2.2, false, x0.1)
      else
      none
    else
    none
  else
  none
def plan3 : Plan := .two (.leaf) (.two (.leaf) (.two (.two (.join ⟨slotsOf 81 [(2, .c (.box 2 0)), (5, .c (.hole (.int .i64))), (6, .c (.hole (.int .i64))), (7, .c (.hole (.int .i64))), (27, .c (.hole (.bool)))], [(2, 25, [.hole (.int .i64), .hole (.int .i64), .hole (.int .i64), .hole (.int .i64), .hole (.int .i64)])], []⟩ (.leaf)) (.leaf)) (.two (.leaf) (.two (.leaf) (.two (.leaf) (.two (.leaf) (.two (.join ⟨slotsOf 81 [(4, .c (.hole (.bool)))], [], []⟩ (.leaf)) (.leaf))))))))
noncomputable def c3 (n : Nat) : Cx := ⟨Go.Proofs.Try.prog, Θ, [], [(7, ⟨p7, r7, f7 n⟩), (8, ⟨p8, r8, f8 n⟩), (9, ⟨p9, r9, f9 n⟩), (10, ⟨p10, r10, f10 n⟩), (11, ⟨p11, r11, f11 n⟩)]⟩
theorem d3 (n : Nat) (x : (Int × Int × Int × Int × Int) × Int × Int × Int) : denF (c3 n) n Go.Proofs.Try.f3 plan3 p3 r3 x = f3 n x := by kernel_rfl
theorem s3 (n : Nat) : PCalls Go.Proofs.Try.prog Θ 3 ⟨p3, r3, f3 n⟩ :=
  func_ok' (C := c3 n) (n := n) (p := plan3) (ok_of mixed eqsOk ⟨s7 n, s8 n, s9 n, s10 n, s11 n, trivial⟩) Go.Proofs.Try.func3 (by kernel_rfl) (d3 n) (by kernel_rfl)
def p4 : List PD := [.agg [.int .i64, .int .i64, .int .i64, .int .i64, .int .i64], .agg [.int .i64, .int .i64, .int .i64, .int .i64]]
def r4 : List PD := [.one (.bool)]
/-- carrefour/carrefourlaw25.QueueSplit -/
def f4 (n : Nat) (x0 : (Int × Int × Int × Int × Int) × Int × Int × Int × Int) : Option (Bool) :=
  bif inB 0 4 then
    bif inB 1 4 then
      bif inB 2 4 then
        bif inB 3 4 then
          letJ (fun (x1 : Int × Int × Int × Int × Bool × Int × Int × Int × Int × Int) =>
            bif x1.2.2.2.2.1 then
              (f11 n ()).bind fun y3 =>
              some y3
            else
              (f7 n (x1.2.2.2.2.2, x1.1, x1.2.1, x1.2.2.1)).bind fun y4 =>
              (f9 n (x1.2.2.2.2.2, x1.1, x1.2.1, x1.2.2.1)).bind fun y5 =>
              letJ (fun (x6 : Int × Int × Int × Int × Int × Int × Int × Int × Bool × Int × Int × Int × Int × Int) =>
                bif x6.2.2.2.2.2.2.2.2.1 then
                  bif x6.2.2.2.2.2.1 == x6.2.2.2.2.2.2.2.1 then
                    (f11 n ()).bind fun y8 =>
                    some y8
                  else
                  some false
                else
                  bif decide (1152921504606846976 < x6.2.2.2.2.1) then
                    (f11 n ()).bind fun y9 =>
                    some y9
                  else
                    (f7 n (x6.2.2.2.2.2.2.2.2.2, x6.2.2.2.2.1, wrap64 (x6.2.1 + x6.2.2.1), x6.2.2.2.1)).bind fun y10 =>
                    (f9 n (x6.2.2.2.2.2.2.2.2.2, x6.2.2.2.2.1, wrap64 (x6.2.1 + x6.2.2.1), x6.2.2.2.1)).bind fun y11 =>
                    (f7 n (x6.2.2.2.2.2.2.2.2.2, x6.1, x6.2.1, wrap64 (x6.2.2.1 + x6.2.2.2.1))).bind fun y12 =>
                    (f9 n (x6.2.2.2.2.2.2.2.2.2, x6.1, x6.2.1, wrap64 (x6.2.2.1 + x6.2.2.2.1))).bind fun y13 =>
                    letJ (fun (x15 : Bool) =>
                      some x15) fun J16 =>
                    bif y10.2 == 0 then
                      bif y11.2 == 0 then
                        bif y12.2 == 0 then
                          bif y13.2 == 0 then
                            bif y10.1 == y12.1 then
                              bif y13.1 == (mx x6.2.2.2.2.2.2.1 y11.1) then
                                bif decide (mx x6.1 y12.1 ≤ y13.1) then
                                  (f11 n ()).bind fun y14 =>
                                  J16 y14
                                else
                                J16 false
                              else
                              J16 false
                            else
                            J16 false
                          else
                          J16 false
                        else
                        J16 false
                      else
                      J16 false
                    else
                    J16 false) fun J7 =>
              bif !(y4.2 == 0) then
                J7 (x1.1, x1.2.1, x1.2.2.1, x1.2.2.2.1, y4.1, y4.2, y5.1, y5.2, true, x1.2.2.2.2.2)
              else
              J7 (x1.1, x1.2.1, x1.2.2.1, x1.2.2.2.1, y4.1, y4.2, y5.1, y5.2, !(y5.2 == 0), x1.2.2.2.2.2)) fun J2 =>
          bif decide (x0.2.2.2.1 < 0) then
            J2 (x0.2.1, x0.2.2.1, x0.2.2.2.1, x0.2.2.2.2, true, x0.1)
          else
          bif decide (x0.2.2.2.2 < 0) then
            J2 (x0.2.1, x0.2.2.1, x0.2.2.2.1, x0.2.2.2.2, true, x0.1)
          else
          bif decide (536870912 < x0.2.2.2.1) then
            J2 (x0.2.1, x0.2.2.1, x0.2.2.2.1, x0.2.2.2.2, true, x0.1)
          else
          bif decide (536870912 < x0.2.2.2.2) then
            J2 (x0.2.1, x0.2.2.1, x0.2.2.2.1, x0.2.2.2.2, true, x0.1)
          else
          bif decide (x0.2.2.1 < 0) then
            J2 (x0.2.1, x0.2.2.1, x0.2.2.2.1, x0.2.2.2.2, true, x0.1)
          else
          J2 (x0.2.1, x0.2.2.1, x0.2.2.2.1, x0.2.2.2.2, decide (1073741824 < x0.2.2.1), x0.1)
        else
        none
      else
      none
    else
    none
  else
  none
def plan4 : Plan := .two (.leaf) (.two (.leaf) (.two (.two (.join ⟨slotsOf 159 [(2, .c (.box 2 0)), (5, .c (.hole (.int .i64))), (6, .c (.hole (.int .i64))), (7, .c (.hole (.int .i64))), (8, .c (.hole (.int .i64))), (50, .c (.hole (.bool)))], [(2, 25, [.hole (.int .i64), .hole (.int .i64), .hole (.int .i64), .hole (.int .i64), .hole (.int .i64)])], []⟩ (.leaf)) (.leaf)) (.two (.leaf) (.two (.leaf) (.two (.two (.join ⟨slotsOf 159 [(2, .c (.box 2 0)), (5, .c (.hole (.int .i64))), (6, .c (.hole (.int .i64))), (7, .c (.hole (.int .i64))), (8, .c (.hole (.int .i64))), (9, .c (.hole (.int .i64))), (10, .c (.hole (.int .i64))), (11, .c (.hole (.int .i64))), (12, .c (.hole (.int .i64))), (73, .c (.hole (.bool)))], [(2, 25, [.hole (.int .i64), .hole (.int .i64), .hole (.int .i64), .hole (.int .i64), .hole (.int .i64)])], []⟩ (.leaf)) (.leaf)) (.two (.leaf) (.two (.leaf) (.two (.leaf) (.two (.leaf) (.two (.leaf) (.two (.join ⟨slotsOf 159 [(4, .c (.hole (.bool)))], [], []⟩ (.leaf)) (.leaf))))))))))))
noncomputable def c4 (n : Nat) : Cx := ⟨Go.Proofs.Try.prog, Θ, [], [(11, ⟨p11, r11, f11 n⟩), (7, ⟨p7, r7, f7 n⟩), (9, ⟨p9, r9, f9 n⟩)]⟩
theorem d4 (n : Nat) (x : (Int × Int × Int × Int × Int) × Int × Int × Int × Int) : denF (c4 n) n Go.Proofs.Try.f4 plan4 p4 r4 x = f4 n x := by kernel_rfl
theorem s4 (n : Nat) : PCalls Go.Proofs.Try.prog Θ 4 ⟨p4, r4, f4 n⟩ :=
  func_ok' (C := c4 n) (n := n) (p := plan4) (ok_of mixed eqsOk ⟨s11 n, s7 n, s9 n, trivial⟩) Go.Proofs.Try.func4 (by kernel_rfl) (d4 n) (by kernel_rfl)
def p22 : List PD := [.one (.int .i64), .one (.sl 23)]
def r22 : List PD := [.one (.sl 4)]
/-- carrefour/carrefourref03.Ticks -/
def f22 (n : Nat) (x0 : Int × List (Int × Int)) : Option (List (Bool)) :=
  (f28 n x0.1).bind fun y1 =>
  bif !y1 then
    some []
  else
  bif x0.1 == x0.1 && decide (0 ≤ x0.1) && decide (x0.1 * 1 ≤ 281474976710656) then
    (iterL (Y := (List Bool)) n (fun (x2 : Int × (List (Int × Int)) × Int × List Bool) =>
      let e0 := x2.2.1.length
      let e1 := inB x2.2.2.1 e0
      let e2 := atI (0, 0) x2.2.1 x2.2.2.1
      bif decide (x2.2.2.1 < ((e0 : Nat) : Int)) then
        bif e1 then
          bif e1 then
            (f29 n (e2.1, x2.1)).bind fun y3 =>
            (iterL (Y := (Int × (List (Int × Int)) × Int × List Bool)) n (fun (x4 : Int × (List (Int × Int)) × Int × Int × Int × Int × List Bool) =>
              let e3 := Int.tmod (wrap64 (x4.2.2.2.2.1 + x4.2.2.2.2.2.1)) x4.1
              bif decide (x4.2.2.2.2.2.1 < x4.2.2.2.1) then
                bif !(x4.1 == 0) then
                  bif inB e3 x4.2.2.2.2.2.2.length then
                    some (.inl (x4.1, x4.2.1, x4.2.2.1, x4.2.2.2.1, x4.2.2.2.2.1, wrap64 (x4.2.2.2.2.2.1 + 1), List.set x4.2.2.2.2.2.2 (Int.toNat e3) true))
                  else
                  none
                else
                none
              else
              some (.inr (x4.1, x4.2.1, x4.2.2.1, x4.2.2.2.2.2.2))) (x2.1, x2.2.1, x2.2.2.1, mn e2.2 x2.1, y3, 0, x2.2.2.2)).bind fun (z5 : Int × (List (Int × Int)) × Int × List Bool) =>
              some (.inl (z5.1, z5.2.1, wrap64 (z5.2.2.1 + 1), z5.2.2.2))
          else
          none
        else
        none
      else
      some (.inr x2.2.2.2)) (x0.1, x0.2, 0, List.replicate (Int.toNat x0.1) false)).bind fun (z6 : List Bool) =>
      some z6
  else
  none
def plan22 : Plan := .two (.leaf) (.two (.leaf) (.two (.leaf) (.two (.two (.leaf) (.one (.loop ⟨slotsOf 48 [(0, .c (.hole (.int .i64))), (1, .c (.hole (.sl 23))), (5, .c (.row 14)), (6, .c (.hole (.int .i64)))], [], [(14, 4)]⟩ [(.exit 0, ⟨slotsOf 48 [(5, .c (.row 14))], [], [(14, 4)]⟩)] (.two (.leaf) (.two (.one (.two (.leaf) (.two (.leaf) (.two (.leaf) (.one (.loop ⟨slotsOf 48 [(0, .c (.hole (.int .i64))), (1, .c (.hole (.sl 23))), (5, .c (.row 14)), (6, .c (.hole (.int .i64))), (7, .c (.hole (.int .i64))), (8, .c (.hole (.int .i64))), (9, .c (.hole (.int .i64)))], [], [(14, 4)]⟩ [(.exit 2, ⟨slotsOf 48 [(0, .c (.hole (.int .i64))), (1, .c (.hole (.sl 23))), (5, .c (.row 14)), (6, .c (.hole (.int .i64)))], [], [(14, 4)]⟩)] (.leaf))))))) (.leaf)))))) (.leaf))))
noncomputable def c22 (n : Nat) : Cx := ⟨Go.Proofs.Try.prog, Θ, [], [(28, ⟨p28, r28, f28 n⟩), (29, ⟨p29, r29, f29 n⟩)]⟩
theorem d22 (n : Nat) (x : Int × List (Int × Int)) : denF (c22 n) n Go.Proofs.Try.f22 plan22 p22 r22 x = f22 n x := by kernel_rfl
theorem s22 (n : Nat) : PCalls Go.Proofs.Try.prog Θ 22 ⟨p22, r22, f22 n⟩ :=
  func_ok' (C := c22 n) (n := n) (p := plan22) (ok_of mixed eqsOk ⟨s28 n, s29 n, trivial⟩) Go.Proofs.Try.func22 (by kernel_rfl) (d22 n) (by kernel_rfl)
def p21 : List PD := [.one (.sl 4)]
def r21 : List PD := [.one (.sl 23)]
/-- carrefour/carrefourref03.Form -/
def f21 (n : Nat) (x0 : List (Bool)) : Option (List (Int × Int)) :=
  (iterL (Y := ((List Bool) × Int × Int)) n (fun (x1 : (List Bool) × Int × Int × Int) =>
    let e0 := wrap64 (x1.2.2.2 + 1)
    bif decide (x1.2.2.2 < x1.2.1) then
      bif inB x1.2.2.2 x1.1.length then
        bif atI false x1.1 x1.2.2.2 then
          some (.inl (x1.1, x1.2.1, wrap64 (x1.2.2.1 + 1), e0))
        else
        some (.inl (x1.1, x1.2.1, x1.2.2.1, e0))
      else
      none
    else
    some (.inr (x1.1, x1.2.1, x1.2.2.1))) (x0, ((x0.length : Nat) : Int), 0, 0)).bind fun (z2 : (List Bool) × Int × Int) =>
    letJ (fun (x3 : (List Bool) × Int × Bool) =>
      bif x3.2.2 then
        some ((0, x3.2.1) :: [])
      else
      (iterL (Y := (List (Int × Int))) n (fun (x10 : (List Bool) × Int × Int × List (Int × Int)) =>
        let e1 := x10.1.length
        let e2 := Int.tmod (wrap64 ((wrap64 (x10.2.2.1 + x10.2.1)) - 1)) x10.2.1
        bif decide (x10.2.2.1 < x10.2.1) then
          letJ (fun (x11 : (List Bool) × Int × Int × Bool × List (Int × Int)) =>
            bif x11.2.2.2.1 then
              some (.inl (x11.1, x11.2.1, wrap64 (x11.2.2.1 + 1), x11.2.2.2.2))
            else
            (iterL (Y := ((List Bool) × Int × Int × Int × List (Int × Int))) n (fun (x13 : (List Bool) × Int × Int × Int × List (Int × Int)) =>
              let e3 := Int.tmod (wrap64 (x13.2.2.1 + x13.2.2.2.1)) x13.2.1
              bif !(x13.2.1 == 0) then
                bif inB e3 x13.1.length then
                  bif atI false x13.1 e3 then
                    some (.inl (x13.1, x13.2.1, x13.2.2.1, wrap64 (x13.2.2.2.1 + 1), x13.2.2.2.2))
                  else
                  some (.inr x13)
                else
                none
              else
              none) (x11.1, x11.2.1, x11.2.2.1, 0, x11.2.2.2.2)).bind fun (z14 : (List Bool) × Int × Int × Int × List (Int × Int)) =>
              let e4 := (z14.2.2.1, z14.2.2.2.1) :: []
              bif fitB (z14.2.2.2.2.length + e4.length) 16 then
                some (.inl (z14.1, z14.2.1, wrap64 (z14.2.2.1 + 1), z14.2.2.2.2 ++ e4))
              else
              none) fun J12 =>
          bif inB x10.2.2.1 e1 then
            bif !(atI false x10.1 x10.2.2.1) then
              J12 (x10.1, x10.2.1, x10.2.2.1, true, x10.2.2.2)
            else
            bif !(x10.2.1 == 0) then
              bif inB e2 e1 then
                J12 (x10.1, x10.2.1, x10.2.2.1, atI false x10.1 e2, x10.2.2.2)
              else
              none
            else
            none
          else
          none
        else
        some (.inr x10.2.2.2)) (x3.1, x3.2.1, 0, [])).bind fun (z15 : List (Int × Int)) =>
        some z15) fun J4 =>
    bif z2.2.2 == z2.2.1 then
      J4 (z2.1, z2.2.1, decide (0 < z2.2.1))
    else
    J4 (z2.1, z2.2.1, false)
def plan21 : Plan := .two (.leaf) (.two (.leaf) (.two (.leaf) (.two (.two (.leaf) (.one (.loop ⟨slotsOf 70 [(0, .c (.hole (.sl 4))), (3, .c (.hole (.int .i64))), (4, .c (.hole (.int .i64))), (5, .c (.hole (.int .i64)))], [], []⟩ [(.exit 0, ⟨slotsOf 70 [(0, .c (.hole (.sl 4))), (3, .c (.hole (.int .i64))), (4, .c (.hole (.int .i64)))], [], []⟩)] (.leaf)))) (.two (.two (.join ⟨slotsOf 70 [(0, .c (.hole (.sl 4))), (3, .c (.hole (.int .i64))), (28, .c (.hole (.bool)))], [], []⟩ (.leaf)) (.leaf)) (.two (.leaf) (.two (.two (.leaf) (.one (.loop ⟨slotsOf 70 [(0, .c (.hole (.sl 4))), (3, .c (.hole (.int .i64))), (6, .c (.row 68)), (7, .c (.hole (.int .i64)))], [], [(68, 23)]⟩ [(.exit 2, ⟨slotsOf 70 [(6, .c (.row 68))], [], [(68, 23)]⟩)] (.two (.leaf) (.two (.one (.two (.two (.join ⟨slotsOf 70 [(0, .c (.hole (.sl 4))), (3, .c (.hole (.int .i64))), (6, .c (.row 68)), (7, .c (.hole (.int .i64))), (52, .c (.hole (.bool)))], [], [(68, 23)]⟩ (.leaf)) (.leaf)) (.two (.leaf) (.two (.one (.loop ⟨slotsOf 70 [(0, .c (.hole (.sl 4))), (3, .c (.hole (.int .i64))), (6, .c (.row 68)), (7, .c (.hole (.int .i64))), (8, .c (.hole (.int .i64)))], [], [(68, 23)]⟩ [(.exit 4, ⟨slotsOf 70 [(0, .c (.hole (.sl 4))), (3, .c (.hole (.int .i64))), (6, .c (.row 68)), (7, .c (.hole (.int .i64))), (8, .c (.hole (.int .i64)))], [], [(68, 23)]⟩)] (.leaf))) (.leaf))))) (.leaf)))))) (.leaf)))))))
noncomputable def c21 (n : Nat) : Cx := ⟨Go.Proofs.Try.prog, Θ, [], []⟩
theorem d21 (n : Nat) (x : List (Bool)) : denF (c21 n) n Go.Proofs.Try.f21 plan21 p21 r21 x = f21 n x := by kernel_rfl
theorem s21 (n : Nat) : PCalls Go.Proofs.Try.prog Θ 21 ⟨p21, r21, f21 n⟩ :=
  func_ok' (C := c21 n) (n := n) (p := plan21) (ok_of mixed eqsOk trivial) Go.Proofs.Try.func21 (by kernel_rfl) (d21 n) (by kernel_rfl)
def p12 : List PD := [.one (.int .i64), .agg [.int .i64, .int .i64]]
def r12 : List PD := [.agg [.int .i64, .int .i64]]
/-- carrefour/carrefourref03.Norm -/
def f12 (n : Nat) (x0 : Int × Int × Int) : Option (Int × Int) :=
  (f22 n (x0.1, x0.2 :: [])).bind fun y1 =>
  (f21 n y1).bind fun y2 =>
  let e0 := y2.length
  bif ((e0 : Nat) : Int) == 0 then
    some (0, 0)
  else
  bif inB 0 e0 then
    some (atI (0, 0) y2 0)
  else
  none
def plan12 : Plan := .leaf
noncomputable def c12 (n : Nat) : Cx := ⟨Go.Proofs.Try.prog, Θ, [], [(22, ⟨p22, r22, f22 n⟩), (21, ⟨p21, r21, f21 n⟩)]⟩
theorem d12 (n : Nat) (x : Int × Int × Int) : denF (c12 n) n Go.Proofs.Try.f12 plan12 p12 r12 x = f12 n x := by kernel_rfl
theorem s12 (n : Nat) : PCalls Go.Proofs.Try.prog Θ 12 ⟨p12, r12, f12 n⟩ :=
  func_ok' (C := c12 n) (n := n) (p := plan12) (ok_of mixed eqsOk ⟨s22 n, s21 n, trivial⟩) Go.Proofs.Try.func12 (by kernel_rfl) (d12 n) (by kernel_rfl)
def p5 : List PD := [.agg [.int .i64, .int .i64, .int .i64, .int .i64, .int .i64], .agg [.int .i64, .int .i64, .int .i64, .int .i64]]
def r5 : List PD := [.one (.bool)]
/-- carrefour/carrefourlaw25.QueueMore -/
def f5 (n : Nat) (x0 : (Int × Int × Int × Int × Int) × Int × Int × Int × Int) : Option (Bool) :=
  bif inB 0 4 then
    bif inB 1 4 then
      bif inB 2 4 then
        bif inB 3 4 then
          letJ (fun (x1 : Int × Int × Int × Int × Bool × Int × Int × Int × Int × Int) =>
            bif x1.2.2.2.2.1 then
              (f11 n ()).bind fun y3 =>
              some y3
            else
              (f7 n (x1.2.2.2.2.2, x1.1, x1.2.1, x1.2.2.1)).bind fun y4 =>
              bif !(y4.2 == 0) then
                (f11 n ()).bind fun y5 =>
                some y5
              else
                (f7 n (x1.2.2.2.2.2, wrap64 (x1.1 + x1.2.2.2.1), x1.2.1, x1.2.2.1)).bind fun y6 =>
                (f7 n ((wrap64 (x1.2.2.2.2.2.1 + x1.2.2.2.1), x1.2.2.2.2.2.2), x1.1, x1.2.1, x1.2.2.1)).bind fun y7 =>
                (f12 n (x1.2.2.2.2.2.2.2.2.2, x1.2.2.2.2.2.2.2.1, x1.2.2.2.2.2.2.2.2.1)).bind fun y8 =>
                (f7 n ((x1.2.2.2.2.2.1, x1.2.2.2.2.2.2.1, y8.1, mx 0 (wrap64 (y8.2 - 1)), x1.2.2.2.2.2.2.2.2.2), x1.1, x1.2.1, x1.2.2.1)).bind fun y9 =>
                letJ (fun (x11 : Bool) =>
                  some x11) fun J12 =>
                bif decide (y4.1 ≤ y6.1) then
                  bif decide (wrap64 (y6.1 - y4.1) ≤ x1.2.2.2.1) then
                    bif decide (y4.1 ≤ y7.1) then
                      bif decide (y4.1 ≤ y9.1) then
                        (f11 n ()).bind fun y10 =>
                        J12 y10
                      else
                      J12 false
                    else
                    J12 false
                  else
                  J12 false
                else
                J12 false) fun J2 =>
          bif decide (x0.2.2.2.2 < 0) then
            J2 (x0.2.1, x0.2.2.1, x0.2.2.2.1, x0.2.2.2.2, true, x0.1)
          else
          bif decide (1048576 < x0.2.2.2.2) then
            J2 (x0.2.1, x0.2.2.1, x0.2.2.2.1, x0.2.2.2.2, true, x0.1)
          else
          bif decide (x0.2.1 < 0) then
            J2 (x0.2.1, x0.2.2.1, x0.2.2.2.1, x0.2.2.2.2, true, x0.1)
          else
          bif decide (576460752303423488 < x0.2.1) then
            J2 (x0.2.1, x0.2.2.1, x0.2.2.2.1, x0.2.2.2.2, true, x0.1)
          else
          bif decide (x0.1.1 < 0) then
            J2 (x0.2.1, x0.2.2.1, x0.2.2.2.1, x0.2.2.2.2, true, x0.1)
          else
          J2 (x0.2.1, x0.2.2.1, x0.2.2.2.1, x0.2.2.2.2, decide (wrap64 (1000000000 - x0.2.2.2.2) < x0.1.1), x0.1)
        else
        none
      else
      none
    else
    none
  else
  none
def plan5 : Plan := .two (.leaf) (.two (.leaf) (.two (.two (.join ⟨slotsOf 134 [(2, .c (.box 2 0)), (5, .c (.hole (.int .i64))), (6, .c (.hole (.int .i64))), (7, .c (.hole (.int .i64))), (8, .c (.hole (.int .i64))), (52, .c (.hole (.bool)))], [(2, 25, [.hole (.int .i64), .hole (.int .i64), .hole (.int .i64), .hole (.int .i64), .hole (.int .i64)])], []⟩ (.leaf)) (.leaf)) (.two (.leaf) (.two (.leaf) (.two (.leaf) (.two (.leaf) (.two (.leaf) (.two (.leaf) (.two (.leaf) (.two (.leaf) (.two (.leaf) (.two (.leaf) (.two (.join ⟨slotsOf 134 [(4, .c (.hole (.bool)))], [], []⟩ (.leaf)) (.leaf))))))))))))))
noncomputable def c5 (n : Nat) : Cx := ⟨Go.Proofs.Try.prog, Θ, [], [(11, ⟨p11, r11, f11 n⟩), (7, ⟨p7, r7, f7 n⟩), (12, ⟨p12, r12, f12 n⟩)]⟩
theorem d5 (n : Nat) (x : (Int × Int × Int × Int × Int) × Int × Int × Int × Int) : denF (c5 n) n Go.Proofs.Try.f5 plan5 p5 r5 x = f5 n x := by kernel_rfl
theorem s5 (n : Nat) : PCalls Go.Proofs.Try.prog Θ 5 ⟨p5, r5, f5 n⟩ :=
  func_ok' (C := c5 n) (n := n) (p := plan5) (ok_of mixed eqsOk ⟨s11 n, s7 n, s12 n, trivial⟩) Go.Proofs.Try.func5 (by kernel_rfl) (d5 n) (by kernel_rfl)
def p13 : List PD := [.agg [.int .i64, .int .i64, .int .i64, .int .i64, .int .i64]]
def r13 : List PD := [.one (.int .i64), .one (.bool)]
/-- carrefour/queue.Steady -/
def f13 (n : Nat) (x0 : Int × Int × Int × Int × Int) : Option (Int × Bool) :=
  (f15 n x0).bind fun y1 =>
  bif !y1 then
    some (0, false)
  else
  (f23 n (x0, 0, x0.2.2.2.2)).bind fun y2 =>
  some (mx 0 y2.2.1, true)
def plan13 : Plan := .leaf
noncomputable def c13 (n : Nat) : Cx := ⟨Go.Proofs.Try.prog, Θ, [], [(15, ⟨p15, r15, f15 n⟩), (23, ⟨p23, r23, f23 n⟩)]⟩
theorem d13 (n : Nat) (x : Int × Int × Int × Int × Int) : denF (c13 n) n Go.Proofs.Try.f13 plan13 p13 r13 x = f13 n x := by kernel_rfl
theorem s13 (n : Nat) : PCalls Go.Proofs.Try.prog Θ 13 ⟨p13, r13, f13 n⟩ :=
  func_ok' (C := c13 n) (n := n) (p := plan13) (ok_of mixed eqsOk ⟨s15 n, s23 n, trivial⟩) Go.Proofs.Try.func13 (by kernel_rfl) (d13 n) (by kernel_rfl)
def p6 : List PD := [.agg [.int .i64, .int .i64, .int .i64, .int .i64, .int .i64], .one (.int .i64)]
def r6 : List PD := [.one (.bool)]
/-- carrefour/carrefourlaw25.QueueAgain -/
def f6 (n : Nat) (x0 : (Int × Int × Int × Int × Int) × Int) : Option (Bool) :=
  (f13 n x0.1).bind fun y1 =>
  (f14 n x0.1).bind fun y2 =>
  bif !y2 then
    bif !y1.2 then
      bif y1.1 == 0 then
        (f11 n ()).bind fun y3 =>
        some y3
      else
      some false
    else
    some false
  else
    (f15 n x0.1).bind fun y4 =>
    bif !(y1.2 == y4) then
      some false
    else
    letJ (fun (x5 : Int × Int × Bool × Int × Int × Int × Int × Int) =>
      bif x5.2.2.1 then
        (f11 n ()).bind fun y7 =>
        some y7
      else
        (f7 n (x5.2.2.2, x5.2.1, 0, wrap64 (x5.1 * x5.2.2.2.2.2.2.2))).bind fun y8 =>
        letJ (fun (x9 : Int × Bool × Int × Int × Int × Int × Int) =>
          let e0 := wrap64 (x9.1 - 1)
          bif x9.2.1 then
            some false
          else
          letJ (fun (x14 : Unit) =>
            (f11 n ()).bind fun y16 =>
            some y16) fun J15 =>
          bif decide (0 < x9.1) then
            (f7 n (x9.2.2, e0, 0, x9.2.2.2.2.2.2)).bind fun y11 =>
            letJ (fun (x12 : Bool) =>
              bif x12 then
                some false
              else
              J15 ()) fun J13 =>
            bif !(y11.2 == 0) then
              J13 true
            else
            J13 (y11.1 == e0)
          else
          J15 ()) fun J10 =>
        bif !(y8.2 == 0) then
          J10 (x5.2.1, true, x5.2.2.2)
        else
        J10 (x5.2.1, !(y8.1 == x5.2.1), x5.2.2.2)) fun J6 =>
    bif !y1.2 then
      J6 (x0.2, y1.1, true, x0.1)
    else
    bif decide (x0.2 < 0) then
      J6 (x0.2, y1.1, true, x0.1)
    else
    J6 (x0.2, y1.1, decide (100000 < x0.2), x0.1)
def plan6 : Plan := .two (.leaf) (.two (.leaf) (.two (.leaf) (.two (.leaf) (.two (.two (.join ⟨slotsOf 80 [(1, .c (.hole (.int .i64))), (2, .c (.box 2 0)), (5, .c (.hole (.int .i64))), (41, .c (.hole (.bool)))], [(2, 25, [.hole (.int .i64), .hole (.int .i64), .hole (.int .i64), .hole (.int .i64), .hole (.int .i64)])], []⟩ (.leaf)) (.leaf)) (.two (.leaf) (.two (.two (.join ⟨slotsOf 80 [(2, .c (.box 2 0)), (5, .c (.hole (.int .i64))), (59, .c (.hole (.bool)))], [(2, 25, [.hole (.int .i64), .hole (.int .i64), .hole (.int .i64), .hole (.int .i64), .hole (.int .i64)])], []⟩ (.leaf)) (.leaf)) (.two (.join ⟨slotsOf 80 [], [], []⟩ (.two (.leaf) (.two (.two (.leaf) (.two (.join ⟨slotsOf 80 [(78, .c (.hole (.bool)))], [], []⟩ (.leaf)) (.leaf))) (.leaf)))) (.leaf))))))))
noncomputable def c6 (n : Nat) : Cx := ⟨Go.Proofs.Try.prog, Θ, [], [(13, ⟨p13, r13, f13 n⟩), (14, ⟨p14, r14, f14 n⟩), (11, ⟨p11, r11, f11 n⟩), (15, ⟨p15, r15, f15 n⟩), (7, ⟨p7, r7, f7 n⟩)]⟩
theorem d6 (n : Nat) (x : (Int × Int × Int × Int × Int) × Int) : denF (c6 n) n Go.Proofs.Try.f6 plan6 p6 r6 x = f6 n x := by kernel_rfl
theorem s6 (n : Nat) : PCalls Go.Proofs.Try.prog Θ 6 ⟨p6, r6, f6 n⟩ :=
  func_ok' (C := c6 n) (n := n) (p := plan6) (ok_of mixed eqsOk ⟨s13 n, s14 n, s11 n, s15 n, s7 n, trivial⟩) Go.Proofs.Try.func6 (by kernel_rfl) (d6 n) (by kernel_rfl)
end Go.Proofs.Ythkcpgiibmajhaa.Fn
