/- Functions of the program, each as a plain function, and that the machine does what it says. -/
import Derived.Test.YtakkhnoelnpfdaaFnB0
namespace Go.Proofs.Ytakkhnoelnpfdaa.Fn
set_option linter.unusedVariables false
set_option maxRecDepth 100000
open Go Go.RowKit Go.Den
/-- carrefour/carrefourlaw18.Few -/
def h_law18_Few : Shape := ⟨slotsOf 2 [(0, .agg [.hole (.str), .hole (.sl 44), .hole (.sl 138), .hole (.sl 42), .hole (.sl 103), .hole (.sl 47), .hole (.int .i64)]), (1, .agg [.hole (.str), .hole (.int .i64), .hole (.sl 71), .hole (.int .i64), .hole (.int .i64)])], [], []⟩
def o_law18_Few : List (Ex × Shape) := [(.ret, ⟨slotsOf 1 [(0, .c (.hole (.bool)))], [], []⟩)]
def law18_Few (n : Nat) (x0 : ByteArray × (List (ByteArray × Int × Int × Int × Int × Int × Int × Int × Int × Int × Int)) × (List (ByteArray × ByteArray × Int × Int × Int × Int)) × (List (ByteArray × (List ByteArray) × Int)) × (List (List (Bool × List ByteArray))) × (List (ByteArray × ByteArray × Int)) × Int × ByteArray × Int × (List (List (List (ByteArray × Int × Int × Int × List (ByteArray × Int × Int))))) × Int × Int) : Option (Bool) :=
  (law06_Few n (0, 0, 0, 0, 0, (x0.1, x0.2.1, x0.2.2.1, x0.2.2.2.1, x0.2.2.2.2.1, x0.2.2.2.2.2.1, x0.2.2.2.2.2.2.1) :: [], [], 0, 0)).bind fun y1 =>
  bif y1 then
    (law17_Few n (0, x0.2.2.2.2.2.2.2 :: [], 0, 0, 0, 0, false, 0)).bind fun y2 =>
    bif y2 then
      (ref18_Length n x0.2.2.2.2.2.2.2).bind fun y3 =>
      some (decide (y3 ≤ 500))
    else
    some false
  else
  some false
def p_law18_Few : Plan := .leaf
noncomputable def c_law18_Few (n : Nat) : Cx := ⟨Go.Proofs.Try.prog, Θ, [219, 74], [(11, ⟨h_law06_Few, o_law06_Few, law06_Few n⟩), (65, ⟨h_law17_Few, o_law17_Few, law17_Few n⟩), (34, ⟨h_ref18_Length, o_ref18_Length, ref18_Length n⟩)], [], []⟩
theorem d_law18_Few (n : Nat) (x : h_law18_Few.X T) : denF (c_law18_Few n) n Go.Proofs.Try.f24 p_law18_Few h_law18_Few o_law18_Few x = law18_Few n x := by kernel_rfl
theorem s_law18_Few (n : Nat) : PCalls Go.Proofs.Try.prog Θ 24 ⟨h_law18_Few, o_law18_Few, law18_Few n⟩ :=
  func_ok' (C := c_law18_Few n) (n := n) (p := p_law18_Few) (ok_of mixed eqsOk ⟨s_law06_Few n, s_law17_Few n, s_ref18_Length n, trivial⟩ trivial trivial) Go.Proofs.Try.func24 (by kernel_rfl) (by kernel_rfl) (d_law18_Few n) (by kernel_rfl)

/-- carrefour/carrefourref03.Turn -/
def h_ref03_Turn : Shape := ⟨slotsOf 3 [(0, .c (.hole (.int .i64))), (1, .c (.hole (.sl 74))), (2, .c (.hole (.int .i64)))], [], []⟩
def o_ref03_Turn : List (Ex × Shape) := [(.ret, ⟨slotsOf 1 [(0, .c (.hole (.sl 74)))], [], []⟩)]
def ref03_Turn (n : Nat) (x0 : Int × (List (Int × Int)) × Int) : Option (List (Int × Int)) :=
  (ref03_Ticks n (x0.1, x0.2.1)).bind fun y1 =>
  let e0 := ((y1.length : Nat) : Int)
  bif e0 == e0 && decide (0 ≤ e0) && decide (e0 * 1 ≤ 281474976710656) then
    (iterL (Y := (List Bool)) n (fun (x2 : Int × Int × Int × (List Bool) × List Bool) =>
      let e1 := x2.2.2.2.1.length
      bif decide (x2.2.2.1 < ((e1 : Nat) : Int)) then
        (ref03_Mod n (x2.2.1, x2.1)).bind fun y3 =>
        (ref03_Mod n (wrap64 (x2.2.2.1 + y3), x2.1)).bind fun y4 =>
        bif inB x2.2.2.1 e1 then
          bif inB y4 x2.2.2.2.2.length then
            some (.inl (x2.1, x2.2.1, wrap64 (x2.2.2.1 + 1), x2.2.2.2.1, List.set x2.2.2.2.2 (Int.toNat y4) (atI false x2.2.2.2.1 x2.2.2.1)))
          else
          none
        else
        none
      else
      some (.inr x2.2.2.2.2)) (x0.1, x0.2.2, 0, y1, List.replicate (Int.toNat e0) false)).bind fun (z5 : List Bool) =>
      (ref03_Form n z5).bind fun y6 =>
      some y6
  else
  none
def p_ref03_Turn : Plan := .two (.leaf) (.two (.leaf) (.two (.leaf) (.two (.two (.leaf) (.one (.loop ⟨slotsOf 37 [(0, .c (.hole (.int .i64))), (2, .c (.hole (.int .i64))), (7, .c (.row 11200)), (8, .c (.row 15)), (9, .c (.hole (.int .i64)))], [], [(11200, 4), (15, 4)]⟩ [(.exit 0, ⟨slotsOf 37 [(8, .c (.row 15))], [], [(15, 4)]⟩)] (.leaf)))) (.leaf))))
noncomputable def c_ref03_Turn (n : Nat) : Cx := ⟨Go.Proofs.Try.prog, Θ, [219, 74], [(86, ⟨h_ref03_Mod, o_ref03_Mod, ref03_Mod n⟩), (93, ⟨h_ref03_Ticks, o_ref03_Ticks, ref03_Ticks n⟩), (94, ⟨h_ref03_Form, o_ref03_Form, ref03_Form n⟩)], [], []⟩
theorem d_ref03_Turn (n : Nat) (x : h_ref03_Turn.X T) : denF (c_ref03_Turn n) n Go.Proofs.Try.f41 p_ref03_Turn h_ref03_Turn o_ref03_Turn x = ref03_Turn n x := by kernel_rfl
theorem s_ref03_Turn (n : Nat) : PCalls Go.Proofs.Try.prog Θ 41 ⟨h_ref03_Turn, o_ref03_Turn, ref03_Turn n⟩ :=
  func_ok' (C := c_ref03_Turn n) (n := n) (p := p_ref03_Turn) (ok_of mixed eqsOk ⟨s_ref03_Mod n, s_ref03_Ticks n, s_ref03_Form n, trivial⟩ trivial trivial) Go.Proofs.Try.func41 (by kernel_rfl) (by kernel_rfl) (d_ref03_Turn n) (by kernel_rfl)

/-- carrefour/carrefourref03.Same -/
def h_ref03_Same : Shape := ⟨slotsOf 2 [(0, .c (.hole (.sl 74))), (1, .c (.hole (.sl 74)))], [], []⟩
def o_ref03_Same : List (Ex × Shape) := [(.ret, ⟨slotsOf 1 [(0, .c (.hole (.bool)))], [], []⟩)]
def ref03_Same (n : Nat) (x0 : (List (Int × Int)) × List (Int × Int)) : Option (Bool) :=
  bif !(((x0.1.length : Nat) : Int) == ((x0.2.length : Nat) : Int)) then
    some false
  else
  (iterL (Y := (Bool) ⊕ (Unit)) n (fun (x1 : (List (Int × Int)) × (List (Int × Int)) × Int) =>
    let e0 := x1.1.length
    let e1 := atI (0, 0) x1.1 x1.2.2
    let e2 := atI (0, 0) x1.2.1 x1.2.2
    bif decide (x1.2.2 < ((e0 : Nat) : Int)) then
      bif inB x1.2.2 e0 then
        bif inB x1.2.2 x1.2.1.length then
          bif !((e1.1 == e2.1) && ((e1.2 == e2.2) && true)) then
            some (.inr (.inl false))
          else
          some (.inl (x1.1, x1.2.1, wrap64 (x1.2.2 + 1)))
        else
        none
      else
      none
    else
    some (.inr (.inr ()))) (x0.1, x0.2, 0)).bind (Sum.elim (fun (z2 : Bool) =>
    some z2) (fun (z3 : Unit) =>
    some true))
def p_ref03_Same : Plan := .two (.leaf) (.two (.leaf) (.two (.two (.leaf) (.one (.loop ⟨slotsOf 26 [(0, .c (.hole (.sl 74))), (1, .c (.hole (.sl 74))), (5, .c (.hole (.int .i64)))], [], []⟩ [(.ret, ⟨slotsOf 26 [(4, .c (.hole (.bool)))], [], []⟩), (.exit 0, ⟨slotsOf 26 [], [], []⟩)] (.leaf)))) (.leaf)))
noncomputable def c_ref03_Same (n : Nat) : Cx := ⟨Go.Proofs.Try.prog, Θ, [219, 74], [], [], []⟩
theorem d_ref03_Same (n : Nat) (x : h_ref03_Same.X T) : denF (c_ref03_Same n) n Go.Proofs.Try.f42 p_ref03_Same h_ref03_Same o_ref03_Same x = ref03_Same n x := by kernel_rfl
theorem s_ref03_Same (n : Nat) : PCalls Go.Proofs.Try.prog Θ 42 ⟨h_ref03_Same, o_ref03_Same, ref03_Same n⟩ :=
  func_ok' (C := c_ref03_Same n) (n := n) (p := p_ref03_Same) (ok_of mixed eqsOk trivial trivial trivial) Go.Proofs.Try.func42 (by kernel_rfl) (by kernel_rfl) (d_ref03_Same n) (by kernel_rfl)

/-- carrefour/carrefourlaw18.TimesTurn -/
def h_law18_TimesTurn : Shape := ⟨slotsOf 3 [(0, .agg [.hole (.str), .hole (.sl 44), .hole (.sl 138), .hole (.sl 42), .hole (.sl 103), .hole (.sl 47), .hole (.int .i64)]), (1, .agg [.hole (.str), .hole (.int .i64), .hole (.sl 71), .hole (.int .i64), .hole (.int .i64)]), (2, .c (.hole (.int .i64)))], [], []⟩
def o_law18_TimesTurn : List (Ex × Shape) := [(.ret, ⟨slotsOf 1 [(0, .c (.hole (.bool)))], [], []⟩)]
noncomputable def law18_TimesTurn (n : Nat) (x0 : ByteArray × (List (ByteArray × Int × Int × Int × Int × Int × Int × Int × Int × Int × Int)) × (List (ByteArray × ByteArray × Int × Int × Int × Int)) × (List (ByteArray × (List ByteArray) × Int)) × (List (List (Bool × List ByteArray))) × (List (ByteArray × ByteArray × Int)) × Int × ByteArray × Int × (List (List (List (ByteArray × Int × Int × Int × List (ByteArray × Int × Int))))) × Int × Int × Int) : Option (Bool) :=
  letJ (fun (x2 : Int × Bool × ByteArray × (List (ByteArray × Int × Int × Int × Int × Int × Int × Int × Int × Int × Int)) × (List (ByteArray × ByteArray × Int × Int × Int × Int)) × (List (ByteArray × (List ByteArray) × Int)) × (List (List (Bool × List ByteArray))) × (List (ByteArray × ByteArray × Int)) × Int × ByteArray × Int × (List (List (List (ByteArray × Int × Int × Int × List (ByteArray × Int × Int))))) × Int × Int) =>
    bif x2.2.1 then
      (law18_awake n ()).bind fun y4 =>
      some y4
    else
      (times_Heads n x2.2.2).bind fun y5 =>
      (times_Heads n (x2.2.2.1, x2.2.2.2.1, x2.2.2.2.2.1, x2.2.2.2.2.2.1, x2.2.2.2.2.2.2.1, x2.2.2.2.2.2.2.2.1, x2.2.2.2.2.2.2.2.2.1, x2.2.2.2.2.2.2.2.2.2.1, wrap64 (x2.2.2.2.2.2.2.2.2.2.2.1 + x2.1), x2.2.2.2.2.2.2.2.2.2.2.2)).bind fun y6 =>
      letJ (fun (x7 : Int × Bool × ByteArray × Int × (List (List (List (ByteArray × Int × Int × Int × List (ByteArray × Int × Int))))) × Int × Int × (List (ByteArray × Int × Int × Int × Int)) × List (ByteArray × Int × Int × Int × Int)) =>
        bif x7.2.1 then
          some false
        else
        (times_Length n (x7.2.2.1, x7.2.2.2.1, x7.2.2.2.2.1, x7.2.2.2.2.2.1, x7.2.2.2.2.2.2.1)).bind fun y9 =>
        (iterL (Y := (Bool) ⊕ (Unit)) n (fun (x10 : Int × Int × Int × (List (ByteArray × Int × Int × Int × Int)) × List (ByteArray × Int × Int × Int × Int)) =>
          let e0 := x10.2.2.2.1.length
          let e1 := inB x10.2.2.1 e0
          let e2 := atI (ByteArray.mk #[], 0, 0, 0, 0) x10.2.2.2.1 x10.2.2.1
          let e3 := e2.2
          let e4 := e2.2.2
          let e5 := e2.2.2.1
          let e6 := inB x10.2.2.1 x10.2.2.2.2.length
          let e7 := atI (ByteArray.mk #[], 0, 0, 0, 0) x10.2.2.2.2 x10.2.2.1
          let e8 := e7.2
          let e9 := e7.2.2
          let e10 := e7.2.2.1
          bif decide (x10.2.2.1 < ((e0 : Nat) : Int)) then
            bif e1 then
              (ref03_Turn n (x10.2.1, (e2.2.1, e5) :: [], x10.1)).bind fun y11 =>
              letJ (fun (x14 : Int × Int × Int × Bool × (List (ByteArray × Int × Int × Int × Int)) × List (ByteArray × Int × Int × Int × Int)) =>
                bif x14.2.2.2.1 then
                  some (.inr (.inl false))
                else
                some (.inl (x14.1, x14.2.1, wrap64 (x14.2.2.1 + 1), x14.2.2.2.2))) fun J15 =>
              bif e1 then
                bif e6 then
                  bif !(strEq e2.1 e7.1) then
                    J15 (x10.1, x10.2.1, x10.2.2.1, true, x10.2.2.2)
                  else
                  bif e6 then
                    (ref03_Set n (x10.2.1, (e7.2.1, e10) :: [])).bind fun y12 =>
                    (ref03_Same n (y11, y12)).bind fun y13 =>
                    bif !y13 then
                      J15 (x10.1, x10.2.1, x10.2.2.1, true, x10.2.2.2)
                    else
                    bif e1 then
                      bif e6 then
                        bif !(e5 == e10) then
                          J15 (x10.1, x10.2.1, x10.2.2.1, true, x10.2.2.2)
                        else
                        bif e1 then
                          bif e6 then
                            J15 (x10.1, x10.2.1, x10.2.2.1, !(e2.2.2.2.2 == e7.2.2.2.2), x10.2.2.2)
                          else
                          none
                        else
                        none
                      else
                      none
                    else
                    none
                  else
                  none
                else
                none
              else
              none
            else
            none
          else
          some (.inr (.inr ()))) (x7.1, y9, 0, x7.2.2.2.2.2.2.2)).bind (Sum.elim (fun (z16 : Bool) =>
          some z16) (fun (z17 : Unit) =>
          (law18_awake n ()).bind fun y18 =>
          some y18))) fun J8 =>
      bif !(y5.1 == y6.1) then
        J8 (x2.1, true, x2.2.2.2.2.2.2.2.2.2.1, x2.2.2.2.2.2.2.2.2.2.2.1, x2.2.2.2.2.2.2.2.2.2.2.2.1, x2.2.2.2.2.2.2.2.2.2.2.2.2.1, x2.2.2.2.2.2.2.2.2.2.2.2.2.2, y5.2, y6.2)
      else
      J8 (x2.1, !(((y5.2.length : Nat) : Int) == ((y6.2.length : Nat) : Int)), x2.2.2.2.2.2.2.2.2.2.1, x2.2.2.2.2.2.2.2.2.2.2.1, x2.2.2.2.2.2.2.2.2.2.2.2.1, x2.2.2.2.2.2.2.2.2.2.2.2.2.1, x2.2.2.2.2.2.2.2.2.2.2.2.2.2, y5.2, y6.2)) fun J3 =>
  (law18_Few n (x0.1, x0.2.1, x0.2.2.1, x0.2.2.2.1, x0.2.2.2.2.1, x0.2.2.2.2.2.1, x0.2.2.2.2.2.2.1, x0.2.2.2.2.2.2.2.1, x0.2.2.2.2.2.2.2.2.1, x0.2.2.2.2.2.2.2.2.2.1, x0.2.2.2.2.2.2.2.2.2.2.1, x0.2.2.2.2.2.2.2.2.2.2.2.1)).bind fun y1 =>
  bif !y1 then
    J3 (x0.2.2.2.2.2.2.2.2.2.2.2.2, true, x0.1, x0.2.1, x0.2.2.1, x0.2.2.2.1, x0.2.2.2.2.1, x0.2.2.2.2.2.1, x0.2.2.2.2.2.2.1, x0.2.2.2.2.2.2.2.1, x0.2.2.2.2.2.2.2.2.1, x0.2.2.2.2.2.2.2.2.2.1, x0.2.2.2.2.2.2.2.2.2.2.1, x0.2.2.2.2.2.2.2.2.2.2.2.1)
  else
  bif decide (x0.2.2.2.2.2.2.2.2.2.2.2.2 < 0) then
    J3 (x0.2.2.2.2.2.2.2.2.2.2.2.2, true, x0.1, x0.2.1, x0.2.2.1, x0.2.2.2.1, x0.2.2.2.2.1, x0.2.2.2.2.2.1, x0.2.2.2.2.2.2.1, x0.2.2.2.2.2.2.2.1, x0.2.2.2.2.2.2.2.2.1, x0.2.2.2.2.2.2.2.2.2.1, x0.2.2.2.2.2.2.2.2.2.2.1, x0.2.2.2.2.2.2.2.2.2.2.2.1)
  else
  bif decide (6000 < x0.2.2.2.2.2.2.2.2.2.2.2.2) then
    J3 (x0.2.2.2.2.2.2.2.2.2.2.2.2, true, x0.1, x0.2.1, x0.2.2.1, x0.2.2.2.1, x0.2.2.2.2.1, x0.2.2.2.2.2.1, x0.2.2.2.2.2.2.1, x0.2.2.2.2.2.2.2.1, x0.2.2.2.2.2.2.2.2.1, x0.2.2.2.2.2.2.2.2.2.1, x0.2.2.2.2.2.2.2.2.2.2.1, x0.2.2.2.2.2.2.2.2.2.2.2.1)
  else
  bif decide (x0.2.2.2.2.2.2.2.2.1 < 0) then
    J3 (x0.2.2.2.2.2.2.2.2.2.2.2.2, true, x0.1, x0.2.1, x0.2.2.1, x0.2.2.2.1, x0.2.2.2.2.1, x0.2.2.2.2.2.1, x0.2.2.2.2.2.2.1, x0.2.2.2.2.2.2.2.1, x0.2.2.2.2.2.2.2.2.1, x0.2.2.2.2.2.2.2.2.2.1, x0.2.2.2.2.2.2.2.2.2.2.1, x0.2.2.2.2.2.2.2.2.2.2.2.1)
  else
  J3 (x0.2.2.2.2.2.2.2.2.2.2.2.2, decide (6000 < x0.2.2.2.2.2.2.2.2.1), x0.1, x0.2.1, x0.2.2.1, x0.2.2.2.1, x0.2.2.2.2.1, x0.2.2.2.2.2.1, x0.2.2.2.2.2.2.1, x0.2.2.2.2.2.2.2.1, x0.2.2.2.2.2.2.2.2.1, x0.2.2.2.2.2.2.2.2.2.1, x0.2.2.2.2.2.2.2.2.2.2.1, x0.2.2.2.2.2.2.2.2.2.2.2.1)
def p_law18_TimesTurn : Plan := .two (.leaf) (.two (.two (.join ⟨slotsOf 138 [(2, .c (.hole (.int .i64))), (3, .c (.box 3 0)), (4, .c (.box 4 0)), (36, .c (.hole (.bool)))], [(3, 39, [.hole (.str), .hole (.sl 44), .hole (.sl 138), .hole (.sl 42), .hole (.sl 103), .hole (.sl 47), .hole (.int .i64)]), (4, 52, [.hole (.str), .hole (.int .i64), .hole (.sl 71), .hole (.int .i64), .hole (.int .i64)])], []⟩ (.leaf)) (.leaf)) (.two (.leaf) (.two (.leaf) (.two (.leaf) (.two (.leaf) (.two (.two (.join ⟨slotsOf 138 [(2, .c (.hole (.int .i64))), (4, .c (.box 4 0)), (8, .c (.row 14700)), (10, .c (.row 15300)), (65, .c (.hole (.bool)))], [(4, 52, [.hole (.str), .hole (.int .i64), .hole (.sl 71), .hole (.int .i64), .hole (.int .i64)])], [(14700, 76), (15300, 76)]⟩ (.leaf)) (.leaf)) (.two (.leaf) (.two (.two (.leaf) (.one (.loop ⟨slotsOf 138 [(2, .c (.hole (.int .i64))), (8, .c (.row 14700)), (10, .c (.row 15300)), (12, .c (.hole (.int .i64))), (13, .c (.hole (.int .i64)))], [], [(14700, 76), (15300, 76)]⟩ [(.ret, ⟨slotsOf 138 [(6, .c (.hole (.bool)))], [], []⟩), (.exit 0, ⟨slotsOf 138 [], [], []⟩)] (.two (.leaf) (.two (.one (.two (.leaf) (.two (.join ⟨slotsOf 138 [(2, .c (.hole (.int .i64))), (8, .c (.row 14700)), (10, .c (.row 15300)), (12, .c (.hole (.int .i64))), (13, .c (.hole (.int .i64))), (136, .c (.hole (.bool)))], [], [(14700, 76), (15300, 76)]⟩ (.leaf)) (.leaf)))) (.leaf)))))) (.leaf)))))))))
noncomputable def c_law18_TimesTurn (n : Nat) : Cx := ⟨Go.Proofs.Try.prog, Θ, [219, 74], [(43, ⟨h_ref03_Set, o_ref03_Set, ref03_Set n⟩), (40, ⟨h_times_Length, o_times_Length, times_Length n⟩), (39, ⟨h_times_Heads, o_times_Heads, times_Heads n⟩), (38, ⟨h_law18_awake, o_law18_awake, law18_awake n⟩), (24, ⟨h_law18_Few, o_law18_Few, law18_Few n⟩), (41, ⟨h_ref03_Turn, o_ref03_Turn, ref03_Turn n⟩), (42, ⟨h_ref03_Same, o_ref03_Same, ref03_Same n⟩)], [], []⟩
theorem d_law18_TimesTurn (n : Nat) (x : h_law18_TimesTurn.X T) : denF (c_law18_TimesTurn n) n Go.Proofs.Try.f10 p_law18_TimesTurn h_law18_TimesTurn o_law18_TimesTurn x = law18_TimesTurn n x := by kernel_rfl
theorem s_law18_TimesTurn (n : Nat) : PCalls Go.Proofs.Try.prog Θ 10 ⟨h_law18_TimesTurn, o_law18_TimesTurn, law18_TimesTurn n⟩ :=
  func_ok' (C := c_law18_TimesTurn n) (n := n) (p := p_law18_TimesTurn) (ok_of mixed eqsOk ⟨s_ref03_Set n, s_times_Length n, s_times_Heads n, s_law18_awake n, s_law18_Few n, s_ref03_Turn n, s_ref03_Same n, trivial⟩ trivial trivial) Go.Proofs.Try.func10 (by kernel_rfl) (by kernel_rfl) (d_law18_TimesTurn n) (by kernel_rfl)

end Go.Proofs.Ytakkhnoelnpfdaa.Fn
