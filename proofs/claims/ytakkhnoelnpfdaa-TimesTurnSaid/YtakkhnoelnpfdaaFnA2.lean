/- Functions of the program, each as a plain function, and that the machine does what it says. -/
import Derived.Test.YtakkhnoelnpfdaaFnA1
namespace Go.Proofs.Ytakkhnoelnpfdaa.Fn
set_option linter.unusedVariables false
set_option maxRecDepth 100000
open Go Go.RowKit Go.Den
/-- slices.IndexFunc[[]carrefour/api.Phase,carrefour/api.Phase] -/
def h_slices_IndexFunc_3 : Shape := ⟨slotsOf 2 [(0, .c (.hole (.sl 42))), (1, .c (.fn 57 [1000000]))], [(1000000, 9, [.hole (.str)])], []⟩
def o_slices_IndexFunc_3 : List (Ex × Shape) := [(.ret, ⟨slotsOf 1 [(0, .c (.hole (.int .i64)))], [(1000000, 9, [.hole (.str)])], []⟩)]
def slices_IndexFunc_3 (n : Nat) (x0 : (List (ByteArray × (List ByteArray) × Int)) × ByteArray) : Option (Int × ByteArray) :=
  (iterL (Y := (Int × ByteArray) ⊕ (ByteArray)) n (fun (x1 : (List (ByteArray × (List ByteArray) × Int)) × Int × Int × ByteArray) =>
    let e0 := atI (ByteArray.mk #[], [], 0) x1.1 x1.2.2.1
    let e1 := e0.2
    bif decide (x1.2.2.1 < x1.2.1) then
      bif inB x1.2.2.1 x1.1.length then
        (valid_Home_1 n (e0.1, e0.2.1, e0.2.2, x1.2.2.2)).bind fun y2 =>
        bif y2.1 then
          some (.inr (.inl (x1.2.2.1, y2.2)))
        else
        some (.inl (x1.1, x1.2.1, wrap64 (x1.2.2.1 + 1), y2.2))
      else
      none
    else
    some (.inr (.inr x1.2.2.2))) (x0.1, ((x0.1.length : Nat) : Int), 0, x0.2)).bind (Sum.elim (fun (z3 : Int × ByteArray) =>
    some z3) (fun (z4 : ByteArray) =>
    some ((-1), z4)))
def p_slices_IndexFunc_3 : Plan := .two (.leaf) (.two (.two (.leaf) (.one (.loop ⟨slotsOf 19 [(0, .c (.hole (.sl 42))), (1, .c (.fn 57 [1000000])), (7, .c (.hole (.int .i64))), (8, .c (.hole (.int .i64)))], [(1000000, 9, [.hole (.str)])], []⟩ [(.ret, ⟨slotsOf 19 [(4, .c (.hole (.int .i64)))], [(1000000, 9, [.hole (.str)])], []⟩), (.exit 0, ⟨slotsOf 19 [], [(1000000, 9, [.hole (.str)])], []⟩)] (.leaf)))) (.leaf))
noncomputable def c_slices_IndexFunc_3 (n : Nat) : Cx := ⟨Go.Proofs.Try.prog, Θ, [219, 74], [(57, ⟨h_valid_Home_1, o_valid_Home_1, valid_Home_1 n⟩)], [], []⟩
theorem d_slices_IndexFunc_3 (n : Nat) (x : h_slices_IndexFunc_3.X T) : denF (c_slices_IndexFunc_3 n) n Go.Proofs.Try.f56 p_slices_IndexFunc_3 h_slices_IndexFunc_3 o_slices_IndexFunc_3 x = slices_IndexFunc_3 n x := by kernel_rfl
theorem s_slices_IndexFunc_3 (n : Nat) : PCalls Go.Proofs.Try.prog Θ 56 ⟨h_slices_IndexFunc_3, o_slices_IndexFunc_3, slices_IndexFunc_3 n⟩ :=
  func_ok' (C := c_slices_IndexFunc_3 n) (n := n) (p := p_slices_IndexFunc_3) (ok_of mixed eqsOk ⟨s_valid_Home_1 n, trivial⟩ trivial trivial) Go.Proofs.Try.func56 (by kernel_rfl) (by kernel_rfl) (d_slices_IndexFunc_3 n) (by kernel_rfl)

/-- carrefour/valid.Home -/
def h_valid_Home : Shape := ⟨slotsOf 2 [(0, .agg [.hole (.str), .hole (.sl 44), .hole (.sl 138), .hole (.sl 42), .hole (.sl 103), .hole (.sl 47), .hole (.int .i64)]), (1, .c (.hole (.str)))], [], []⟩
def o_valid_Home : List (Ex × Shape) := [(.ret, ⟨slotsOf 1 [(0, .c (.hole (.int .i64)))], [], []⟩)]
def valid_Home (n : Nat) (x0 : ByteArray × (List (ByteArray × Int × Int × Int × Int × Int × Int × Int × Int × Int × Int)) × (List (ByteArray × ByteArray × Int × Int × Int × Int)) × (List (ByteArray × (List ByteArray) × Int)) × (List (List (Bool × List ByteArray))) × (List (ByteArray × ByteArray × Int)) × Int × ByteArray) : Option (Int) :=
  (slices_IndexFunc_3 n (x0.2.2.2.1, x0.2.2.2.2.2.2.2)).bind fun y1 =>
  some y1.1
def p_valid_Home : Plan := .leaf
noncomputable def c_valid_Home (n : Nat) : Cx := ⟨Go.Proofs.Try.prog, Θ, [219, 74], [(56, ⟨h_slices_IndexFunc_3, o_slices_IndexFunc_3, slices_IndexFunc_3 n⟩)], [], []⟩
theorem d_valid_Home (n : Nat) (x : h_valid_Home.X T) : denF (c_valid_Home n) n Go.Proofs.Try.f16 p_valid_Home h_valid_Home o_valid_Home x = valid_Home n x := by kernel_rfl
theorem s_valid_Home (n : Nat) : PCalls Go.Proofs.Try.prog Θ 16 ⟨h_valid_Home, o_valid_Home, valid_Home n⟩ :=
  func_ok' (C := c_valid_Home n) (n := n) (p := p_valid_Home) (ok_of mixed eqsOk ⟨s_slices_IndexFunc_3 n, trivial⟩ trivial trivial) Go.Proofs.Try.func16 (by kernel_rfl) (by kernel_rfl) (d_valid_Home n) (by kernel_rfl)

/-- carrefour/times.Heads -/
def h_times_Heads : Shape := ⟨slotsOf 2 [(0, .agg [.hole (.str), .hole (.sl 44), .hole (.sl 138), .hole (.sl 42), .hole (.sl 103), .hole (.sl 47), .hole (.int .i64)]), (1, .agg [.hole (.str), .hole (.int .i64), .hole (.sl 71), .hole (.int .i64), .hole (.int .i64)])], [], []⟩
def o_times_Heads : List (Ex × Shape) := [(.ret, ⟨slotsOf 2 [(0, .c (.row 0)), (1, .c (.hole (.int .i64)))], [], [(0, 76)]⟩)]
noncomputable def times_Heads (n : Nat) (x0 : ByteArray × (List (ByteArray × Int × Int × Int × Int × Int × Int × Int × Int × Int × Int)) × (List (ByteArray × ByteArray × Int × Int × Int × Int)) × (List (ByteArray × (List ByteArray) × Int)) × (List (List (Bool × List ByteArray))) × (List (ByteArray × ByteArray × Int)) × Int × ByteArray × Int × (List (List (List (ByteArray × Int × Int × Int × List (ByteArray × Int × Int))))) × Int × Int) : Option (Int × List (ByteArray × Int × Int × Int × Int)) :=
  (times_Fits n x0).bind fun y1 =>
  bif !y1 then
    some (180, [])
  else
  (times_newClock n x0.2.2.2.2.2.2.2).bind fun y2 =>
  (times_slots n x0.2.2.2.2.2.2.2).bind fun y3 =>
  ifY yok_390 (
    (times_slots_1 n (y2.1, y2.2, y3.1, y3.2.1, y3.2.2.1, y3.2.2.2.1, y3.2.2.2.2, [])).bind fun y4 =>
    (iterL (Y := (List (ByteArray × Int × Int × Int × Int))) n (fun (x7 : (List (ByteArray × Int × Int × Int × Int × Int × Int × Int × Int × Int × Int)) × Int × Int × ByteArray × (List (ByteArray × Int × Int × Int × Int × Int × Int × Int × Int × Int × Int)) × (List (ByteArray × ByteArray × Int × Int × Int × Int)) × (List (ByteArray × (List ByteArray) × Int)) × (List (List (Bool × List ByteArray))) × (List (ByteArray × ByteArray × Int)) × Int × (List (ByteArray × Int × Int × Int × Int)) × List (ByteArray × ByteArray × Int × Int × Int × Int)) =>
      bif decide (x7.2.2.1 < x7.2.1) then
        bif inB x7.2.2.1 x7.1.length then
          (valid_Home n (x7.2.2.2.1, x7.2.2.2.2.1, x7.2.2.2.2.2.1, x7.2.2.2.2.2.2.1, x7.2.2.2.2.2.2.2.1, x7.2.2.2.2.2.2.2.2.1, x7.2.2.2.2.2.2.2.2.2.1, (atI (ByteArray.mk #[], 0, 0, 0, 0, 0, 0, 0, 0, 0, 0) x7.1 x7.2.2.1).1)).bind fun y8 =>
          bif decide (0 ≤ y8) then
            bif inB y8 x7.2.2.2.2.2.2.1.length then
              bif fitB (x7.2.2.2.2.2.2.2.2.2.2.1.length + (List.length (((atI (ByteArray.mk #[], 0, 0, 0, 0, 0, 0, 0, 0, 0, 0) x7.1 x7.2.2.1).1, (mfind (atI (ByteArray.mk #[], [], 0) x7.2.2.2.2.2.2.1 y8).1 ((atI (ByteArray.mk #[], [], 0) x7.2.2.2.2.2.2.1 y8).1, ByteArray.mk #[], 0, 0, 0, 0) x7.2.2.2.2.2.2.2.2.2.2.2).2.2) :: []))) 48 then
                some (.inl (x7.1, x7.2.1, wrap64 (x7.2.2.1 + 1), x7.2.2.2.1, x7.2.2.2.2.1, x7.2.2.2.2.2.1, x7.2.2.2.2.2.2.1, x7.2.2.2.2.2.2.2.1, x7.2.2.2.2.2.2.2.2.1, x7.2.2.2.2.2.2.2.2.2.1, x7.2.2.2.2.2.2.2.2.2.2.1 ++ (((atI (ByteArray.mk #[], 0, 0, 0, 0, 0, 0, 0, 0, 0, 0) x7.1 x7.2.2.1).1, (mfind (atI (ByteArray.mk #[], [], 0) x7.2.2.2.2.2.2.1 y8).1 ((atI (ByteArray.mk #[], [], 0) x7.2.2.2.2.2.2.1 y8).1, ByteArray.mk #[], 0, 0, 0, 0) x7.2.2.2.2.2.2.2.2.2.2.2).2.2) :: []), x7.2.2.2.2.2.2.2.2.2.2.2))
              else
              none
            else
            none
          else
            bif fitB (x7.2.2.2.2.2.2.2.2.2.2.1.length + (List.length (((atI (ByteArray.mk #[], 0, 0, 0, 0, 0, 0, 0, 0, 0, 0) x7.1 x7.2.2.1).1, 0, 0, 0, 0) :: []))) 48 then
              some (.inl (x7.1, x7.2.1, wrap64 (x7.2.2.1 + 1), x7.2.2.2.1, x7.2.2.2.2.1, x7.2.2.2.2.2.1, x7.2.2.2.2.2.2.1, x7.2.2.2.2.2.2.2.1, x7.2.2.2.2.2.2.2.2.1, x7.2.2.2.2.2.2.2.2.2.1, x7.2.2.2.2.2.2.2.2.2.2.1 ++ (((atI (ByteArray.mk #[], 0, 0, 0, 0, 0, 0, 0, 0, 0, 0) x7.1 x7.2.2.1).1, 0, 0, 0, 0) :: []), x7.2.2.2.2.2.2.2.2.2.2.2))
            else
            none
        else
        none
      else
      some (.inr x7.2.2.2.2.2.2.2.2.2.2.1)) (x0.2.1, ((x0.2.1.length : Nat) : Int), 0, x0.1, x0.2.1, x0.2.2.1, x0.2.2.2.1, x0.2.2.2.2.1, x0.2.2.2.2.2.1, x0.2.2.2.2.2.2.1, [], y4.2.2.2.2.2.2.2)).bind fun (z9 : List (ByteArray × Int × Int × Int × Int)) =>
      some (0, z9))
def p_times_Heads : Plan := .two (.leaf) (.two (.leaf) (.two (.leaf) (.two (.leaf) (.two (.two (.leaf) (.one (.range 390 [6, 7]))) (.two (.leaf) (.two (.two (.leaf) (.one (.loop ⟨slotsOf 90 [(2, .c (.box 2 0)), (7, .c (.box 7 0)), (13, .c (.row 87)), (61, .c (.hole (.sl 44))), (62, .c (.hole (.int .i64))), (63, .c (.hole (.int .i64)))], [(2, 39, [.hole (.str), .hole (.sl 44), .hole (.sl 138), .hole (.sl 42), .hole (.sl 103), .hole (.sl 47), .hole (.int .i64)]), (7, 152, [.row 24])], [(87, 76), (24, 1000305)]⟩ [(.exit 2, ⟨slotsOf 90 [(13, .c (.row 87))], [], [(87, 76)]⟩)] (.leaf)))) (.leaf)))))))
noncomputable def c_times_Heads (n : Nat) : Cx := ⟨Go.Proofs.Try.prog, Θ, [219, 74], [(67, ⟨h_times_Fits, o_times_Fits, times_Fits n⟩), (88, ⟨h_times_newClock, o_times_newClock, times_newClock n⟩), (89, ⟨h_times_slots, o_times_slots, times_slots n⟩), (129, ⟨h_times_slots_1, o_times_slots_1, times_slots_1 n⟩), (16, ⟨h_valid_Home, o_valid_Home, valid_Home n⟩)], [], []⟩
theorem d_times_Heads (n : Nat) (x : h_times_Heads.X T) : denF (c_times_Heads n) n Go.Proofs.Try.f39 p_times_Heads h_times_Heads o_times_Heads x = times_Heads n x := by kernel_rfl
theorem s_times_Heads (n : Nat) : PCalls Go.Proofs.Try.prog Θ 39 ⟨h_times_Heads, o_times_Heads, times_Heads n⟩ :=
  func_ok' (C := c_times_Heads n) (n := n) (p := p_times_Heads) (ok_of mixed eqsOk ⟨s_times_Fits n, s_times_newClock n, s_times_slots n, s_times_slots_1 n, s_valid_Home n, trivial⟩ trivial trivial) Go.Proofs.Try.func39 (by kernel_rfl) (by kernel_rfl) (d_times_Heads n) (by kernel_rfl)

/-- carrefour/carrefourlaw18.awake -/
def h_law18_awake : Shape := ⟨slotsOf 0 [], [], []⟩
def o_law18_awake : List (Ex × Shape) := [(.ret, ⟨slotsOf 1 [(0, .c (.hole (.bool)))], [], []⟩)]
noncomputable def law18_awake (n : Nat) (x0 : Unit) : Option (Bool) :=
  (law18_two n ()).bind fun y1 =>
  (times_Heads n (y1.1, y1.2.1, [], y1.2.2.1, y1.2.2.2.1, [], y1.2.2.2.2, ByteArray.mk #[], 5, (((ByteArray.mk #[112], 10, 3, 2, []) :: ((ByteArray.mk #[113], 20, 3, 2, []) :: [])) :: []) :: [], 0, 0)).bind fun y2 =>
  letJ (fun (x6 : Bool × List (ByteArray × Int × Int × Int × Int)) =>
    let e0 := x6.2.length
    let e1 := inB 0 e0
    let e2 := inB 1 e0
    let e3 := atI (ByteArray.mk #[], 0, 0, 0, 0) x6.2 1
    let e4 := e3.2
    let e5 := e3.2.2
    let e6 := e3.2.2.2
    let e7 := (atI (ByteArray.mk #[], 0, 0, 0, 0) x6.2 0).2
    let e8 := (atI (ByteArray.mk #[], 0, 0, 0, 0) x6.2 0).2.2
    let e9 := (atI (ByteArray.mk #[], 0, 0, 0, 0) x6.2 0).2.2.2
    bif x6.1 then
      some false
    else
    letJ (fun (x9 : Bool) =>
      some x9) fun J10 =>
    bif e1 then
      bif ((atI (ByteArray.mk #[], 0, 0, 0, 0) x6.2 0).2.1 == 5) && (((atI (ByteArray.mk #[], 0, 0, 0, 0) x6.2 0).2.2.1 == 5) && true) then
        bif e1 then
          bif ((atI (ByteArray.mk #[], 0, 0, 0, 0) x6.2 0).2.2.2.1 == 10) && (((atI (ByteArray.mk #[], 0, 0, 0, 0) x6.2 0).2.2.2.2 == 3) && true) then
            bif e2 then
              bif (e3.2.1 == 15) && ((e3.2.2.1 == 15) && true) then
                bif e2 then
                  bif (e3.2.2.2.1 == 0) && ((e3.2.2.2.2 == 3) && true) then
                    bif e2 then
                      (times_Busy n (30, e3)).bind fun y8 =>
                      J10 ((y8.1 == 15) && ((y8.2 == 18) && true))
                    else
                    none
                  else
                  J10 false
                else
                none
              else
              J10 false
            else
            none
          else
          J10 false
        else
        none
      else
      J10 false
    else
    none) fun J7 =>
  bif !(y2.1 == 0) then
    J7 (true, y2.2)
  else
  bif !(((y2.2.length : Nat) : Int) == 2) then
    J7 (true, y2.2)
  else
  (law18_two n ()).bind fun y3 =>
  (times_Fits n (y3.1, y3.2.1, [], y3.2.2.1, y3.2.2.2.1, [], y3.2.2.2.2, ByteArray.mk #[], 5, (((ByteArray.mk #[112], 10, 3, 2, []) :: ((ByteArray.mk #[113], 20, 3, 2, []) :: [])) :: []) :: [], 0, 0)).bind fun y4 =>
  bif !y4 then
    J7 (true, y2.2)
  else
  (times_Length n (ByteArray.mk #[], 5, (((ByteArray.mk #[112], 10, 3, 2, []) :: ((ByteArray.mk #[113], 20, 3, 2, []) :: [])) :: []) :: [], 0, 0)).bind fun y5 =>
  J7 (!(y5 == 30), y2.2)
def p_law18_awake : Plan := .two (.leaf) (.two (.leaf) (.two (.leaf) (.two (.two (.join ⟨slotsOf 73 [(2, .c (.row 11400)), (34, .c (.hole (.bool)))], [], [(11400, 76)]⟩ (.leaf)) (.leaf)) (.two (.join ⟨slotsOf 73 [(0, .c (.hole (.bool)))], [], []⟩ (.leaf)) (.leaf)))))
noncomputable def c_law18_awake (n : Nat) : Cx := ⟨Go.Proofs.Try.prog, Θ, [219, 74], [(36, ⟨h_times_Busy, o_times_Busy, times_Busy n⟩), (87, ⟨h_law18_two, o_law18_two, law18_two n⟩), (40, ⟨h_times_Length, o_times_Length, times_Length n⟩), (67, ⟨h_times_Fits, o_times_Fits, times_Fits n⟩), (39, ⟨h_times_Heads, o_times_Heads, times_Heads n⟩)], [], []⟩
theorem d_law18_awake (n : Nat) (x : h_law18_awake.X T) : denF (c_law18_awake n) n Go.Proofs.Try.f38 p_law18_awake h_law18_awake o_law18_awake x = law18_awake n x := by kernel_rfl
theorem s_law18_awake (n : Nat) : PCalls Go.Proofs.Try.prog Θ 38 ⟨h_law18_awake, o_law18_awake, law18_awake n⟩ :=
  func_ok' (C := c_law18_awake n) (n := n) (p := p_law18_awake) (ok_of mixed eqsOk ⟨s_times_Busy n, s_law18_two n, s_times_Length n, s_times_Fits n, s_times_Heads n, trivial⟩ trivial trivial) Go.Proofs.Try.func38 (by kernel_rfl) (by kernel_rfl) (d_law18_awake n) (by kernel_rfl)

/-- carrefour/carrefourlaw18.TimesBusy -/
def h_law18_TimesBusy : Shape := ⟨slotsOf 2 [(0, .c (.hole (.int .i64))), (1, .agg [.hole (.str), .hole (.int .i64), .hole (.int .i64), .hole (.int .i64), .hole (.int .i64)])], [], []⟩
def o_law18_TimesBusy : List (Ex × Shape) := [(.ret, ⟨slotsOf 1 [(0, .c (.hole (.bool)))], [], []⟩)]
noncomputable def law18_TimesBusy (n : Nat) (x0 : Int × ByteArray × Int × Int × Int × Int) : Option (Bool) :=
  letJ (fun (x1 : Int × Bool × ByteArray × Int × Int × Int × Int) =>
    bif x1.2.1 then
      some true
    else
    (times_Busy n (x1.1, x1.2.2)).bind fun y3 =>
    (ref18_Busy n (x1.1, x1.2.2)).bind fun y4 =>
    bif (y3.1 == y4.1) && ((y3.2 == y4.2) && true) then
      (law18_awake n ()).bind fun y5 =>
      some y5
    else
    some false) fun J2 =>
  bif decide (500 < x0.1) then
    J2 (x0.1, decide (x0.1 ≤ 6000), x0.2)
  else
  J2 (x0.1, false, x0.2)
def p_law18_TimesBusy : Plan := .two (.leaf) (.two (.two (.join ⟨slotsOf 21 [(0, .c (.hole (.int .i64))), (3, .c (.box 3 0)), (10, .c (.hole (.bool)))], [(3, 76, [.hole (.str), .hole (.int .i64), .hole (.int .i64), .hole (.int .i64), .hole (.int .i64)])], []⟩ (.leaf)) (.leaf)) (.leaf))
noncomputable def c_law18_TimesBusy (n : Nat) : Cx := ⟨Go.Proofs.Try.prog, Θ, [219, 74], [(36, ⟨h_times_Busy, o_times_Busy, times_Busy n⟩), (37, ⟨h_ref18_Busy, o_ref18_Busy, ref18_Busy n⟩), (38, ⟨h_law18_awake, o_law18_awake, law18_awake n⟩)], [], []⟩
theorem d_law18_TimesBusy (n : Nat) (x : h_law18_TimesBusy.X T) : denF (c_law18_TimesBusy n) n Go.Proofs.Try.f9 p_law18_TimesBusy h_law18_TimesBusy o_law18_TimesBusy x = law18_TimesBusy n x := by kernel_rfl
theorem s_law18_TimesBusy (n : Nat) : PCalls Go.Proofs.Try.prog Θ 9 ⟨h_law18_TimesBusy, o_law18_TimesBusy, law18_TimesBusy n⟩ :=
  func_ok' (C := c_law18_TimesBusy n) (n := n) (p := p_law18_TimesBusy) (ok_of mixed eqsOk ⟨s_times_Busy n, s_ref18_Busy n, s_law18_awake n, trivial⟩ trivial trivial) Go.Proofs.Try.func9 (by kernel_rfl) (by kernel_rfl) (d_law18_TimesBusy n) (by kernel_rfl)

end Go.Proofs.Ytakkhnoelnpfdaa.Fn
