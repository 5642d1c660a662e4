/- Functions of the program, each as a plain function, and that the machine does what it says. -/
import Derived.Test.YtakkhnoelnpfdaaGreatFnA1
namespace Go.Proofs.YtakkhnoelnpfdaaGreat.Fn
set_option linter.unusedVariables false
set_option maxRecDepth 100000
open Go Go.RowKit Go.Den
/-- carrefour/carrefourref18.time -/
def h_ref18_time : Shape := ⟨slotsOf 1 [(0, .c (.hole (.int .i64)))], [], []⟩
def o_ref18_time : List (Ex × Shape) := [(.ret, ⟨slotsOf 1 [(0, .c (.hole (.bool)))], [], []⟩)]
def ref18_time (n : Nat) (x0 : Int) : Option (Bool) :=
  bif decide (0 ≤ x0) then
    some (decide (x0 ≤ 6000))
  else
  some false
def p_ref18_time : Plan := .leaf
noncomputable def c_ref18_time (n : Nat) : Cx := ⟨Go.Proofs.Tryz.prog, Θ, [191, 57], [], [], []⟩
theorem d_ref18_time (n : Nat) (x : h_ref18_time.X T) : denF (c_ref18_time n) n Go.Proofs.Tryz.f56 p_ref18_time h_ref18_time o_ref18_time x = ref18_time n x := by kernel_rfl
theorem s_ref18_time (n : Nat) : PCalls Go.Proofs.Tryz.prog Θ 56 ⟨h_ref18_time, o_ref18_time, ref18_time n⟩ :=
  func_ok' (C := c_ref18_time n) (n := n) (p := p_ref18_time) (ok_of mixed eqsOk trivial trivial trivial) Go.Proofs.Tryz.func56 (by kernel_rfl) (by kernel_rfl) (d_ref18_time n) (by kernel_rfl)

/-- carrefour/carrefourref18.Sum -/
def h_ref18_Sum : Shape := ⟨slotsOf 1 [(0, .c (.hole (.sl 62)))], [], []⟩
def o_ref18_Sum : List (Ex × Shape) := [(.ret, ⟨slotsOf 1 [(0, .c (.hole (.int .i64)))], [], []⟩)]
def ref18_Sum (n : Nat) (x0 : List (ByteArray × Int × Int × Int × List (ByteArray × Int × Int))) : Option (Int) :=
  (iterL (Y := (Int)) n (fun (x1 : (List (ByteArray × Int × Int × Int × List (ByteArray × Int × Int))) × Int × Int) =>
    let e0 := x1.1.length
    bif decide (x1.2.2 < ((e0 : Nat) : Int)) then
      bif inB x1.2.2 e0 then
        some (.inl (x1.1, wrap64 (x1.2.1 + (atI (ByteArray.mk #[], 0, 0, 0, []) x1.1 x1.2.2).2.1), wrap64 (x1.2.2 + 1)))
      else
      none
    else
    some (.inr x1.2.1)) (x0, 0, 0)).bind fun (z2 : Int) =>
    some z2
def p_ref18_Sum : Plan := .two (.leaf) (.two (.leaf) (.two (.two (.leaf) (.one (.loop ⟨slotsOf 19 [(0, .c (.hole (.sl 62))), (3, .c (.hole (.int .i64))), (4, .c (.hole (.int .i64)))], [], []⟩ [(.exit 0, ⟨slotsOf 19 [(3, .c (.hole (.int .i64)))], [], []⟩)] (.leaf)))) (.leaf)))
noncomputable def c_ref18_Sum (n : Nat) : Cx := ⟨Go.Proofs.Tryz.prog, Θ, [191, 57], [], [], []⟩
theorem d_ref18_Sum (n : Nat) (x : h_ref18_Sum.X T) : denF (c_ref18_Sum n) n Go.Proofs.Tryz.f91 p_ref18_Sum h_ref18_Sum o_ref18_Sum x = ref18_Sum n x := by kernel_rfl
theorem s_ref18_Sum (n : Nat) : PCalls Go.Proofs.Tryz.prog Θ 91 ⟨h_ref18_Sum, o_ref18_Sum, ref18_Sum n⟩ :=
  func_ok' (C := c_ref18_Sum n) (n := n) (p := p_ref18_Sum) (ok_of mixed eqsOk trivial trivial trivial) Go.Proofs.Tryz.func91 (by kernel_rfl) (by kernel_rfl) (d_ref18_Sum n) (by kernel_rfl)

/-- carrefour/carrefourref18.Long -/
def h_ref18_Long : Shape := ⟨slotsOf 1 [(0, .agg [.hole (.sl 82)])], [], []⟩
def o_ref18_Long : List (Ex × Shape) := [(.ret, ⟨slotsOf 1 [(0, .c (.hole (.int .i64)))], [], []⟩)]
def ref18_Long (n : Nat) (x0 : List (List (ByteArray × Int × Int × Int × List (ByteArray × Int × Int)))) : Option (Int) :=
  (iterL (Y := (Int)) n (fun (x1 : Int × Int × List (List (ByteArray × Int × Int × Int × List (ByteArray × Int × Int)))) =>
    let e0 := x1.2.2.length
    bif decide (x1.2.1 < ((e0 : Nat) : Int)) then
      bif inB x1.2.1 e0 then
        (ref18_Sum n (atI [] x1.2.2 x1.2.1)).bind fun y2 =>
        some (.inl (mx x1.1 y2, wrap64 (x1.2.1 + 1), x1.2.2))
      else
      none
    else
    some (.inr x1.1)) (0, 0, x0)).bind fun (z3 : Int) =>
    some z3
def p_ref18_Long : Plan := .two (.leaf) (.two (.leaf) (.two (.two (.leaf) (.one (.loop ⟨slotsOf 21 [(1, .c (.box 1 0)), (3, .c (.hole (.int .i64))), (4, .c (.hole (.int .i64)))], [(1, 85, [.hole (.sl 82)])], []⟩ [(.exit 0, ⟨slotsOf 21 [(3, .c (.hole (.int .i64)))], [], []⟩)] (.leaf)))) (.leaf)))
noncomputable def c_ref18_Long (n : Nat) : Cx := ⟨Go.Proofs.Tryz.prog, Θ, [191, 57], [(91, ⟨h_ref18_Sum, o_ref18_Sum, ref18_Sum n⟩)], [], []⟩
theorem d_ref18_Long (n : Nat) (x : h_ref18_Long.X T) : denF (c_ref18_Long n) n Go.Proofs.Tryz.f48 p_ref18_Long h_ref18_Long o_ref18_Long x = ref18_Long n x := by kernel_rfl
theorem s_ref18_Long (n : Nat) : PCalls Go.Proofs.Tryz.prog Θ 48 ⟨h_ref18_Long, o_ref18_Long, ref18_Long n⟩ :=
  func_ok' (C := c_ref18_Long n) (n := n) (p := p_ref18_Long) (ok_of mixed eqsOk ⟨s_ref18_Sum n, trivial⟩ trivial trivial) Go.Proofs.Tryz.func48 (by kernel_rfl) (by kernel_rfl) (d_ref18_Long n) (by kernel_rfl)

/-- carrefour/carrefourref18.Length -/
def h_ref18_Length : Shape := ⟨slotsOf 1 [(0, .agg [.hole (.str), .hole (.int .i64), .hole (.sl 85), .hole (.int .i64), .hole (.int .i64)])], [], []⟩
def o_ref18_Length : List (Ex × Shape) := [(.ret, ⟨slotsOf 1 [(0, .c (.hole (.int .i64)))], [], []⟩)]
def ref18_Length (n : Nat) (x0 : ByteArray × Int × (List (List (List (ByteArray × Int × Int × Int × List (ByteArray × Int × Int))))) × Int × Int) : Option (Int) :=
  bif decide (4 < ((x0.2.2.1.length : Nat) : Int)) then
    some 0
  else
  (iterL (Y := (Int) ⊕ (Int)) n (fun (x1 : Int × Int × ByteArray × Int × (List (List (List (ByteArray × Int × Int × Int × List (ByteArray × Int × Int))))) × Int × Int) =>
    let e0 := x1.2.2.2.2.1.length
    let e1 := atI [] x1.2.2.2.2.1 x1.2.1
    bif decide (x1.2.1 < ((e0 : Nat) : Int)) then
      bif inB x1.2.1 e0 then
        bif decide (2 < ((e1.length : Nat) : Int)) then
          some (.inr (.inl 0))
        else
        (iterL (Y := (Int) ⊕ (Int × Int × ByteArray × Int × (List (List (List (ByteArray × Int × Int × Int × List (ByteArray × Int × Int))))) × Int × Int)) n (fun (x2 : Int × Int × (List (List (ByteArray × Int × Int × Int × List (ByteArray × Int × Int)))) × Int × ByteArray × Int × (List (List (List (ByteArray × Int × Int × Int × List (ByteArray × Int × Int))))) × Int × Int) =>
          let e2 := x2.2.2.1.length
          bif decide (x2.2.2.2.1 < ((e2 : Nat) : Int)) then
            bif inB x2.2.2.2.1 e2 then
              bif decide (4 < ((List.length (atI [] x2.2.2.1 x2.2.2.2.1) : Nat) : Int)) then
                some (.inr (.inl 0))
              else
              (iterL (Y := (Int) ⊕ (Int × Int × (List (List (ByteArray × Int × Int × Int × List (ByteArray × Int × Int)))) × Int × ByteArray × Int × (List (List (List (ByteArray × Int × Int × Int × List (ByteArray × Int × Int))))) × Int × Int)) n (fun (x3 : Int × Int × (List (List (ByteArray × Int × Int × Int × List (ByteArray × Int × Int)))) × Int × Int × ByteArray × Int × (List (List (List (ByteArray × Int × Int × Int × List (ByteArray × Int × Int))))) × Int × Int) =>
                let e3 := inB x3.2.2.2.1 x3.2.2.1.length
                let e4 := atI [] x3.2.2.1 x3.2.2.2.1
                let e5 := e4.length
                let e6 := atI (ByteArray.mk #[], 0, 0, 0, []) e4 x3.2.2.2.2.1
                let e7 := e6.2
                let e8 := e6.2.2
                bif e3 then
                  bif decide (x3.2.2.2.2.1 < ((e5 : Nat) : Int)) then
                    bif e3 then
                      bif inB x3.2.2.2.2.1 e5 then
                        letJ (fun (x7 : Int × Int × (List (List (ByteArray × Int × Int × Int × List (ByteArray × Int × Int)))) × Int × Int × Bool × ByteArray × Int × (List (List (List (ByteArray × Int × Int × Int × List (ByteArray × Int × Int))))) × Int × Int × ByteArray × Int × Int × Int × List (ByteArray × Int × Int)) =>
                          bif x7.2.2.2.2.2.1 then
                            some (.inr (.inl 0))
                          else
                          (iterL (Y := (Int) ⊕ (Int × Int × (List (List (ByteArray × Int × Int × Int × List (ByteArray × Int × Int)))) × Int × Int × ByteArray × Int × (List (List (List (ByteArray × Int × Int × Int × List (ByteArray × Int × Int))))) × Int × Int)) n (fun (x9 : Int × Int × (List (List (ByteArray × Int × Int × Int × List (ByteArray × Int × Int)))) × Int × Int × Int × ByteArray × Int × (List (List (List (ByteArray × Int × Int × Int × List (ByteArray × Int × Int))))) × Int × Int × ByteArray × Int × Int × Int × List (ByteArray × Int × Int)) =>
                            let e9 := x9.2.2.2.2.2.2.2.2.2.2.2.2.2.2.2.length
                            let e10 := inB x9.2.2.2.2.2.1 e9
                            let e11 := (atI (ByteArray.mk #[], 0, 0) x9.2.2.2.2.2.2.2.2.2.2.2.2.2.2.2 x9.2.2.2.2.2.1).2
                            bif decide (x9.2.2.2.2.2.1 < ((e9 : Nat) : Int)) then
                              letJ (fun (x12 : Int × Int × (List (List (ByteArray × Int × Int × Int × List (ByteArray × Int × Int)))) × Int × Int × Int × Bool × ByteArray × Int × (List (List (List (ByteArray × Int × Int × Int × List (ByteArray × Int × Int))))) × Int × Int × ByteArray × Int × Int × Int × List (ByteArray × Int × Int)) =>
                                bif x12.2.2.2.2.2.2.1 then
                                  some (.inr (.inl 0))
                                else
                                some (.inl (x12.1, x12.2.1, x12.2.2.1, x12.2.2.2.1, x12.2.2.2.2.1, wrap64 (x12.2.2.2.2.2.1 + 1), x12.2.2.2.2.2.2.2))) fun J13 =>
                              bif e10 then
                                (ref18_time n (atI (ByteArray.mk #[], 0, 0) x9.2.2.2.2.2.2.2.2.2.2.2.2.2.2.2 x9.2.2.2.2.2.1).2.1).bind fun y10 =>
                                bif !y10 then
                                  J13 (x9.1, x9.2.1, x9.2.2.1, x9.2.2.2.1, x9.2.2.2.2.1, x9.2.2.2.2.2.1, true, x9.2.2.2.2.2.2)
                                else
                                bif e10 then
                                  (ref18_time n (atI (ByteArray.mk #[], 0, 0) x9.2.2.2.2.2.2.2.2.2.2.2.2.2.2.2 x9.2.2.2.2.2.1).2.2).bind fun y11 =>
                                  J13 (x9.1, x9.2.1, x9.2.2.1, x9.2.2.2.1, x9.2.2.2.2.1, x9.2.2.2.2.2.1, !y11, x9.2.2.2.2.2.2)
                                else
                                none
                              else
                              none
                            else
                            some (.inr (.inr (x9.1, x9.2.1, x9.2.2.1, x9.2.2.2.1, x9.2.2.2.2.1, x9.2.2.2.2.2.2.1, x9.2.2.2.2.2.2.2.1, x9.2.2.2.2.2.2.2.2.1, x9.2.2.2.2.2.2.2.2.2.1, x9.2.2.2.2.2.2.2.2.2.2.1)))) (x7.1, x7.2.1, x7.2.2.1, x7.2.2.2.1, x7.2.2.2.2.1, 0, x7.2.2.2.2.2.2)).bind (Sum.elim (fun (z14 : Int) =>
                            some (.inr (.inl z14))) (fun (z15 : Int × Int × (List (List (ByteArray × Int × Int × Int × List (ByteArray × Int × Int)))) × Int × Int × ByteArray × Int × (List (List (List (ByteArray × Int × Int × Int × List (ByteArray × Int × Int))))) × Int × Int) =>
                            some (.inl (z15.1, z15.2.1, z15.2.2.1, z15.2.2.2.1, wrap64 (z15.2.2.2.2.1 + 1), z15.2.2.2.2.2))))) fun J8 =>
                        (ref18_time n e6.2.1).bind fun y4 =>
                        bif !y4 then
                          J8 (x3.1, x3.2.1, x3.2.2.1, x3.2.2.2.1, x3.2.2.2.2.1, true, x3.2.2.2.2.2.1, x3.2.2.2.2.2.2.1, x3.2.2.2.2.2.2.2.1, x3.2.2.2.2.2.2.2.2.1, x3.2.2.2.2.2.2.2.2.2, e6)
                        else
                        (ref18_time n e6.2.2.1).bind fun y5 =>
                        bif !y5 then
                          J8 (x3.1, x3.2.1, x3.2.2.1, x3.2.2.2.1, x3.2.2.2.2.1, true, x3.2.2.2.2.2.1, x3.2.2.2.2.2.2.1, x3.2.2.2.2.2.2.2.1, x3.2.2.2.2.2.2.2.2.1, x3.2.2.2.2.2.2.2.2.2, e6)
                        else
                        (ref18_time n e6.2.2.2.1).bind fun y6 =>
                        J8 (x3.1, x3.2.1, x3.2.2.1, x3.2.2.2.1, x3.2.2.2.2.1, !y6, x3.2.2.2.2.2.1, x3.2.2.2.2.2.2.1, x3.2.2.2.2.2.2.2.1, x3.2.2.2.2.2.2.2.2.1, x3.2.2.2.2.2.2.2.2.2, e6)
                      else
                      none
                    else
                    none
                  else
                  some (.inr (.inr (x3.1, x3.2.1, x3.2.2.1, x3.2.2.2.1, x3.2.2.2.2.2)))
                else
                none) (x2.1, x2.2.1, x2.2.2.1, x2.2.2.2.1, 0, x2.2.2.2.2)).bind (Sum.elim (fun (z16 : Int) =>
                some (.inr (.inl z16))) (fun (z17 : Int × Int × (List (List (ByteArray × Int × Int × Int × List (ByteArray × Int × Int)))) × Int × ByteArray × Int × (List (List (List (ByteArray × Int × Int × Int × List (ByteArray × Int × Int))))) × Int × Int) =>
                some (.inl (z17.1, z17.2.1, z17.2.2.1, wrap64 (z17.2.2.2.1 + 1), z17.2.2.2.2))))
            else
            none
          else
          some (.inr (.inr (x2.1, x2.2.1, x2.2.2.2.2)))) (x1.1, x1.2.1, e1, 0, x1.2.2)).bind (Sum.elim (fun (z18 : Int) =>
          some (.inr (.inl z18))) (fun (z19 : Int × Int × ByteArray × Int × (List (List (List (ByteArray × Int × Int × Int × List (ByteArray × Int × Int))))) × Int × Int) =>
          bif inB z19.2.1 z19.2.2.2.2.1.length then
            (ref18_Long n (atI [] z19.2.2.2.2.1 z19.2.1)).bind fun y20 =>
            some (.inl (wrap64 (z19.1 + y20), wrap64 (z19.2.1 + 1), z19.2.2))
          else
          none))
      else
      none
    else
    some (.inr (.inr x1.1))) (0, 0, x0)).bind (Sum.elim (fun (z21 : Int) =>
    some z21) (fun (z22 : Int) =>
    some z22))
def p_ref18_Length : Plan := .two (.leaf) (.two (.leaf) (.two (.leaf) (.two (.two (.leaf) (.one (.loop ⟨slotsOf 108 [(1, .c (.box 1 0)), (3, .c (.hole (.int .i64))), (4, .c (.hole (.int .i64)))], [(1, 33, [.hole (.str), .hole (.int .i64), .hole (.sl 85), .hole (.int .i64), .hole (.int .i64)])], []⟩ [(.ret, ⟨slotsOf 108 [(2, .c (.hole (.int .i64)))], [], []⟩), (.exit 0, ⟨slotsOf 108 [(3, .c (.hole (.int .i64)))], [], []⟩)] (.two (.leaf) (.two (.one (.two (.leaf) (.two (.leaf) (.two (.two (.leaf) (.one (.loop ⟨slotsOf 108 [(1, .c (.box 1 0)), (3, .c (.hole (.int .i64))), (4, .c (.hole (.int .i64))), (5, .c (.hole (.sl 82))), (6, .c (.hole (.int .i64)))], [(1, 33, [.hole (.str), .hole (.int .i64), .hole (.sl 85), .hole (.int .i64), .hole (.int .i64)])], []⟩ [(.ret, ⟨slotsOf 108 [(2, .c (.hole (.int .i64)))], [], []⟩), (.exit 2, ⟨slotsOf 108 [(1, .c (.box 1 0)), (3, .c (.hole (.int .i64))), (4, .c (.hole (.int .i64)))], [(1, 33, [.hole (.str), .hole (.int .i64), .hole (.sl 85), .hole (.int .i64), .hole (.int .i64)])], []⟩)] (.two (.leaf) (.two (.one (.two (.leaf) (.two (.leaf) (.one (.loop ⟨slotsOf 108 [(1, .c (.box 1 0)), (3, .c (.hole (.int .i64))), (4, .c (.hole (.int .i64))), (5, .c (.hole (.sl 82))), (6, .c (.hole (.int .i64))), (7, .c (.hole (.int .i64)))], [(1, 33, [.hole (.str), .hole (.int .i64), .hole (.sl 85), .hole (.int .i64), .hole (.int .i64)])], []⟩ [(.ret, ⟨slotsOf 108 [(2, .c (.hole (.int .i64)))], [], []⟩), (.exit 4, ⟨slotsOf 108 [(1, .c (.box 1 0)), (3, .c (.hole (.int .i64))), (4, .c (.hole (.int .i64))), (5, .c (.hole (.sl 82))), (6, .c (.hole (.int .i64)))], [(1, 33, [.hole (.str), .hole (.int .i64), .hole (.sl 85), .hole (.int .i64), .hole (.int .i64)])], []⟩)] (.two (.leaf) (.two (.one (.two (.leaf) (.two (.two (.join ⟨slotsOf 108 [(1, .c (.box 1 0)), (3, .c (.hole (.int .i64))), (4, .c (.hole (.int .i64))), (5, .c (.hole (.sl 82))), (6, .c (.hole (.int .i64))), (7, .c (.hole (.int .i64))), (8, .c (.box 8 0)), (73, .c (.hole (.bool)))], [(1, 33, [.hole (.str), .hole (.int .i64), .hole (.sl 85), .hole (.int .i64), .hole (.int .i64)]), (8, 62, [.hole (.str), .hole (.int .i64), .hole (.int .i64), .hole (.int .i64), .hole (.sl 133)])], []⟩ (.leaf)) (.leaf)) (.two (.leaf) (.one (.loop ⟨slotsOf 108 [(1, .c (.box 1 0)), (3, .c (.hole (.int .i64))), (4, .c (.hole (.int .i64))), (5, .c (.hole (.sl 82))), (6, .c (.hole (.int .i64))), (7, .c (.hole (.int .i64))), (8, .c (.box 8 0)), (9, .c (.hole (.int .i64)))], [(1, 33, [.hole (.str), .hole (.int .i64), .hole (.sl 85), .hole (.int .i64), .hole (.int .i64)]), (8, 62, [.hole (.str), .hole (.int .i64), .hole (.int .i64), .hole (.int .i64), .hole (.sl 133)])], []⟩ [(.ret, ⟨slotsOf 108 [(2, .c (.hole (.int .i64)))], [], []⟩), (.exit 6, ⟨slotsOf 108 [(1, .c (.box 1 0)), (3, .c (.hole (.int .i64))), (4, .c (.hole (.int .i64))), (5, .c (.hole (.sl 82))), (6, .c (.hole (.int .i64))), (7, .c (.hole (.int .i64)))], [(1, 33, [.hole (.str), .hole (.int .i64), .hole (.sl 85), .hole (.int .i64), .hole (.int .i64)])], []⟩)] (.two (.leaf) (.two (.one (.two (.join ⟨slotsOf 108 [(1, .c (.box 1 0)), (3, .c (.hole (.int .i64))), (4, .c (.hole (.int .i64))), (5, .c (.hole (.sl 82))), (6, .c (.hole (.int .i64))), (7, .c (.hole (.int .i64))), (8, .c (.box 8 0)), (9, .c (.hole (.int .i64))), (98, .c (.hole (.bool)))], [(1, 33, [.hole (.str), .hole (.int .i64), .hole (.sl 85), .hole (.int .i64), .hole (.int .i64)]), (8, 62, [.hole (.str), .hole (.int .i64), .hole (.int .i64), .hole (.int .i64), .hole (.sl 133)])], []⟩ (.leaf)) (.leaf))) (.leaf))))))))) (.leaf)))))))) (.leaf)))))) (.leaf))))) (.leaf)))))) (.leaf))))
noncomputable def c_ref18_Length (n : Nat) : Cx := ⟨Go.Proofs.Tryz.prog, Θ, [191, 57], [(56, ⟨h_ref18_time, o_ref18_time, ref18_time n⟩), (48, ⟨h_ref18_Long, o_ref18_Long, ref18_Long n⟩)], [], []⟩
theorem d_ref18_Length (n : Nat) (x : h_ref18_Length.X T) : denF (c_ref18_Length n) n Go.Proofs.Tryz.f22 p_ref18_Length h_ref18_Length o_ref18_Length x = ref18_Length n x := by kernel_rfl
theorem s_ref18_Length (n : Nat) : PCalls Go.Proofs.Tryz.prog Θ 22 ⟨h_ref18_Length, o_ref18_Length, ref18_Length n⟩ :=
  func_ok' (C := c_ref18_Length n) (n := n) (p := p_ref18_Length) (ok_of mixed eqsOk ⟨s_ref18_time n, s_ref18_Long n, trivial⟩ trivial trivial) Go.Proofs.Tryz.func22 (by kernel_rfl) (by kernel_rfl) (d_ref18_Length n) (by kernel_rfl)

/-- carrefour/carrefourlaw18.Few -/
def h_law18_Few : Shape := ⟨slotsOf 2 [(0, .agg [.hole (.str), .hole (.sl 72), .hole (.sl 66), .hole (.sl 111), .hole (.sl 125), .hole (.sl 163), .hole (.int .i64)]), (1, .agg [.hole (.str), .hole (.int .i64), .hole (.sl 85), .hole (.int .i64), .hole (.int .i64)])], [], []⟩
def o_law18_Few : List (Ex × Shape) := [(.ret, ⟨slotsOf 1 [(0, .c (.hole (.bool)))], [], []⟩)]
def law18_Few (n : Nat) (x0 : ByteArray × (List (ByteArray × Int × Int × Int × Int × Int × Int × Int × Int × Int × Int)) × (List (ByteArray × ByteArray × Int × Int × Int × Int)) × (List (ByteArray × (List ByteArray) × Int)) × (List (List (Bool × List ByteArray))) × (List (ByteArray × ByteArray × Int)) × Int × ByteArray × Int × (List (List (List (ByteArray × Int × Int × Int × List (ByteArray × Int × Int))))) × Int × Int) : Option (Bool) :=
  (law06_Few n (0, 0, 0, 0, 0, (x0.1, x0.2.1, x0.2.2.1, x0.2.2.2.1, x0.2.2.2.2.1, x0.2.2.2.2.2.1, x0.2.2.2.2.2.2.1) :: [], [], 0, 0)).bind fun y1 =>
  bif y1 then
    (law17_Few n (0, x0.2.2.2.2.2.2.2 :: [], 0, 0, 0, 0, false, 0)).bind fun y2 =>
    bif y2 then
      (ref18_Length n x0.2.2.2.2.2.2.2).bind fun y3 =>
      some (decide (y3 ≤ 500))
    else
    some false
  else
  some false
def p_law18_Few : Plan := .leaf
noncomputable def c_law18_Few (n : Nat) : Cx := ⟨Go.Proofs.Tryz.prog, Θ, [191, 57], [(16, ⟨h_law06_Few, o_law06_Few, law06_Few n⟩), (21, ⟨h_law17_Few, o_law17_Few, law17_Few n⟩), (22, ⟨h_ref18_Length, o_ref18_Length, ref18_Length n⟩)], [], []⟩
theorem d_law18_Few (n : Nat) (x : h_law18_Few.X T) : denF (c_law18_Few n) n Go.Proofs.Tryz.f5 p_law18_Few h_law18_Few o_law18_Few x = law18_Few n x := by kernel_rfl
theorem s_law18_Few (n : Nat) : PCalls Go.Proofs.Tryz.prog Θ 5 ⟨h_law18_Few, o_law18_Few, law18_Few n⟩ :=
  func_ok' (C := c_law18_Few n) (n := n) (p := p_law18_Few) (ok_of mixed eqsOk ⟨s_law06_Few n, s_law17_Few n, s_ref18_Length n, trivial⟩ trivial trivial) Go.Proofs.Tryz.func5 (by kernel_rfl) (by kernel_rfl) (d_law18_Few n) (by kernel_rfl)

/-- carrefour/carrefourlaw18.two -/
def h_law18_two : Shape := ⟨slotsOf 0 [], [], []⟩
def o_law18_two : List (Ex × Shape) := [(.ret, ⟨slotsOf 1 [(0, .agg [.hole (.str), .hole (.sl 72), .nil, .hole (.sl 111), .hole (.sl 125), .nil, .hole (.int .i64)])], [], []⟩)]
def law18_two (n : Nat) (x0 : Unit) : Option (ByteArray × (List (ByteArray × Int × Int × Int × Int × Int × Int × Int × Int × Int × Int)) × (List (ByteArray × (List ByteArray) × Int)) × (List (List (Bool × List ByteArray))) × Int) :=
  some (ByteArray.mk #[], (ByteArray.mk #[97], 0, 0, 0, 0, 0, 0, 0, 0, 0, 0) :: ((ByteArray.mk #[98], 0, 0, 0, 0, 0, 0, 0, 0, 0, 0) :: []), (ByteArray.mk #[112], (ByteArray.mk #[97]) :: [], 0) :: ((ByteArray.mk #[113], (ByteArray.mk #[98]) :: [], 0) :: []), ((false, (ByteArray.mk #[112]) :: ((ByteArray.mk #[113]) :: [])) :: []) :: [], 0)
def p_law18_two : Plan := .leaf
noncomputable def c_law18_two (n : Nat) : Cx := ⟨Go.Proofs.Tryz.prog, Θ, [191, 57], [], [], []⟩
theorem d_law18_two (n : Nat) (x : h_law18_two.X T) : denF (c_law18_two n) n Go.Proofs.Tryz.f51 p_law18_two h_law18_two o_law18_two x = law18_two n x := by kernel_rfl
theorem s_law18_two (n : Nat) : PCalls Go.Proofs.Tryz.prog Θ 51 ⟨h_law18_two, o_law18_two, law18_two n⟩ :=
  func_ok' (C := c_law18_two n) (n := n) (p := p_law18_two) (ok_of mixed eqsOk trivial trivial trivial) Go.Proofs.Tryz.func51 (by kernel_rfl) (by kernel_rfl) (d_law18_two n) (by kernel_rfl)

/-- carrefour/times.times$1 -/
def h_times_times_1 : Shape := ⟨slotsOf 1 [(0, .c (.hole (.int .i64)))], [], []⟩
def o_times_times_1 : List (Ex × Shape) := [(.ret, ⟨slotsOf 1 [(0, .c (.hole (.bool)))], [], []⟩)]
def times_times_1 (n : Nat) (x0 : Int) : Option (Bool) :=
  bif decide (x0 < 0) then
    some true
  else
  some (decide (6000 < x0))
def p_times_times_1 : Plan := .leaf
noncomputable def c_times_times_1 (n : Nat) : Cx := ⟨Go.Proofs.Tryz.prog, Θ, [191, 57], [], [], []⟩
theorem d_times_times_1 (n : Nat) (x : h_times_times_1.X T) : denF (c_times_times_1 n) n Go.Proofs.Tryz.f117 p_times_times_1 h_times_times_1 o_times_times_1 x = times_times_1 n x := by kernel_rfl
theorem s_times_times_1 (n : Nat) : PCalls Go.Proofs.Tryz.prog Θ 117 ⟨h_times_times_1, o_times_times_1, times_times_1 n⟩ :=
  func_ok' (C := c_times_times_1 n) (n := n) (p := p_times_times_1) (ok_of mixed eqsOk trivial trivial trivial) Go.Proofs.Tryz.func117 (by kernel_rfl) (by kernel_rfl) (d_times_times_1 n) (by kernel_rfl)

/-- slices.IndexFunc[[]int64,int64] -/
def h_slices_IndexFunc_times_times_1 : Shape := ⟨slotsOf 2 [(0, .c (.hole (.sl 2))), (1, .c (.fn 117 []))], [], []⟩
def o_slices_IndexFunc_times_times_1 : List (Ex × Shape) := [(.ret, ⟨slotsOf 1 [(0, .c (.hole (.int .i64)))], [], []⟩)]
def slices_IndexFunc_times_times_1 (n : Nat) (x0 : List Int) : Option (Int) :=
  (iterL (Y := (Int) ⊕ (Unit)) n (fun (x1 : (List Int) × Int × Int) =>
    bif decide (x1.2.2 < x1.2.1) then
      bif inB x1.2.2 x1.1.length then
        (times_times_1 n (atI 0 x1.1 x1.2.2)).bind fun y2 =>
        bif y2 then
          some (.inr (.inl x1.2.2))
        else
        some (.inl (x1.1, x1.2.1, wrap64 (x1.2.2 + 1)))
      else
      none
    else
    some (.inr (.inr ()))) (x0, ((x0.length : Nat) : Int), 0)).bind (Sum.elim (fun (z3 : Int) =>
    some z3) (fun (z4 : Unit) =>
    some (-1)))
def p_slices_IndexFunc_times_times_1 : Plan := .two (.leaf) (.two (.two (.leaf) (.one (.loop ⟨slotsOf 19 [(0, .c (.hole (.sl 2))), (1, .c (.fn 117 [])), (7, .c (.hole (.int .i64))), (8, .c (.hole (.int .i64)))], [], []⟩ [(.ret, ⟨slotsOf 19 [(4, .c (.hole (.int .i64)))], [], []⟩), (.exit 0, ⟨slotsOf 19 [], [], []⟩)] (.leaf)))) (.leaf))
noncomputable def c_slices_IndexFunc_times_times_1 (n : Nat) : Cx := ⟨Go.Proofs.Tryz.prog, Θ, [191, 57], [(117, ⟨h_times_times_1, o_times_times_1, times_times_1 n⟩)], [], []⟩
theorem d_slices_IndexFunc_times_times_1 (n : Nat) (x : h_slices_IndexFunc_times_times_1.X T) : denF (c_slices_IndexFunc_times_times_1 n) n Go.Proofs.Tryz.f123 p_slices_IndexFunc_times_times_1 h_slices_IndexFunc_times_times_1 o_slices_IndexFunc_times_times_1 x = slices_IndexFunc_times_times_1 n x := by kernel_rfl
theorem s_slices_IndexFunc_times_times_1 (n : Nat) : PCalls Go.Proofs.Tryz.prog Θ 123 ⟨h_slices_IndexFunc_times_times_1, o_slices_IndexFunc_times_times_1, slices_IndexFunc_times_times_1 n⟩ :=
  func_ok' (C := c_slices_IndexFunc_times_times_1 n) (n := n) (p := p_slices_IndexFunc_times_times_1) (ok_of mixed eqsOk ⟨s_times_times_1 n, trivial⟩ trivial trivial) Go.Proofs.Tryz.func123 (by kernel_rfl) (by kernel_rfl) (d_slices_IndexFunc_times_times_1 n) (by kernel_rfl)

/-- slices.ContainsFunc[[]int64,int64] -/
def h_slices_ContainsFunc_times_times_1 : Shape := ⟨slotsOf 2 [(0, .c (.hole (.sl 2))), (1, .c (.fn 117 []))], [], []⟩
def o_slices_ContainsFunc_times_times_1 : List (Ex × Shape) := [(.ret, ⟨slotsOf 1 [(0, .c (.hole (.bool)))], [], []⟩)]
def slices_ContainsFunc_times_times_1 (n : Nat) (x0 : List Int) : Option (Bool) :=
  (slices_IndexFunc_times_times_1 n x0).bind fun y1 =>
  some (decide (0 ≤ y1))
def p_slices_ContainsFunc_times_times_1 : Plan := .leaf
noncomputable def c_slices_ContainsFunc_times_times_1 (n : Nat) : Cx := ⟨Go.Proofs.Tryz.prog, Θ, [191, 57], [(123, ⟨h_slices_IndexFunc_times_times_1, o_slices_IndexFunc_times_times_1, slices_IndexFunc_times_times_1 n⟩)], [], []⟩
theorem d_slices_ContainsFunc_times_times_1 (n : Nat) (x : h_slices_ContainsFunc_times_times_1.X T) : denF (c_slices_ContainsFunc_times_times_1 n) n Go.Proofs.Tryz.f116 p_slices_ContainsFunc_times_times_1 h_slices_ContainsFunc_times_times_1 o_slices_ContainsFunc_times_times_1 x = slices_ContainsFunc_times_times_1 n x := by kernel_rfl
theorem s_slices_ContainsFunc_times_times_1 (n : Nat) : PCalls Go.Proofs.Tryz.prog Θ 116 ⟨h_slices_ContainsFunc_times_times_1, o_slices_ContainsFunc_times_times_1, slices_ContainsFunc_times_times_1 n⟩ :=
  func_ok' (C := c_slices_ContainsFunc_times_times_1 n) (n := n) (p := p_slices_ContainsFunc_times_times_1) (ok_of mixed eqsOk ⟨s_slices_IndexFunc_times_times_1 n, trivial⟩ trivial trivial) Go.Proofs.Tryz.func116 (by kernel_rfl) (by kernel_rfl) (d_slices_ContainsFunc_times_times_1 n) (by kernel_rfl)

/-- carrefour/times.times -/
def h_times_times : Shape := ⟨slotsOf 1 [(0, .c (.hole (.sl 2)))], [], []⟩
def o_times_times : List (Ex × Shape) := [(.ret, ⟨slotsOf 1 [(0, .c (.hole (.bool)))], [], []⟩)]
def times_times (n : Nat) (x0 : List Int) : Option (Bool) :=
  (slices_ContainsFunc_times_times_1 n x0).bind fun y1 =>
  some (!y1)
def p_times_times : Plan := .leaf
noncomputable def c_times_times (n : Nat) : Cx := ⟨Go.Proofs.Tryz.prog, Θ, [191, 57], [(116, ⟨h_slices_ContainsFunc_times_times_1, o_slices_ContainsFunc_times_times_1, slices_ContainsFunc_times_times_1 n⟩)], [], []⟩
theorem d_times_times (n : Nat) (x : h_times_times.X T) : denF (c_times_times n) n Go.Proofs.Tryz.f106 p_times_times h_times_times o_times_times x = times_times n x := by kernel_rfl
theorem s_times_times (n : Nat) : PCalls Go.Proofs.Tryz.prog Θ 106 ⟨h_times_times, o_times_times, times_times n⟩ :=
  func_ok' (C := c_times_times n) (n := n) (p := p_times_times) (ok_of mixed eqsOk ⟨s_slices_ContainsFunc_times_times_1 n, trivial⟩ trivial trivial) Go.Proofs.Tryz.func106 (by kernel_rfl) (by kernel_rfl) (d_times_times n) (by kernel_rfl)

/-- carrefour/times.timed$1 -/
def h_times_timed_1 : Shape := ⟨slotsOf 1 [(0, .agg [.hole (.str), .hole (.int .i64), .hole (.int .i64)])], [], []⟩
def o_times_timed_1 : List (Ex × Shape) := [(.ret, ⟨slotsOf 1 [(0, .c (.hole (.bool)))], [], []⟩)]
def times_timed_1 (n : Nat) (x0 : ByteArray × Int × Int) : Option (Bool) :=
  (times_times n (x0.2.1 :: (x0.2.2 :: []))).bind fun y1 =>
  some (!y1)
def p_times_timed_1 : Plan := .leaf
noncomputable def c_times_timed_1 (n : Nat) : Cx := ⟨Go.Proofs.Tryz.prog, Θ, [191, 57], [(106, ⟨h_times_times, o_times_times, times_times n⟩)], [], []⟩
theorem d_times_timed_1 (n : Nat) (x : h_times_timed_1.X T) : denF (c_times_timed_1 n) n Go.Proofs.Tryz.f108 p_times_timed_1 h_times_timed_1 o_times_timed_1 x = times_timed_1 n x := by kernel_rfl
theorem s_times_timed_1 (n : Nat) : PCalls Go.Proofs.Tryz.prog Θ 108 ⟨h_times_timed_1, o_times_timed_1, times_timed_1 n⟩ :=
  func_ok' (C := c_times_timed_1 n) (n := n) (p := p_times_timed_1) (ok_of mixed eqsOk ⟨s_times_times n, trivial⟩ trivial trivial) Go.Proofs.Tryz.func108 (by kernel_rfl) (by kernel_rfl) (d_times_timed_1 n) (by kernel_rfl)

/-- slices.IndexFunc[[]carrefour/api.Walk,carrefour/api.Walk] -/
def h_slices_IndexFunc_times_timed_1 : Shape := ⟨slotsOf 2 [(0, .c (.hole (.sl 133))), (1, .c (.fn 108 []))], [], []⟩
def o_slices_IndexFunc_times_timed_1 : List (Ex × Shape) := [(.ret, ⟨slotsOf 1 [(0, .c (.hole (.int .i64)))], [], []⟩)]
def slices_IndexFunc_times_timed_1 (n : Nat) (x0 : List (ByteArray × Int × Int)) : Option (Int) :=
  (iterL (Y := (Int) ⊕ (Unit)) n (fun (x1 : (List (ByteArray × Int × Int)) × Int × Int) =>
    bif decide (x1.2.2 < x1.2.1) then
      bif inB x1.2.2 x1.1.length then
        (times_timed_1 n (atI (ByteArray.mk #[], 0, 0) x1.1 x1.2.2)).bind fun y2 =>
        bif y2 then
          some (.inr (.inl x1.2.2))
        else
        some (.inl (x1.1, x1.2.1, wrap64 (x1.2.2 + 1)))
      else
      none
    else
    some (.inr (.inr ()))) (x0, ((x0.length : Nat) : Int), 0)).bind (Sum.elim (fun (z3 : Int) =>
    some z3) (fun (z4 : Unit) =>
    some (-1)))
def p_slices_IndexFunc_times_timed_1 : Plan := .two (.leaf) (.two (.two (.leaf) (.one (.loop ⟨slotsOf 19 [(0, .c (.hole (.sl 133))), (1, .c (.fn 108 [])), (7, .c (.hole (.int .i64))), (8, .c (.hole (.int .i64)))], [], []⟩ [(.ret, ⟨slotsOf 19 [(4, .c (.hole (.int .i64)))], [], []⟩), (.exit 0, ⟨slotsOf 19 [], [], []⟩)] (.leaf)))) (.leaf))
noncomputable def c_slices_IndexFunc_times_timed_1 (n : Nat) : Cx := ⟨Go.Proofs.Tryz.prog, Θ, [191, 57], [(108, ⟨h_times_timed_1, o_times_timed_1, times_timed_1 n⟩)], [], []⟩
theorem d_slices_IndexFunc_times_timed_1 (n : Nat) (x : h_slices_IndexFunc_times_timed_1.X T) : denF (c_slices_IndexFunc_times_timed_1 n) n Go.Proofs.Tryz.f82 p_slices_IndexFunc_times_timed_1 h_slices_IndexFunc_times_timed_1 o_slices_IndexFunc_times_timed_1 x = slices_IndexFunc_times_timed_1 n x := by kernel_rfl
theorem s_slices_IndexFunc_times_timed_1 (n : Nat) : PCalls Go.Proofs.Tryz.prog Θ 82 ⟨h_slices_IndexFunc_times_timed_1, o_slices_IndexFunc_times_timed_1, slices_IndexFunc_times_timed_1 n⟩ :=
  func_ok' (C := c_slices_IndexFunc_times_timed_1 n) (n := n) (p := p_slices_IndexFunc_times_timed_1) (ok_of mixed eqsOk ⟨s_times_timed_1 n, trivial⟩ trivial trivial) Go.Proofs.Tryz.func82 (by kernel_rfl) (by kernel_rfl) (d_slices_IndexFunc_times_timed_1 n) (by kernel_rfl)

/-- slices.ContainsFunc[[]carrefour/api.Walk,carrefour/api.Walk] -/
def h_slices_ContainsFunc_times_timed_1 : Shape := ⟨slotsOf 2 [(0, .c (.hole (.sl 133))), (1, .c (.fn 108 []))], [], []⟩
def o_slices_ContainsFunc_times_timed_1 : List (Ex × Shape) := [(.ret, ⟨slotsOf 1 [(0, .c (.hole (.bool)))], [], []⟩)]
def slices_ContainsFunc_times_timed_1 (n : Nat) (x0 : List (ByteArray × Int × Int)) : Option (Bool) :=
  (slices_IndexFunc_times_timed_1 n x0).bind fun y1 =>
  some (decide (0 ≤ y1))
def p_slices_ContainsFunc_times_timed_1 : Plan := .leaf
noncomputable def c_slices_ContainsFunc_times_timed_1 (n : Nat) : Cx := ⟨Go.Proofs.Tryz.prog, Θ, [191, 57], [(82, ⟨h_slices_IndexFunc_times_timed_1, o_slices_IndexFunc_times_timed_1, slices_IndexFunc_times_timed_1 n⟩)], [], []⟩
theorem d_slices_ContainsFunc_times_timed_1 (n : Nat) (x : h_slices_ContainsFunc_times_timed_1.X T) : denF (c_slices_ContainsFunc_times_timed_1 n) n Go.Proofs.Tryz.f107 p_slices_ContainsFunc_times_timed_1 h_slices_ContainsFunc_times_timed_1 o_slices_ContainsFunc_times_timed_1 x = slices_ContainsFunc_times_timed_1 n x := by kernel_rfl
theorem s_slices_ContainsFunc_times_timed_1 (n : Nat) : PCalls Go.Proofs.Tryz.prog Θ 107 ⟨h_slices_ContainsFunc_times_timed_1, o_slices_ContainsFunc_times_timed_1, slices_ContainsFunc_times_timed_1 n⟩ :=
  func_ok' (C := c_slices_ContainsFunc_times_timed_1 n) (n := n) (p := p_slices_ContainsFunc_times_timed_1) (ok_of mixed eqsOk ⟨s_slices_IndexFunc_times_timed_1 n, trivial⟩ trivial trivial) Go.Proofs.Tryz.func107 (by kernel_rfl) (by kernel_rfl) (d_slices_ContainsFunc_times_timed_1 n) (by kernel_rfl)

/-- carrefour/times.timed -/
def h_times_timed : Shape := ⟨slotsOf 1 [(0, .agg [.hole (.str), .hole (.int .i64), .hole (.int .i64), .hole (.int .i64), .hole (.sl 133)])], [], []⟩
def o_times_timed : List (Ex × Shape) := [(.ret, ⟨slotsOf 1 [(0, .c (.hole (.bool)))], [], []⟩)]
def times_timed (n : Nat) (x0 : ByteArray × Int × Int × Int × List (ByteArray × Int × Int)) : Option (Bool) :=
  (times_times n (x0.2.1 :: (x0.2.2.1 :: (x0.2.2.2.1 :: [])))).bind fun y1 =>
  bif y1 then
    (slices_ContainsFunc_times_timed_1 n x0.2.2.2.2).bind fun y2 =>
    some (!y2)
  else
  some false
def p_times_timed : Plan := .leaf
noncomputable def c_times_timed (n : Nat) : Cx := ⟨Go.Proofs.Tryz.prog, Θ, [191, 57], [(106, ⟨h_times_times, o_times_times, times_times n⟩), (107, ⟨h_slices_ContainsFunc_times_timed_1, o_slices_ContainsFunc_times_timed_1, slices_ContainsFunc_times_timed_1 n⟩)], [], []⟩
theorem d_times_timed (n : Nat) (x : h_times_timed.X T) : denF (c_times_timed n) n Go.Proofs.Tryz.f88 p_times_timed h_times_timed o_times_timed x = times_timed n x := by kernel_rfl
theorem s_times_timed (n : Nat) : PCalls Go.Proofs.Tryz.prog Θ 88 ⟨h_times_timed, o_times_timed, times_timed n⟩ :=
  func_ok' (C := c_times_timed n) (n := n) (p := p_times_timed) (ok_of mixed eqsOk ⟨s_times_times n, s_slices_ContainsFunc_times_timed_1 n, trivial⟩ trivial trivial) Go.Proofs.Tryz.func88 (by kernel_rfl) (by kernel_rfl) (d_times_timed n) (by kernel_rfl)

/-- carrefour/times.sound$1 -/
def h_times_sound_1 : Shape := ⟨slotsOf 1 [(0, .agg [.hole (.str), .hole (.int .i64), .hole (.int .i64), .hole (.int .i64), .hole (.sl 133)])], [], []⟩
def o_times_sound_1 : List (Ex × Shape) := [(.ret, ⟨slotsOf 1 [(0, .c (.hole (.bool)))], [], []⟩)]
def times_sound_1 (n : Nat) (x0 : ByteArray × Int × Int × Int × List (ByteArray × Int × Int)) : Option (Bool) :=
  (times_timed n x0).bind fun y1 =>
  some (!y1)
def p_times_sound_1 : Plan := .leaf
noncomputable def c_times_sound_1 (n : Nat) : Cx := ⟨Go.Proofs.Tryz.prog, Θ, [191, 57], [(88, ⟨h_times_timed, o_times_timed, times_timed n⟩)], [], []⟩
theorem d_times_sound_1 (n : Nat) (x : h_times_sound_1.X T) : denF (c_times_sound_1 n) n Go.Proofs.Tryz.f87 p_times_sound_1 h_times_sound_1 o_times_sound_1 x = times_sound_1 n x := by kernel_rfl
theorem s_times_sound_1 (n : Nat) : PCalls Go.Proofs.Tryz.prog Θ 87 ⟨h_times_sound_1, o_times_sound_1, times_sound_1 n⟩ :=
  func_ok' (C := c_times_sound_1 n) (n := n) (p := p_times_sound_1) (ok_of mixed eqsOk ⟨s_times_timed n, trivial⟩ trivial trivial) Go.Proofs.Tryz.func87 (by kernel_rfl) (by kernel_rfl) (d_times_sound_1 n) (by kernel_rfl)

/-- slices.IndexFunc[[]carrefour/api.Slot,carrefour/api.Slot] -/
def h_slices_IndexFunc_times_sound_1 : Shape := ⟨slotsOf 2 [(0, .c (.hole (.sl 62))), (1, .c (.fn 87 []))], [], []⟩
def o_slices_IndexFunc_times_sound_1 : List (Ex × Shape) := [(.ret, ⟨slotsOf 1 [(0, .c (.hole (.int .i64)))], [], []⟩)]
def slices_IndexFunc_times_sound_1 (n : Nat) (x0 : List (ByteArray × Int × Int × Int × List (ByteArray × Int × Int))) : Option (Int) :=
  (iterL (Y := (Int) ⊕ (Unit)) n (fun (x1 : (List (ByteArray × Int × Int × Int × List (ByteArray × Int × Int))) × Int × Int) =>
    bif decide (x1.2.2 < x1.2.1) then
      bif inB x1.2.2 x1.1.length then
        (times_sound_1 n (atI (ByteArray.mk #[], 0, 0, 0, []) x1.1 x1.2.2)).bind fun y2 =>
        bif y2 then
          some (.inr (.inl x1.2.2))
        else
        some (.inl (x1.1, x1.2.1, wrap64 (x1.2.2 + 1)))
      else
      none
    else
    some (.inr (.inr ()))) (x0, ((x0.length : Nat) : Int), 0)).bind (Sum.elim (fun (z3 : Int) =>
    some z3) (fun (z4 : Unit) =>
    some (-1)))
def p_slices_IndexFunc_times_sound_1 : Plan := .two (.leaf) (.two (.two (.leaf) (.one (.loop ⟨slotsOf 19 [(0, .c (.hole (.sl 62))), (1, .c (.fn 87 [])), (7, .c (.hole (.int .i64))), (8, .c (.hole (.int .i64)))], [], []⟩ [(.ret, ⟨slotsOf 19 [(4, .c (.hole (.int .i64)))], [], []⟩), (.exit 0, ⟨slotsOf 19 [], [], []⟩)] (.leaf)))) (.leaf))
noncomputable def c_slices_IndexFunc_times_sound_1 (n : Nat) : Cx := ⟨Go.Proofs.Tryz.prog, Θ, [191, 57], [(87, ⟨h_times_sound_1, o_times_sound_1, times_sound_1 n⟩)], [], []⟩
theorem d_slices_IndexFunc_times_sound_1 (n : Nat) (x : h_slices_IndexFunc_times_sound_1.X T) : denF (c_slices_IndexFunc_times_sound_1 n) n Go.Proofs.Tryz.f105 p_slices_IndexFunc_times_sound_1 h_slices_IndexFunc_times_sound_1 o_slices_IndexFunc_times_sound_1 x = slices_IndexFunc_times_sound_1 n x := by kernel_rfl
theorem s_slices_IndexFunc_times_sound_1 (n : Nat) : PCalls Go.Proofs.Tryz.prog Θ 105 ⟨h_slices_IndexFunc_times_sound_1, o_slices_IndexFunc_times_sound_1, slices_IndexFunc_times_sound_1 n⟩ :=
  func_ok' (C := c_slices_IndexFunc_times_sound_1 n) (n := n) (p := p_slices_IndexFunc_times_sound_1) (ok_of mixed eqsOk ⟨s_times_sound_1 n, trivial⟩ trivial trivial) Go.Proofs.Tryz.func105 (by kernel_rfl) (by kernel_rfl) (d_slices_IndexFunc_times_sound_1 n) (by kernel_rfl)

/-- slices.ContainsFunc[[]carrefour/api.Slot,carrefour/api.Slot] -/
def h_slices_ContainsFunc_times_sound_1 : Shape := ⟨slotsOf 2 [(0, .c (.hole (.sl 62))), (1, .c (.fn 87 []))], [], []⟩
def o_slices_ContainsFunc_times_sound_1 : List (Ex × Shape) := [(.ret, ⟨slotsOf 1 [(0, .c (.hole (.bool)))], [], []⟩)]
def slices_ContainsFunc_times_sound_1 (n : Nat) (x0 : List (ByteArray × Int × Int × Int × List (ByteArray × Int × Int))) : Option (Bool) :=
  (slices_IndexFunc_times_sound_1 n x0).bind fun y1 =>
  some (decide (0 ≤ y1))
def p_slices_ContainsFunc_times_sound_1 : Plan := .leaf
noncomputable def c_slices_ContainsFunc_times_sound_1 (n : Nat) : Cx := ⟨Go.Proofs.Tryz.prog, Θ, [191, 57], [(105, ⟨h_slices_IndexFunc_times_sound_1, o_slices_IndexFunc_times_sound_1, slices_IndexFunc_times_sound_1 n⟩)], [], []⟩
theorem d_slices_ContainsFunc_times_sound_1 (n : Nat) (x : h_slices_ContainsFunc_times_sound_1.X T) : denF (c_slices_ContainsFunc_times_sound_1 n) n Go.Proofs.Tryz.f86 p_slices_ContainsFunc_times_sound_1 h_slices_ContainsFunc_times_sound_1 o_slices_ContainsFunc_times_sound_1 x = slices_ContainsFunc_times_sound_1 n x := by kernel_rfl
theorem s_slices_ContainsFunc_times_sound_1 (n : Nat) : PCalls Go.Proofs.Tryz.prog Θ 86 ⟨h_slices_ContainsFunc_times_sound_1, o_slices_ContainsFunc_times_sound_1, slices_ContainsFunc_times_sound_1 n⟩ :=
  func_ok' (C := c_slices_ContainsFunc_times_sound_1 n) (n := n) (p := p_slices_ContainsFunc_times_sound_1) (ok_of mixed eqsOk ⟨s_slices_IndexFunc_times_sound_1 n, trivial⟩ trivial trivial) Go.Proofs.Tryz.func86 (by kernel_rfl) (by kernel_rfl) (d_slices_ContainsFunc_times_sound_1 n) (by kernel_rfl)

/-- carrefour/times.sound -/
def h_times_sound : Shape := ⟨slotsOf 1 [(0, .agg [.hole (.str), .hole (.int .i64), .hole (.sl 85), .hole (.int .i64), .hole (.int .i64)])], [], []⟩
def o_times_sound : List (Ex × Shape) := [(.ret, ⟨slotsOf 1 [(0, .c (.hole (.bool)))], [], []⟩)]
def times_sound (n : Nat) (x0 : ByteArray × Int × (List (List (List (ByteArray × Int × Int × Int × List (ByteArray × Int × Int))))) × Int × Int) : Option (Bool) :=
  let e0 := ((x0.2.2.1.length : Nat) : Int)
  bif decide (4 < e0) then
    some false
  else
  (iterL (Y := (Bool) ⊕ (Unit)) n (fun (x1 : (List (List (List (ByteArray × Int × Int × Int × List (ByteArray × Int × Int))))) × Int × Int) =>
    let e1 := atI [] x1.1 x1.2.2
    let e2 := ((e1.length : Nat) : Int)
    bif decide (x1.2.2 < x1.2.1) then
      bif inB x1.2.2 x1.1.length then
        bif decide (2 < e2) then
          some (.inr (.inl false))
        else
        (iterL (Y := (Bool) ⊕ ((List (List (List (ByteArray × Int × Int × Int × List (ByteArray × Int × Int))))) × Int × Int)) n (fun (x2 : (List (List (List (ByteArray × Int × Int × Int × List (ByteArray × Int × Int))))) × Int × Int × (List (List (ByteArray × Int × Int × Int × List (ByteArray × Int × Int)))) × Int × Int) =>
          let e3 := atI [] x2.2.2.2.1 x2.2.2.2.2.2
          bif decide (x2.2.2.2.2.2 < x2.2.2.2.2.1) then
            bif inB x2.2.2.2.2.2 x2.2.2.2.1.length then
              letJ (fun (x4 : (List (List (List (ByteArray × Int × Int × Int × List (ByteArray × Int × Int))))) × Int × Int × (List (List (ByteArray × Int × Int × Int × List (ByteArray × Int × Int)))) × Int × Int × Bool) =>
                bif x4.2.2.2.2.2.2 then
                  some (.inr (.inl false))
                else
                some (.inl (x4.1, x4.2.1, x4.2.2.1, x4.2.2.2.1, x4.2.2.2.2.1, wrap64 (x4.2.2.2.2.2.1 + 1)))) fun J5 =>
              bif decide (4 < ((e3.length : Nat) : Int)) then
                J5 (x2.1, x2.2.1, x2.2.2.1, x2.2.2.2.1, x2.2.2.2.2.1, x2.2.2.2.2.2, true)
              else
              (slices_ContainsFunc_times_sound_1 n e3).bind fun y3 =>
              J5 (x2.1, x2.2.1, x2.2.2.1, x2.2.2.2.1, x2.2.2.2.2.1, x2.2.2.2.2.2, y3)
            else
            none
          else
          some (.inr (.inr (x2.1, x2.2.1, x2.2.2.1)))) (x1.1, x1.2.1, x1.2.2, e1, e2, 0)).bind (Sum.elim (fun (z6 : Bool) =>
          some (.inr (.inl z6))) (fun (z7 : (List (List (List (ByteArray × Int × Int × Int × List (ByteArray × Int × Int))))) × Int × Int) =>
          some (.inl (z7.1, z7.2.1, wrap64 (z7.2.2 + 1)))))
      else
      none
    else
    some (.inr (.inr ()))) (x0.2.2.1, e0, 0)).bind (Sum.elim (fun (z8 : Bool) =>
    some z8) (fun (z9 : Unit) =>
    some true))
def p_times_sound : Plan := .two (.leaf) (.two (.leaf) (.two (.two (.leaf) (.one (.loop ⟨slotsOf 38 [(12, .c (.hole (.sl 85))), (13, .c (.hole (.int .i64))), (14, .c (.hole (.int .i64)))], [], []⟩ [(.ret, ⟨slotsOf 38 [(2, .c (.hole (.bool)))], [], []⟩), (.exit 0, ⟨slotsOf 38 [], [], []⟩)] (.two (.leaf) (.two (.leaf) (.two (.one (.two (.leaf) (.two (.leaf) (.two (.leaf) (.one (.loop ⟨slotsOf 38 [(12, .c (.hole (.sl 85))), (13, .c (.hole (.int .i64))), (14, .c (.hole (.int .i64))), (23, .c (.hole (.sl 82))), (24, .c (.hole (.int .i64))), (25, .c (.hole (.int .i64)))], [], []⟩ [(.ret, ⟨slotsOf 38 [(2, .c (.hole (.bool)))], [], []⟩), (.exit 2, ⟨slotsOf 38 [(12, .c (.hole (.sl 85))), (13, .c (.hole (.int .i64))), (14, .c (.hole (.int .i64)))], [], []⟩)] (.two (.leaf) (.two (.leaf) (.two (.one (.two (.leaf) (.two (.join ⟨slotsOf 38 [(12, .c (.hole (.sl 85))), (13, .c (.hole (.int .i64))), (14, .c (.hole (.int .i64))), (23, .c (.hole (.sl 82))), (24, .c (.hole (.int .i64))), (25, .c (.hole (.int .i64))), (35, .c (.hole (.bool)))], [], []⟩ (.leaf)) (.leaf)))) (.leaf)))))))))) (.leaf))))))) (.leaf)))
noncomputable def c_times_sound (n : Nat) : Cx := ⟨Go.Proofs.Tryz.prog, Θ, [191, 57], [(86, ⟨h_slices_ContainsFunc_times_sound_1, o_slices_ContainsFunc_times_sound_1, slices_ContainsFunc_times_sound_1 n⟩)], [], []⟩
theorem d_times_sound (n : Nat) (x : h_times_sound.X T) : denF (c_times_sound n) n Go.Proofs.Tryz.f45 p_times_sound h_times_sound o_times_sound x = times_sound n x := by kernel_rfl
theorem s_times_sound (n : Nat) : PCalls Go.Proofs.Tryz.prog Θ 45 ⟨h_times_sound, o_times_sound, times_sound n⟩ :=
  func_ok' (C := c_times_sound n) (n := n) (p := p_times_sound) (ok_of mixed eqsOk ⟨s_slices_ContainsFunc_times_sound_1 n, trivial⟩ trivial trivial) Go.Proofs.Tryz.func45 (by kernel_rfl) (by kernel_rfl) (d_times_sound n) (by kernel_rfl)

/-- slices.Clone[[]string,string] -/
def h_slices_Clone_string : Shape := ⟨slotsOf 1 [(0, .c (.hole (.sl 9)))], [], []⟩
def o_slices_Clone_string : List (Ex × Shape) := [(.ret, ⟨slotsOf 1 [(0, .c (.row 0))], [], [(0, 9)]⟩)]
noncomputable def slices_Clone_string (n : Nat) (x0 : List ByteArray) : Option (List ByteArray) :=
  let e0 := fitB x0.length 16
  bif List.isEmpty x0 then
    both (
      some []) (
      bif e0 then
        some x0
      else
      none)
  else
    bif e0 then
      some x0
    else
    none
def p_slices_Clone_string : Plan := .leaf
noncomputable def c_slices_Clone_string (n : Nat) : Cx := ⟨Go.Proofs.Tryz.prog, Θ, [191, 57], [], [], []⟩
theorem d_slices_Clone_string (n : Nat) (x : h_slices_Clone_string.X T) : denF (c_slices_Clone_string n) n Go.Proofs.Tryz.f70 p_slices_Clone_string h_slices_Clone_string o_slices_Clone_string x = slices_Clone_string n x := by kernel_rfl
theorem s_slices_Clone_string (n : Nat) : PCalls Go.Proofs.Tryz.prog Θ 70 ⟨h_slices_Clone_string, o_slices_Clone_string, slices_Clone_string n⟩ :=
  func_ok' (C := c_slices_Clone_string n) (n := n) (p := p_slices_Clone_string) (ok_of mixed eqsOk trivial trivial trivial) Go.Proofs.Tryz.func70 (by kernel_rfl) (by kernel_rfl) (d_slices_Clone_string n) (by kernel_rfl)

/-- slices.Index[[]string,string] -/
def h_slices_Index_string : Shape := ⟨slotsOf 2 [(0, .c (.hole (.sl 9))), (1, .c (.hole (.str)))], [], []⟩
def o_slices_Index_string : List (Ex × Shape) := [(.ret, ⟨slotsOf 1 [(0, .c (.hole (.int .i64)))], [], []⟩)]
def slices_Index_string (n : Nat) (x0 : (List ByteArray) × ByteArray) : Option (Int) :=
  (iterL (Y := (Int) ⊕ (Unit)) n (fun (x1 : (List ByteArray) × ByteArray × Int × Int) =>
    bif decide (x1.2.2.2 < x1.2.2.1) then
      bif inB x1.2.2.2 x1.1.length then
        bif strEq x1.2.1 (atI (ByteArray.mk #[]) x1.1 x1.2.2.2) then
          some (.inr (.inl x1.2.2.2))
        else
        some (.inl (x1.1, x1.2.1, x1.2.2.1, wrap64 (x1.2.2.2 + 1)))
      else
      none
    else
    some (.inr (.inr ()))) (x0.1, x0.2, ((x0.1.length : Nat) : Int), 0)).bind (Sum.elim (fun (z2 : Int) =>
    some z2) (fun (z3 : Unit) =>
    some (-1)))
def p_slices_Index_string : Plan := .two (.leaf) (.two (.two (.leaf) (.one (.loop ⟨slotsOf 19 [(0, .c (.hole (.sl 9))), (1, .c (.hole (.str))), (7, .c (.hole (.int .i64))), (8, .c (.hole (.int .i64)))], [], []⟩ [(.ret, ⟨slotsOf 19 [(4, .c (.hole (.int .i64)))], [], []⟩), (.exit 0, ⟨slotsOf 19 [], [], []⟩)] (.leaf)))) (.leaf))
noncomputable def c_slices_Index_string (n : Nat) : Cx := ⟨Go.Proofs.Tryz.prog, Θ, [191, 57], [], [], []⟩
theorem d_slices_Index_string (n : Nat) (x : h_slices_Index_string.X T) : denF (c_slices_Index_string n) n Go.Proofs.Tryz.f99 p_slices_Index_string h_slices_Index_string o_slices_Index_string x = slices_Index_string n x := by kernel_rfl
theorem s_slices_Index_string (n : Nat) : PCalls Go.Proofs.Tryz.prog Θ 99 ⟨h_slices_Index_string, o_slices_Index_string, slices_Index_string n⟩ :=
  func_ok' (C := c_slices_Index_string n) (n := n) (p := p_slices_Index_string) (ok_of mixed eqsOk trivial trivial trivial) Go.Proofs.Tryz.func99 (by kernel_rfl) (by kernel_rfl) (d_slices_Index_string n) (by kernel_rfl)

/-- carrefour/times.walks$1 -/
def h_times_walks_1 : Shape := ⟨slotsOf 2 [(0, .c (.hole (.str))), (1, .agg [.hole (.str), .hole (.int .i64), .hole (.int .i64)])], [], []⟩
def o_times_walks_1 : List (Ex × Shape) := [(.ret, ⟨slotsOf 1 [(0, .c (.hole (.bool)))], [], []⟩)]
def times_walks_1 (n : Nat) (x0 : ByteArray × ByteArray × Int × Int) : Option (Bool) :=
  some (strEq x0.1 x0.2.1)
def p_times_walks_1 : Plan := .leaf
noncomputable def c_times_walks_1 (n : Nat) : Cx := ⟨Go.Proofs.Tryz.prog, Θ, [191, 57], [], [], []⟩
theorem d_times_walks_1 (n : Nat) (x : h_times_walks_1.X T) : denF (c_times_walks_1 n) n Go.Proofs.Tryz.f113 p_times_walks_1 h_times_walks_1 o_times_walks_1 x = times_walks_1 n x := by kernel_rfl
theorem s_times_walks_1 (n : Nat) : PCalls Go.Proofs.Tryz.prog Θ 113 ⟨h_times_walks_1, o_times_walks_1, times_walks_1 n⟩ :=
  func_ok' (C := c_times_walks_1 n) (n := n) (p := p_times_walks_1) (ok_of mixed eqsOk trivial trivial trivial) Go.Proofs.Tryz.func113 (by kernel_rfl) (by kernel_rfl) (d_times_walks_1 n) (by kernel_rfl)

/-- slices.EqualFunc[[]string,[]carrefour/api.Walk,string,carrefour/api.Walk] -/
def h_slices_EqualFunc_times_walks_1 : Shape := ⟨slotsOf 3 [(0, .c (.hole (.sl 9))), (1, .c (.hole (.sl 133))), (2, .c (.fn 113 []))], [], []⟩
def o_slices_EqualFunc_times_walks_1 : List (Ex × Shape) := [(.ret, ⟨slotsOf 1 [(0, .c (.hole (.bool)))], [], []⟩)]
def slices_EqualFunc_times_walks_1 (n : Nat) (x0 : (List ByteArray) × List (ByteArray × Int × Int)) : Option (Bool) :=
  let e0 := ((x0.1.length : Nat) : Int)
  bif !(e0 == ((x0.2.length : Nat) : Int)) then
    some false
  else
  (iterL (Y := (Bool) ⊕ (Unit)) n (fun (x1 : (List (ByteArray × Int × Int)) × (List ByteArray) × Int × Int) =>
    bif decide (x1.2.2.2 < x1.2.2.1) then
      bif inB x1.2.2.2 x1.2.1.length then
        bif inB x1.2.2.2 x1.1.length then
          (times_walks_1 n (atI (ByteArray.mk #[]) x1.2.1 x1.2.2.2, atI (ByteArray.mk #[], 0, 0) x1.1 x1.2.2.2)).bind fun y2 =>
          bif !y2 then
            some (.inr (.inl false))
          else
          some (.inl (x1.1, x1.2.1, x1.2.2.1, wrap64 (x1.2.2.2 + 1)))
        else
        none
      else
      none
    else
    some (.inr (.inr ()))) (x0.2, x0.1, e0, 0)).bind (Sum.elim (fun (z3 : Bool) =>
    some z3) (fun (z4 : Unit) =>
    some true))
def p_slices_EqualFunc_times_walks_1 : Plan := .two (.leaf) (.two (.leaf) (.two (.two (.leaf) (.one (.loop ⟨slotsOf 32 [(1, .c (.hole (.sl 133))), (2, .c (.fn 113 [])), (15, .c (.hole (.sl 9))), (16, .c (.hole (.int .i64))), (17, .c (.hole (.int .i64)))], [], []⟩ [(.ret, ⟨slotsOf 32 [(6, .c (.hole (.bool)))], [], []⟩), (.exit 0, ⟨slotsOf 32 [], [], []⟩)] (.leaf)))) (.leaf)))
noncomputable def c_slices_EqualFunc_times_walks_1 (n : Nat) : Cx := ⟨Go.Proofs.Tryz.prog, Θ, [191, 57], [(113, ⟨h_times_walks_1, o_times_walks_1, times_walks_1 n⟩)], [], []⟩
theorem d_slices_EqualFunc_times_walks_1 (n : Nat) (x : h_slices_EqualFunc_times_walks_1.X T) : denF (c_slices_EqualFunc_times_walks_1 n) n Go.Proofs.Tryz.f112 p_slices_EqualFunc_times_walks_1 h_slices_EqualFunc_times_walks_1 o_slices_EqualFunc_times_walks_1 x = slices_EqualFunc_times_walks_1 n x := by kernel_rfl
theorem s_slices_EqualFunc_times_walks_1 (n : Nat) : PCalls Go.Proofs.Tryz.prog Θ 112 ⟨h_slices_EqualFunc_times_walks_1, o_slices_EqualFunc_times_walks_1, slices_EqualFunc_times_walks_1 n⟩ :=
  func_ok' (C := c_slices_EqualFunc_times_walks_1 n) (n := n) (p := p_slices_EqualFunc_times_walks_1) (ok_of mixed eqsOk ⟨s_times_walks_1 n, trivial⟩ trivial trivial) Go.Proofs.Tryz.func112 (by kernel_rfl) (by kernel_rfl) (d_slices_EqualFunc_times_walks_1 n) (by kernel_rfl)

/-- carrefour/times.walks -/
def h_times_walks : Shape := ⟨slotsOf 2 [(0, .agg [.hole (.str), .hole (.sl 72), .hole (.sl 66), .hole (.sl 111), .hole (.sl 125), .hole (.sl 163), .hole (.int .i64)]), (1, .agg [.hole (.str), .hole (.int .i64), .hole (.int .i64), .hole (.int .i64), .hole (.sl 133)])], [], []⟩
def o_times_walks : List (Ex × Shape) := [(.ret, ⟨slotsOf 1 [(0, .c (.hole (.bool)))], [], []⟩)]
def times_walks (n : Nat) (x0 : ByteArray × (List (ByteArray × Int × Int × Int × Int × Int × Int × Int × Int × Int × Int)) × (List (ByteArray × ByteArray × Int × Int × Int × Int)) × (List (ByteArray × (List ByteArray) × Int)) × (List (List (Bool × List ByteArray))) × (List (ByteArray × ByteArray × Int)) × Int × ByteArray × Int × Int × Int × List (ByteArray × Int × Int)) : Option (Bool) :=
  (iterL (Y := (ByteArray × Int × Int × Int × (List (ByteArray × Int × Int)) × List ByteArray)) n (fun (x2 : (List (ByteArray × ByteArray × Int × Int × Int × Int)) × Int × Int × ByteArray × Int × Int × Int × (List (ByteArray × Int × Int)) × List ByteArray) =>
    let e0 := atI (ByteArray.mk #[], ByteArray.mk #[], 0, 0, 0, 0) x2.1 x2.2.2.1
    let e1 := e0.1 :: []
    let e2 := wrap64 (x2.2.2.1 + 1)
    bif decide (x2.2.2.1 < x2.2.1) then
      bif inB x2.2.2.1 x2.1.length then
        bif strEq e0.2.1 x2.2.2.2.1 then
          bif fitB (x2.2.2.2.2.2.2.2.2.length + e1.length) 16 then
            some (.inl (x2.1, x2.2.1, e2, x2.2.2.2.1, x2.2.2.2.2.1, x2.2.2.2.2.2.1, x2.2.2.2.2.2.2.1, x2.2.2.2.2.2.2.2.1, x2.2.2.2.2.2.2.2.2 ++ e1))
          else
          none
        else
        some (.inl (x2.1, x2.2.1, e2, x2.2.2.2))
      else
      none
    else
    some (.inr x2.2.2.2)) (x0.2.2.1, ((x0.2.2.1.length : Nat) : Int), 0, x0.2.2.2.2.2.2.2.1, x0.2.2.2.2.2.2.2.2.1, x0.2.2.2.2.2.2.2.2.2.1, x0.2.2.2.2.2.2.2.2.2.2.1, x0.2.2.2.2.2.2.2.2.2.2.2, [])).bind fun (z3 : ByteArray × Int × Int × Int × (List (ByteArray × Int × Int)) × List ByteArray) =>
    (slices_EqualFunc_times_walks_1 n (z3.2.2.2.2.2, z3.2.2.2.2.1)).bind fun y4 =>
    some y4
def p_times_walks : Plan := .two (.leaf) (.two (.leaf) (.two (.two (.leaf) (.one (.loop ⟨slotsOf 30 [(3, .c (.box 3 0)), (5, .c (.row 24)), (9, .c (.hole (.sl 66))), (10, .c (.hole (.int .i64))), (11, .c (.hole (.int .i64)))], [(3, 62, [.hole (.str), .hole (.int .i64), .hole (.int .i64), .hole (.int .i64), .hole (.sl 133)])], [(24, 9)]⟩ [(.exit 0, ⟨slotsOf 30 [(3, .c (.box 3 0)), (5, .c (.row 24))], [(3, 62, [.hole (.str), .hole (.int .i64), .hole (.int .i64), .hole (.int .i64), .hole (.sl 133)])], [(24, 9)]⟩)] (.leaf)))) (.leaf)))
noncomputable def c_times_walks (n : Nat) : Cx := ⟨Go.Proofs.Tryz.prog, Θ, [191, 57], [(112, ⟨h_slices_EqualFunc_times_walks_1, o_slices_EqualFunc_times_walks_1, slices_EqualFunc_times_walks_1 n⟩)], [], []⟩
theorem d_times_walks (n : Nat) (x : h_times_walks.X T) : denF (c_times_walks n) n Go.Proofs.Tryz.f100 p_times_walks h_times_walks o_times_walks x = times_walks n x := by kernel_rfl
theorem s_times_walks (n : Nat) : PCalls Go.Proofs.Tryz.prog Θ 100 ⟨h_times_walks, o_times_walks, times_walks n⟩ :=
  func_ok' (C := c_times_walks n) (n := n) (p := p_times_walks) (ok_of mixed eqsOk ⟨s_slices_EqualFunc_times_walks_1 n, trivial⟩ trivial trivial) Go.Proofs.Tryz.func100 (by kernel_rfl) (by kernel_rfl) (d_times_walks n) (by kernel_rfl)

/-- carrefour/times.ring -/
def h_times_ring : Shape := ⟨slotsOf 3 [(0, .agg [.hole (.str), .hole (.sl 72), .hole (.sl 66), .hole (.sl 111), .hole (.sl 125), .hole (.sl 163), .hole (.int .i64)]), (1, .agg [.hole (.bool), .hole (.sl 9)]), (2, .c (.hole (.sl 62)))], [], []⟩
def o_times_ring : List (Ex × Shape) := [(.ret, ⟨slotsOf 1 [(0, .c (.hole (.bool)))], [], []⟩)]
noncomputable def times_ring (n : Nat) (x0 : ByteArray × (List (ByteArray × Int × Int × Int × Int × Int × Int × Int × Int × Int × Int)) × (List (ByteArray × ByteArray × Int × Int × Int × Int)) × (List (ByteArray × (List ByteArray) × Int)) × (List (List (Bool × List ByteArray))) × (List (ByteArray × ByteArray × Int)) × Int × Bool × (List ByteArray) × List (ByteArray × Int × Int × Int × List (ByteArray × Int × Int))) : Option (Bool) :=
  (slices_Clone_string n x0.2.2.2.2.2.2.2.2.1).bind fun y1 =>
  (iterL (Y := (Bool) ⊕ ((List (ByteArray × Int × Int × Int × List (ByteArray × Int × Int))) × Bool × List ByteArray)) n (fun (x2 : (List (ByteArray × Int × Int × Int × List (ByteArray × Int × Int))) × (List (ByteArray × Int × Int × Int × List (ByteArray × Int × Int))) × Int × Int × ByteArray × (List (ByteArray × Int × Int × Int × Int × Int × Int × Int × Int × Int × Int)) × (List (ByteArray × ByteArray × Int × Int × Int × Int)) × (List (ByteArray × (List ByteArray) × Int)) × (List (List (Bool × List ByteArray))) × (List (ByteArray × ByteArray × Int)) × Int × Bool × (List ByteArray) × List ByteArray) =>
    let e0 := atI (ByteArray.mk #[], 0, 0, 0, []) x2.2.1 x2.2.2.2.1
    let e1 := e0.1
    let e2 := e0.2
    let e3 := e0.2.1
    let e4 := e0.2.2
    let e5 := e0.2.2.1
    let e6 := e0.2.2.2
    let e7 := e0.2.2.2.1
    bif decide (x2.2.2.2.1 < x2.2.2.1) then
      bif inB x2.2.2.2.1 x2.2.1.length then
        (slices_Index_string n (x2.2.2.2.2.2.2.2.2.2.2.2.2.2, e1)).bind fun y3 =>
        letJ (fun (x5 : (List (ByteArray × Int × Int × Int × List (ByteArray × Int × Int))) × (List (ByteArray × Int × Int × Int × List (ByteArray × Int × Int))) × Int × Int × Bool × ByteArray × (List (ByteArray × Int × Int × Int × Int × Int × Int × Int × Int × Int × Int)) × (List (ByteArray × ByteArray × Int × Int × Int × Int)) × (List (ByteArray × (List ByteArray) × Int)) × (List (List (Bool × List ByteArray))) × (List (ByteArray × ByteArray × Int)) × Int × Bool × (List ByteArray) × ByteArray × Int × Int × Int × (List (ByteArray × Int × Int)) × List ByteArray) =>
          bif x5.2.2.2.2.1 then
            some (.inr (.inl false))
          else
          (slices_DeleteFunc_times_ring_1 n x5.2.2.2.2.2.2.2.2.2.2.2.2.2.2).bind fun y7 =>
          some (.inl (x5.1, x5.2.1, x5.2.2.1, wrap64 (x5.2.2.2.1 + 1), x5.2.2.2.2.2.1, x5.2.2.2.2.2.2.1, x5.2.2.2.2.2.2.2.1, x5.2.2.2.2.2.2.2.2.1, x5.2.2.2.2.2.2.2.2.2.1, x5.2.2.2.2.2.2.2.2.2.2.1, x5.2.2.2.2.2.2.2.2.2.2.2.1, x5.2.2.2.2.2.2.2.2.2.2.2.2.1, x5.2.2.2.2.2.2.2.2.2.2.2.2.2.1, y7.2.2.2.2.2))) fun J6 =>
        bif decide (y3 < 0) then
          J6 (x2.1, x2.2.1, x2.2.2.1, x2.2.2.2.1, true, x2.2.2.2.2.1, x2.2.2.2.2.2.1, x2.2.2.2.2.2.2.1, x2.2.2.2.2.2.2.2.1, x2.2.2.2.2.2.2.2.2.1, x2.2.2.2.2.2.2.2.2.2.1, x2.2.2.2.2.2.2.2.2.2.2.1, x2.2.2.2.2.2.2.2.2.2.2.2.1, x2.2.2.2.2.2.2.2.2.2.2.2.2.1, e1, e3, e5, e7, e0.2.2.2.2, x2.2.2.2.2.2.2.2.2.2.2.2.2.2)
        else
        bif decide (e3 ≤ wrap64 (e5 + e7)) then
          J6 (x2.1, x2.2.1, x2.2.2.1, x2.2.2.2.1, true, x2.2.2.2.2.1, x2.2.2.2.2.2.1, x2.2.2.2.2.2.2.1, x2.2.2.2.2.2.2.2.1, x2.2.2.2.2.2.2.2.2.1, x2.2.2.2.2.2.2.2.2.2.1, x2.2.2.2.2.2.2.2.2.2.2.1, x2.2.2.2.2.2.2.2.2.2.2.2.1, x2.2.2.2.2.2.2.2.2.2.2.2.2.1, e1, e3, e5, e7, e0.2.2.2.2, x2.2.2.2.2.2.2.2.2.2.2.2.2.2)
        else
        (times_walks n (x2.2.2.2.2.1, x2.2.2.2.2.2.1, x2.2.2.2.2.2.2.1, x2.2.2.2.2.2.2.2.1, x2.2.2.2.2.2.2.2.2.1, x2.2.2.2.2.2.2.2.2.2.1, x2.2.2.2.2.2.2.2.2.2.2.1, e0)).bind fun y4 =>
        J6 (x2.1, x2.2.1, x2.2.2.1, x2.2.2.2.1, !y4, x2.2.2.2.2.1, x2.2.2.2.2.2.1, x2.2.2.2.2.2.2.1, x2.2.2.2.2.2.2.2.1, x2.2.2.2.2.2.2.2.2.1, x2.2.2.2.2.2.2.2.2.2.1, x2.2.2.2.2.2.2.2.2.2.2.1, x2.2.2.2.2.2.2.2.2.2.2.2.1, x2.2.2.2.2.2.2.2.2.2.2.2.2.1, e1, e3, e5, e7, e0.2.2.2.2, x2.2.2.2.2.2.2.2.2.2.2.2.2.2)
      else
      none
    else
    some (.inr (.inr (x2.1, x2.2.2.2.2.2.2.2.2.2.2.2.1, x2.2.2.2.2.2.2.2.2.2.2.2.2.1)))) (x0.2.2.2.2.2.2.2.2.2, x0.2.2.2.2.2.2.2.2.2, ((x0.2.2.2.2.2.2.2.2.2.length : Nat) : Int), 0, x0.1, x0.2.1, x0.2.2.1, x0.2.2.2.1, x0.2.2.2.2.1, x0.2.2.2.2.2.1, x0.2.2.2.2.2.2.1, x0.2.2.2.2.2.2.2.1, x0.2.2.2.2.2.2.2.2.1, y1)).bind (Sum.elim (fun (z8 : Bool) =>
    some z8) (fun (z9 : (List (ByteArray × Int × Int × Int × List (ByteArray × Int × Int))) × Bool × List ByteArray) =>
    some (((z9.1.length : Nat) : Int) == ((z9.2.2.length : Nat) : Int))))
def p_times_ring : Plan := .two (.leaf) (.two (.leaf) (.two (.two (.leaf) (.one (.loop ⟨slotsOf 52 [(2, .c (.hole (.sl 62))), (3, .c (.box 3 0)), (4, .c (.box 4 0)), (7, .c (.row 11300)), (14, .c (.hole (.sl 62))), (15, .c (.hole (.int .i64))), (16, .c (.hole (.int .i64)))], [(3, 28, [.hole (.str), .hole (.sl 72), .hole (.sl 66), .hole (.sl 111), .hole (.sl 125), .hole (.sl 163), .hole (.int .i64)]), (4, 127, [.hole (.bool), .hole (.sl 9)])], [(11300, 9)]⟩ [(.ret, ⟨slotsOf 52 [(6, .c (.hole (.bool)))], [], []⟩), (.exit 0, ⟨slotsOf 52 [(2, .c (.hole (.sl 62))), (4, .c (.box 4 0))], [(4, 127, [.hole (.bool), .hole (.sl 9)])], []⟩)] (.two (.leaf) (.two (.leaf) (.two (.one (.two (.leaf) (.two (.leaf) (.two (.two (.join ⟨slotsOf 52 [(2, .c (.hole (.sl 62))), (3, .c (.box 3 0)), (4, .c (.box 4 0)), (7, .c (.row 11300)), (9, .c (.box 9 0)), (14, .c (.hole (.sl 62))), (15, .c (.hole (.int .i64))), (16, .c (.hole (.int .i64))), (41, .c (.hole (.bool)))], [(3, 28, [.hole (.str), .hole (.sl 72), .hole (.sl 66), .hole (.sl 111), .hole (.sl 125), .hole (.sl 163), .hole (.int .i64)]), (4, 127, [.hole (.bool), .hole (.sl 9)]), (9, 62, [.hole (.str), .hole (.int .i64), .hole (.int .i64), .hole (.int .i64), .hole (.sl 133)])], [(11300, 9)]⟩ (.leaf)) (.leaf)) (.leaf))))) (.leaf))))))) (.leaf)))
noncomputable def c_times_ring (n : Nat) : Cx := ⟨Go.Proofs.Tryz.prog, Θ, [191, 57], [(101, ⟨h_slices_DeleteFunc_times_ring_1, o_slices_DeleteFunc_times_ring_1, slices_DeleteFunc_times_ring_1 n⟩), (70, ⟨h_slices_Clone_string, o_slices_Clone_string, slices_Clone_string n⟩), (99, ⟨h_slices_Index_string, o_slices_Index_string, slices_Index_string n⟩), (100, ⟨h_times_walks, o_times_walks, times_walks n⟩)], [], []⟩
theorem d_times_ring (n : Nat) (x : h_times_ring.X T) : denF (c_times_ring n) n Go.Proofs.Tryz.f67 p_times_ring h_times_ring o_times_ring x = times_ring n x := by kernel_rfl
theorem s_times_ring (n : Nat) : PCalls Go.Proofs.Tryz.prog Θ 67 ⟨h_times_ring, o_times_ring, times_ring n⟩ :=
  func_ok' (C := c_times_ring n) (n := n) (p := p_times_ring) (ok_of mixed eqsOk ⟨s_slices_DeleteFunc_times_ring_1 n, s_slices_Clone_string n, s_slices_Index_string n, s_times_walks n, trivial⟩ trivial trivial) Go.Proofs.Tryz.func67 (by kernel_rfl) (by kernel_rfl) (d_times_ring n) (by kernel_rfl)

end Go.Proofs.YtakkhnoelnpfdaaGreat.Fn
