/- Functions of the program, each as a plain function, and that the machine does what it says. -/
import Derived.Test.YtbcejiobmeglgaaAwake07
namespace Go.Proofs.Ytbcejiobmeglgaa.Fn
set_option linter.unusedVariables false
set_option maxRecDepth 100000
open Go Go.RowKit Go.Den
def h_law06_strings : Shape := ⟨slotsOf 1 [(0, .c (.hole (.sl 9)))], [], []⟩
def o_law06_strings : List (Ex × Shape) := [(.ret, ⟨slotsOf 1 [(0, .c (.hole (.bool)))], [], []⟩)]
def law06_strings (n : Nat) (x0 : List ByteArray) : Option (Bool) :=
  (iterL (Y := (Bool) ⊕ (List ByteArray)) n (fun (x1 : (List ByteArray) × Int) =>
    letJ (fun (x2 : (List ByteArray) × Int × Bool) =>
      bif x2.2.2 then
        bif inB x2.2.1 x2.1.length then
          bif decide (100 < ((ByteArray.size (atI (ByteArray.mk #[]) x2.1 x2.2.1) : Nat) : Int)) then
            some (.inr (.inl false))
          else
          some (.inl (x2.1, wrap64 (x2.2.1 + 1)))
        else
        none
      else
      some (.inr (.inr x2.1))) fun J3 =>
    bif decide (x1.2 < ((x1.1.length : Nat) : Int)) then
      J3 (x1.1, x1.2, decide (x1.2 < 50))
    else
    J3 (x1.1, x1.2, false)) (x0, 0)).bind (Sum.elim (fun (z4 : Bool) =>
    some z4) (fun (z5 : List ByteArray) =>
    some (decide (((z5.length : Nat) : Int) ≤ 50))))
def p_law06_strings : Plan := .two (.leaf) (.two (.two (.leaf) (.one (.loop ⟨slotsOf 23 [(0, .c (.hole (.sl 9))), (3, .c (.hole (.int .i64)))], [], []⟩ [(.ret, ⟨slotsOf 23 [(2, .c (.hole (.bool)))], [], []⟩), (.exit 0, ⟨slotsOf 23 [(0, .c (.hole (.sl 9)))], [], []⟩)] (.two (.two (.join ⟨slotsOf 23 [(0, .c (.hole (.sl 9))), (3, .c (.hole (.int .i64))), (11, .c (.hole (.bool)))], [], []⟩ (.leaf)) (.leaf)) (.leaf))))) (.leaf))
noncomputable def c_law06_strings (b n : Nat) : Cx := ⟨Go.Proofs.Try.prog, (Θ b), [23], [], [], [], []⟩
theorem d_law06_strings (b n : Nat) (x : h_law06_strings.X T) : denF (c_law06_strings b n) n Go.Proofs.Try.f21 p_law06_strings h_law06_strings o_law06_strings x = law06_strings n x := by kernel_rfl
theorem s_law06_strings (b n : Nat) : PCalls Go.Proofs.Try.prog (Θ b) 21 ⟨h_law06_strings, o_law06_strings, law06_strings n⟩ :=
  func_ok' (C := c_law06_strings b n) (n := n) (p := p_law06_strings) (ok_of mixed eqsOk trivial trivial trivial) Go.Proofs.Try.func21 (by kernel_rfl) (by kernel_rfl) (d_law06_strings b n) (by kernel_rfl)
def h_law06_node : Shape := ⟨slotsOf 1 [(0, .agg [.hole (.str), .hole (.sl 44), .hole (.sl 78), .hole (.sl 42), .hole (.sl 67), .hole (.sl 47), .hole (.int .i64)])], [], []⟩
def o_law06_node : List (Ex × Shape) := [(.ret, ⟨slotsOf 1 [(0, .c (.hole (.bool)))], [], []⟩)]
def law06_node (n : Nat) (x0 : ByteArray × (List (ByteArray × Int × Int × Int × Int × Int × Int × Int × Int × Int × Int)) × (List (ByteArray × ByteArray × Int × Int × Int × Int)) × (List (ByteArray × (List ByteArray) × Int)) × (List (List (Bool × List ByteArray))) × (List (ByteArray × ByteArray × Int)) × Int) : Option (Bool) :=
  letJ (fun (x1 : Bool × ByteArray × (List (ByteArray × Int × Int × Int × Int × Int × Int × Int × Int × Int × Int)) × (List (ByteArray × ByteArray × Int × Int × Int × Int)) × (List (ByteArray × (List ByteArray) × Int)) × (List (List (Bool × List ByteArray))) × (List (ByteArray × ByteArray × Int)) × Int) =>
    bif x1.1 then
      some false
    else
    (iterL (Y := (ByteArray × (List (ByteArray × Int × Int × Int × Int × Int × Int × Int × Int × Int × Int)) × (List (ByteArray × ByteArray × Int × Int × Int × Int)) × (List (ByteArray × (List ByteArray) × Int)) × (List (List (Bool × List ByteArray))) × (List (ByteArray × ByteArray × Int)) × Int × List ByteArray)) n (fun (x3 : Int × ByteArray × (List (ByteArray × Int × Int × Int × Int × Int × Int × Int × Int × Int × Int)) × (List (ByteArray × ByteArray × Int × Int × Int × Int)) × (List (ByteArray × (List ByteArray) × Int)) × (List (List (Bool × List ByteArray))) × (List (ByteArray × ByteArray × Int)) × Int × List ByteArray) =>
      let e0 := x3.2.2.1.length
      let e1 := (atI (ByteArray.mk #[], 0, 0, 0, 0, 0, 0, 0, 0, 0, 0) x3.2.2.1 x3.1).1 :: []
      bif decide (x3.1 < ((e0 : Nat) : Int)) then
        bif inB x3.1 e0 then
          bif fitB (x3.2.2.2.2.2.2.2.2.length + e1.length) 16 then
            some (.inl (wrap64 (x3.1 + 1), x3.2.1, x3.2.2.1, x3.2.2.2.1, x3.2.2.2.2.1, x3.2.2.2.2.2.1, x3.2.2.2.2.2.2.1, x3.2.2.2.2.2.2.2.1, x3.2.2.2.2.2.2.2.2 ++ e1))
          else
          none
        else
        none
      else
      some (.inr x3.2)) (0, x1.2.1, x1.2.2.1, x1.2.2.2.1, x1.2.2.2.2.1, x1.2.2.2.2.2.1, x1.2.2.2.2.2.2.1, x1.2.2.2.2.2.2.2, x1.2.1 :: [])).bind fun (z4 : ByteArray × (List (ByteArray × Int × Int × Int × Int × Int × Int × Int × Int × Int × Int)) × (List (ByteArray × ByteArray × Int × Int × Int × Int)) × (List (ByteArray × (List ByteArray) × Int)) × (List (List (Bool × List ByteArray))) × (List (ByteArray × ByteArray × Int)) × Int × List ByteArray) =>
      let e2 := z4.2.2.2.2.2.2.2.length
      bif cutOk none (some (mn ((e2 : Nat) : Int) 50)) e2 then
        (law06_strings n (cutList none (some (mn ((e2 : Nat) : Int) 50)) z4.2.2.2.2.2.2.2)).bind fun y5 =>
        bif !y5 then
          some false
        else
        (iterL (Y := (Bool) ⊕ (ByteArray × (List (ByteArray × Int × Int × Int × Int × Int × Int × Int × Int × Int × Int)) × (List (ByteArray × ByteArray × Int × Int × Int × Int)) × (List (ByteArray × (List ByteArray) × Int)) × (List (List (Bool × List ByteArray))) × (List (ByteArray × ByteArray × Int)) × Int)) n (fun (x6 : Int × ByteArray × (List (ByteArray × Int × Int × Int × Int × Int × Int × Int × Int × Int × Int)) × (List (ByteArray × ByteArray × Int × Int × Int × Int)) × (List (ByteArray × (List ByteArray) × Int)) × (List (List (Bool × List ByteArray))) × (List (ByteArray × ByteArray × Int)) × Int) =>
          let e3 := x6.2.2.2.1.length
          let e4 := inB x6.1 e3
          let e5 := atI (ByteArray.mk #[], ByteArray.mk #[], 0, 0, 0, 0) x6.2.2.2.1 x6.1
          bif decide (x6.1 < ((e3 : Nat) : Int)) then
            bif e4 then
              bif e4 then
                (law06_strings n (e5.1 :: (e5.2.1 :: []))).bind fun y7 =>
                bif !y7 then
                  some (.inr (.inl false))
                else
                some (.inl (wrap64 (x6.1 + 1), x6.2))
              else
              none
            else
            none
          else
          some (.inr (.inr x6.2))) (0, z4.1, z4.2.1, z4.2.2.1, z4.2.2.2.1, z4.2.2.2.2.1, z4.2.2.2.2.2.1, z4.2.2.2.2.2.2.1)).bind (Sum.elim (fun (z8 : Bool) =>
          some z8) (fun (z9 : ByteArray × (List (ByteArray × Int × Int × Int × Int × Int × Int × Int × Int × Int × Int)) × (List (ByteArray × ByteArray × Int × Int × Int × Int)) × (List (ByteArray × (List ByteArray) × Int)) × (List (List (Bool × List ByteArray))) × (List (ByteArray × ByteArray × Int)) × Int) =>
          (iterL (Y := (Bool) ⊕ (ByteArray × (List (ByteArray × Int × Int × Int × Int × Int × Int × Int × Int × Int × Int)) × (List (ByteArray × ByteArray × Int × Int × Int × Int)) × (List (ByteArray × (List ByteArray) × Int)) × (List (List (Bool × List ByteArray))) × (List (ByteArray × ByteArray × Int)) × Int)) n (fun (x10 : Int × ByteArray × (List (ByteArray × Int × Int × Int × Int × Int × Int × Int × Int × Int × Int)) × (List (ByteArray × ByteArray × Int × Int × Int × Int)) × (List (ByteArray × (List ByteArray) × Int)) × (List (List (Bool × List ByteArray))) × (List (ByteArray × ByteArray × Int)) × Int) =>
            let e6 := x10.2.2.2.2.1.length
            let e7 := inB x10.1 e6
            let e8 := atI (ByteArray.mk #[], [], 0) x10.2.2.2.2.1 x10.1
            bif decide (x10.1 < ((e6 : Nat) : Int)) then
              letJ (fun (x13 : Int × Bool × ByteArray × (List (ByteArray × Int × Int × Int × Int × Int × Int × Int × Int × Int × Int)) × (List (ByteArray × ByteArray × Int × Int × Int × Int)) × (List (ByteArray × (List ByteArray) × Int)) × (List (List (Bool × List ByteArray))) × (List (ByteArray × ByteArray × Int)) × Int) =>
                bif x13.2.1 then
                  some (.inr (.inl false))
                else
                some (.inl (wrap64 (x13.1 + 1), x13.2.2))) fun J14 =>
              bif e7 then
                (law06_strings n (e8.1 :: [])).bind fun y11 =>
                bif !y11 then
                  J14 (x10.1, true, x10.2)
                else
                bif e7 then
                  (law06_strings n e8.2.1).bind fun y12 =>
                  J14 (x10.1, !y12, x10.2)
                else
                none
              else
              none
            else
            some (.inr (.inr x10.2))) (0, z9)).bind (Sum.elim (fun (z15 : Bool) =>
            some z15) (fun (z16 : ByteArray × (List (ByteArray × Int × Int × Int × Int × Int × Int × Int × Int × Int × Int)) × (List (ByteArray × ByteArray × Int × Int × Int × Int)) × (List (ByteArray × (List ByteArray) × Int)) × (List (List (Bool × List ByteArray))) × (List (ByteArray × ByteArray × Int)) × Int) =>
            (iterL (Y := (Bool) ⊕ (ByteArray × (List (ByteArray × Int × Int × Int × Int × Int × Int × Int × Int × Int × Int)) × (List (ByteArray × ByteArray × Int × Int × Int × Int)) × (List (ByteArray × (List ByteArray) × Int)) × (List (List (Bool × List ByteArray))) × (List (ByteArray × ByteArray × Int)) × Int)) n (fun (x17 : Int × ByteArray × (List (ByteArray × Int × Int × Int × Int × Int × Int × Int × Int × Int × Int)) × (List (ByteArray × ByteArray × Int × Int × Int × Int)) × (List (ByteArray × (List ByteArray) × Int)) × (List (List (Bool × List ByteArray))) × (List (ByteArray × ByteArray × Int)) × Int) =>
              let e9 := x17.2.2.2.2.2.1.length
              bif decide (x17.1 < ((e9 : Nat) : Int)) then
                bif inB x17.1 e9 then
                  bif decide (5 < ((List.length (atI [] x17.2.2.2.2.2.1 x17.1) : Nat) : Int)) then
                    some (.inr (.inl false))
                  else
                  (iterL (Y := (Bool) ⊕ (Int × ByteArray × (List (ByteArray × Int × Int × Int × Int × Int × Int × Int × Int × Int × Int)) × (List (ByteArray × ByteArray × Int × Int × Int × Int)) × (List (ByteArray × (List ByteArray) × Int)) × (List (List (Bool × List ByteArray))) × (List (ByteArray × ByteArray × Int)) × Int)) n (fun (x18 : Int × Int × ByteArray × (List (ByteArray × Int × Int × Int × Int × Int × Int × Int × Int × Int × Int)) × (List (ByteArray × ByteArray × Int × Int × Int × Int)) × (List (ByteArray × (List ByteArray) × Int)) × (List (List (Bool × List ByteArray))) × (List (ByteArray × ByteArray × Int)) × Int) =>
                    let e10 := inB x18.1 x18.2.2.2.2.2.2.1.length
                    let e11 := atI [] x18.2.2.2.2.2.2.1 x18.1
                    let e12 := e11.length
                    bif e10 then
                      bif decide (x18.2.1 < ((e12 : Nat) : Int)) then
                        bif e10 then
                          bif inB x18.2.1 e12 then
                            (law06_strings n (atI (false, []) e11 x18.2.1).2).bind fun y19 =>
                            bif !y19 then
                              some (.inr (.inl false))
                            else
                            some (.inl (x18.1, wrap64 (x18.2.1 + 1), x18.2.2))
                          else
                          none
                        else
                        none
                      else
                      some (.inr (.inr (x18.1, x18.2.2)))
                    else
                    none) (x17.1, 0, x17.2)).bind (Sum.elim (fun (z20 : Bool) =>
                    some (.inr (.inl z20))) (fun (z21 : Int × ByteArray × (List (ByteArray × Int × Int × Int × Int × Int × Int × Int × Int × Int × Int)) × (List (ByteArray × ByteArray × Int × Int × Int × Int)) × (List (ByteArray × (List ByteArray) × Int)) × (List (List (Bool × List ByteArray))) × (List (ByteArray × ByteArray × Int)) × Int) =>
                    some (.inl (wrap64 (z21.1 + 1), z21.2))))
                else
                none
              else
              some (.inr (.inr x17.2))) (0, z16)).bind (Sum.elim (fun (z22 : Bool) =>
              some z22) (fun (z23 : ByteArray × (List (ByteArray × Int × Int × Int × Int × Int × Int × Int × Int × Int × Int)) × (List (ByteArray × ByteArray × Int × Int × Int × Int)) × (List (ByteArray × (List ByteArray) × Int)) × (List (List (Bool × List ByteArray))) × (List (ByteArray × ByteArray × Int)) × Int) =>
              (iterL (Y := (Bool) ⊕ (Unit)) n (fun (x24 : Int × ByteArray × (List (ByteArray × Int × Int × Int × Int × Int × Int × Int × Int × Int × Int)) × (List (ByteArray × ByteArray × Int × Int × Int × Int)) × (List (ByteArray × (List ByteArray) × Int)) × (List (List (Bool × List ByteArray))) × (List (ByteArray × ByteArray × Int)) × Int) =>
                let e13 := x24.2.2.2.2.2.2.1.length
                let e14 := inB x24.1 e13
                let e15 := atI (ByteArray.mk #[], ByteArray.mk #[], 0) x24.2.2.2.2.2.2.1 x24.1
                bif decide (x24.1 < ((e13 : Nat) : Int)) then
                  bif e14 then
                    bif e14 then
                      (law06_strings n (e15.1 :: (e15.2.1 :: []))).bind fun y25 =>
                      bif !y25 then
                        some (.inr (.inl false))
                      else
                      some (.inl (wrap64 (x24.1 + 1), x24.2))
                    else
                    none
                  else
                  none
                else
                some (.inr (.inr ()))) (0, z23)).bind (Sum.elim (fun (z26 : Bool) =>
                some z26) (fun (z27 : Unit) =>
                some true))))))))
      else
      none) fun J2 =>
  bif decide (50 < ((x0.2.1.length : Nat) : Int)) then
    J2 (true, x0)
  else
  bif decide (50 < ((x0.2.2.1.length : Nat) : Int)) then
    J2 (true, x0)
  else
  bif decide (50 < ((x0.2.2.2.1.length : Nat) : Int)) then
    J2 (true, x0)
  else
  bif decide (50 < ((x0.2.2.2.2.1.length : Nat) : Int)) then
    J2 (true, x0)
  else
  J2 (decide (80 < ((x0.2.2.2.2.2.1.length : Nat) : Int)), x0)
def p_law06_node : Plan := .two (.leaf) (.two (.two (.join ⟨slotsOf 172 [(1, .c (.box 1 0)), (37, .c (.hole (.bool)))], [(1, 39, [.hole (.str), .hole (.sl 44), .hole (.sl 78), .hole (.sl 42), .hole (.sl 67), .hole (.sl 47), .hole (.int .i64)])], []⟩ (.leaf)) (.leaf)) (.two (.leaf) (.two (.two (.leaf) (.one (.loop ⟨slotsOf 172 [(1, .c (.box 1 0)), (3, .c (.row 40)), (4, .c (.hole (.int .i64)))], [(1, 39, [.hole (.str), .hole (.sl 44), .hole (.sl 78), .hole (.sl 42), .hole (.sl 67), .hole (.sl 47), .hole (.int .i64)])], [(40, 9)]⟩ [(.exit 0, ⟨slotsOf 172 [(1, .c (.box 1 0)), (3, .c (.row 40))], [(1, 39, [.hole (.str), .hole (.sl 44), .hole (.sl 78), .hole (.sl 42), .hole (.sl 67), .hole (.sl 47), .hole (.int .i64)])], [(40, 9)]⟩)] (.leaf)))) (.two (.leaf) (.two (.two (.leaf) (.one (.loop ⟨slotsOf 172 [(1, .c (.box 1 0)), (5, .c (.hole (.int .i64)))], [(1, 39, [.hole (.str), .hole (.sl 44), .hole (.sl 78), .hole (.sl 42), .hole (.sl 67), .hole (.sl 47), .hole (.int .i64)])], []⟩ [(.ret, ⟨slotsOf 172 [(2, .c (.hole (.bool)))], [], []⟩), (.exit 2, ⟨slotsOf 172 [(1, .c (.box 1 0))], [(1, 39, [.hole (.str), .hole (.sl 44), .hole (.sl 78), .hole (.sl 42), .hole (.sl 67), .hole (.sl 47), .hole (.int .i64)])], []⟩)] (.leaf)))) (.two (.two (.leaf) (.one (.loop ⟨slotsOf 172 [(1, .c (.box 1 0)), (6, .c (.hole (.int .i64)))], [(1, 39, [.hole (.str), .hole (.sl 44), .hole (.sl 78), .hole (.sl 42), .hole (.sl 67), .hole (.sl 47), .hole (.int .i64)])], []⟩ [(.ret, ⟨slotsOf 172 [(2, .c (.hole (.bool)))], [], []⟩), (.exit 4, ⟨slotsOf 172 [(1, .c (.box 1 0))], [(1, 39, [.hole (.str), .hole (.sl 44), .hole (.sl 78), .hole (.sl 42), .hole (.sl 67), .hole (.sl 47), .hole (.int .i64)])], []⟩)] (.two (.leaf) (.two (.one (.two (.join ⟨slotsOf 172 [(1, .c (.box 1 0)), (6, .c (.hole (.int .i64))), (111, .c (.hole (.bool)))], [(1, 39, [.hole (.str), .hole (.sl 44), .hole (.sl 78), .hole (.sl 42), .hole (.sl 67), .hole (.sl 47), .hole (.int .i64)])], []⟩ (.leaf)) (.leaf))) (.leaf)))))) (.two (.two (.leaf) (.one (.loop ⟨slotsOf 172 [(1, .c (.box 1 0)), (7, .c (.hole (.int .i64)))], [(1, 39, [.hole (.str), .hole (.sl 44), .hole (.sl 78), .hole (.sl 42), .hole (.sl 67), .hole (.sl 47), .hole (.int .i64)])], []⟩ [(.ret, ⟨slotsOf 172 [(2, .c (.hole (.bool)))], [], []⟩), (.exit 6, ⟨slotsOf 172 [(1, .c (.box 1 0))], [(1, 39, [.hole (.str), .hole (.sl 44), .hole (.sl 78), .hole (.sl 42), .hole (.sl 67), .hole (.sl 47), .hole (.int .i64)])], []⟩)] (.two (.leaf) (.two (.one (.two (.leaf) (.two (.leaf) (.one (.loop ⟨slotsOf 172 [(1, .c (.box 1 0)), (7, .c (.hole (.int .i64))), (8, .c (.hole (.int .i64)))], [(1, 39, [.hole (.str), .hole (.sl 44), .hole (.sl 78), .hole (.sl 42), .hole (.sl 67), .hole (.sl 47), .hole (.int .i64)])], []⟩ [(.ret, ⟨slotsOf 172 [(2, .c (.hole (.bool)))], [], []⟩), (.exit 8, ⟨slotsOf 172 [(1, .c (.box 1 0)), (7, .c (.hole (.int .i64)))], [(1, 39, [.hole (.str), .hole (.sl 44), .hole (.sl 78), .hole (.sl 42), .hole (.sl 67), .hole (.sl 47), .hole (.int .i64)])], []⟩)] (.leaf)))))) (.leaf)))))) (.two (.two (.leaf) (.one (.loop ⟨slotsOf 172 [(1, .c (.box 1 0)), (9, .c (.hole (.int .i64)))], [(1, 39, [.hole (.str), .hole (.sl 44), .hole (.sl 78), .hole (.sl 42), .hole (.sl 67), .hole (.sl 47), .hole (.int .i64)])], []⟩ [(.ret, ⟨slotsOf 172 [(2, .c (.hole (.bool)))], [], []⟩), (.exit 10, ⟨slotsOf 172 [], [], []⟩)] (.leaf)))) (.leaf)))))))))
noncomputable def c_law06_node (b n : Nat) : Cx := ⟨Go.Proofs.Try.prog, (Θ b), [23], [(21, ⟨h_law06_strings, o_law06_strings, law06_strings n⟩)], [], [], []⟩
theorem d_law06_node (b n : Nat) (x : h_law06_node.X T) : denF (c_law06_node b n) n Go.Proofs.Try.f20 p_law06_node h_law06_node o_law06_node x = law06_node n x := by kernel_rfl
theorem s_law06_node (b n : Nat) : PCalls Go.Proofs.Try.prog (Θ b) 20 ⟨h_law06_node, o_law06_node, law06_node n⟩ :=
  func_ok' (C := c_law06_node b n) (n := n) (p := p_law06_node) (ok_of mixed eqsOk ⟨s_law06_strings b n, trivial⟩ trivial trivial) Go.Proofs.Try.func20 (by kernel_rfl) (by kernel_rfl) (d_law06_node b n) (by kernel_rfl)
def h_law06_Few : Shape := ⟨slotsOf 1 [(0, .agg [.hole (.int .i64), .hole (.int .i64), .hole (.int .i64), .hole (.int .i64), .hole (.int .i64), .hole (.sl 39), .hole (.sl 53), .hole (.int .i64), .hole (.int .i64)])], [], []⟩
def o_law06_Few : List (Ex × Shape) := [(.ret, ⟨slotsOf 1 [(0, .c (.hole (.bool)))], [], []⟩)]
def law06_Few (n : Nat) (x0 : Int × Int × Int × Int × Int × (List (ByteArray × (List (ByteArray × Int × Int × Int × Int × Int × Int × Int × Int × Int × Int)) × (List (ByteArray × ByteArray × Int × Int × Int × Int)) × (List (ByteArray × (List ByteArray) × Int)) × (List (List (Bool × List ByteArray))) × (List (ByteArray × ByteArray × Int)) × Int)) × (List (ByteArray × ByteArray × ByteArray × Int × Int × Int)) × Int × Int) : Option (Bool) :=
  letJ (fun (x1 : Bool × Int × Int × Int × Int × Int × (List (ByteArray × (List (ByteArray × Int × Int × Int × Int × Int × Int × Int × Int × Int × Int)) × (List (ByteArray × ByteArray × Int × Int × Int × Int)) × (List (ByteArray × (List ByteArray) × Int)) × (List (List (Bool × List ByteArray))) × (List (ByteArray × ByteArray × Int)) × Int)) × (List (ByteArray × ByteArray × ByteArray × Int × Int × Int)) × Int × Int) =>
    bif x1.1 then
      some false
    else
    (iterL (Y := (Bool) ⊕ (Int × Int × Int × Int × Int × (List (ByteArray × (List (ByteArray × Int × Int × Int × Int × Int × Int × Int × Int × Int × Int)) × (List (ByteArray × ByteArray × Int × Int × Int × Int)) × (List (ByteArray × (List ByteArray) × Int)) × (List (List (Bool × List ByteArray))) × (List (ByteArray × ByteArray × Int)) × Int)) × (List (ByteArray × ByteArray × ByteArray × Int × Int × Int)) × Int × Int)) n (fun (x3 : Int × Int × Int × Int × Int × Int × (List (ByteArray × (List (ByteArray × Int × Int × Int × Int × Int × Int × Int × Int × Int × Int)) × (List (ByteArray × ByteArray × Int × Int × Int × Int)) × (List (ByteArray × (List ByteArray) × Int)) × (List (List (Bool × List ByteArray))) × (List (ByteArray × ByteArray × Int)) × Int)) × (List (ByteArray × ByteArray × ByteArray × Int × Int × Int)) × Int × Int) =>
      let e0 := x3.2.2.2.2.2.2.1.length
      bif decide (x3.1 < ((e0 : Nat) : Int)) then
        bif inB x3.1 e0 then
          (law06_node n (atI (ByteArray.mk #[], [], [], [], [], [], 0) x3.2.2.2.2.2.2.1 x3.1)).bind fun y4 =>
          bif !y4 then
            some (.inr (.inl false))
          else
          some (.inl (wrap64 (x3.1 + 1), x3.2))
        else
        none
      else
      some (.inr (.inr x3.2))) (0, x1.2)).bind (Sum.elim (fun (z5 : Bool) =>
      some z5) (fun (z6 : Int × Int × Int × Int × Int × (List (ByteArray × (List (ByteArray × Int × Int × Int × Int × Int × Int × Int × Int × Int × Int)) × (List (ByteArray × ByteArray × Int × Int × Int × Int)) × (List (ByteArray × (List ByteArray) × Int)) × (List (List (Bool × List ByteArray))) × (List (ByteArray × ByteArray × Int)) × Int)) × (List (ByteArray × ByteArray × ByteArray × Int × Int × Int)) × Int × Int) =>
      (iterL (Y := (Bool) ⊕ (Unit)) n (fun (x7 : Int × Int × Int × Int × Int × Int × (List (ByteArray × (List (ByteArray × Int × Int × Int × Int × Int × Int × Int × Int × Int × Int)) × (List (ByteArray × ByteArray × Int × Int × Int × Int)) × (List (ByteArray × (List ByteArray) × Int)) × (List (List (Bool × List ByteArray))) × (List (ByteArray × ByteArray × Int)) × Int)) × (List (ByteArray × ByteArray × ByteArray × Int × Int × Int)) × Int × Int) =>
        let e1 := x7.2.2.2.2.2.2.2.1.length
        let e2 := inB x7.1 e1
        let e3 := atI (ByteArray.mk #[], ByteArray.mk #[], ByteArray.mk #[], 0, 0, 0) x7.2.2.2.2.2.2.2.1 x7.1
        let e4 := e3.2
        bif decide (x7.1 < ((e1 : Nat) : Int)) then
          bif e2 then
            bif e2 then
              bif e2 then
                (law06_strings n (e3.1 :: (e3.2.1 :: (e3.2.2.1 :: [])))).bind fun y8 =>
                bif !y8 then
                  some (.inr (.inl false))
                else
                some (.inl (wrap64 (x7.1 + 1), x7.2))
              else
              none
            else
            none
          else
          none
        else
        some (.inr (.inr ()))) (0, z6)).bind (Sum.elim (fun (z9 : Bool) =>
        some z9) (fun (z10 : Unit) =>
        some true))))) fun J2 =>
  bif decide (15 < ((x0.2.2.2.2.2.1.length : Nat) : Int)) then
    J2 (true, x0)
  else
  J2 (decide (15 < ((x0.2.2.2.2.2.2.1.length : Nat) : Int)), x0)
def p_law06_Few : Plan := .two (.leaf) (.two (.two (.join ⟨slotsOf 57 [(1, .c (.box 1 0)), (14, .c (.hole (.bool)))], [(1, 27, [.hole (.int .i64), .hole (.int .i64), .hole (.int .i64), .hole (.int .i64), .hole (.int .i64), .hole (.sl 39), .hole (.sl 53), .hole (.int .i64), .hole (.int .i64)])], []⟩ (.leaf)) (.leaf)) (.two (.two (.leaf) (.one (.loop ⟨slotsOf 57 [(1, .c (.box 1 0)), (3, .c (.hole (.int .i64)))], [(1, 27, [.hole (.int .i64), .hole (.int .i64), .hole (.int .i64), .hole (.int .i64), .hole (.int .i64), .hole (.sl 39), .hole (.sl 53), .hole (.int .i64), .hole (.int .i64)])], []⟩ [(.ret, ⟨slotsOf 57 [(2, .c (.hole (.bool)))], [], []⟩), (.exit 0, ⟨slotsOf 57 [(1, .c (.box 1 0))], [(1, 27, [.hole (.int .i64), .hole (.int .i64), .hole (.int .i64), .hole (.int .i64), .hole (.int .i64), .hole (.sl 39), .hole (.sl 53), .hole (.int .i64), .hole (.int .i64)])], []⟩)] (.leaf)))) (.two (.two (.leaf) (.one (.loop ⟨slotsOf 57 [(1, .c (.box 1 0)), (4, .c (.hole (.int .i64)))], [(1, 27, [.hole (.int .i64), .hole (.int .i64), .hole (.int .i64), .hole (.int .i64), .hole (.int .i64), .hole (.sl 39), .hole (.sl 53), .hole (.int .i64), .hole (.int .i64)])], []⟩ [(.ret, ⟨slotsOf 57 [(2, .c (.hole (.bool)))], [], []⟩), (.exit 2, ⟨slotsOf 57 [], [], []⟩)] (.leaf)))) (.leaf))))
noncomputable def c_law06_Few (b n : Nat) : Cx := ⟨Go.Proofs.Try.prog, (Θ b), [23], [(21, ⟨h_law06_strings, o_law06_strings, law06_strings n⟩), (20, ⟨h_law06_node, o_law06_node, law06_node n⟩)], [], [], []⟩
theorem d_law06_Few (b n : Nat) (x : h_law06_Few.X T) : denF (c_law06_Few b n) n Go.Proofs.Try.f7 p_law06_Few h_law06_Few o_law06_Few x = law06_Few n x := by kernel_rfl
theorem s_law06_Few (b n : Nat) : PCalls Go.Proofs.Try.prog (Θ b) 7 ⟨h_law06_Few, o_law06_Few, law06_Few n⟩ :=
  func_ok' (C := c_law06_Few b n) (n := n) (p := p_law06_Few) (ok_of mixed eqsOk ⟨s_law06_strings b n, s_law06_node b n, trivial⟩ trivial trivial) Go.Proofs.Try.func7 (by kernel_rfl) (by kernel_rfl) (d_law06_Few b n) (by kernel_rfl)
def h_ref07_Node : Shape := ⟨slotsOf 2 [(0, .agg [.hole (.int .i64), .hole (.int .i64), .hole (.int .i64), .hole (.int .i64), .hole (.int .i64), .hole (.sl 39), .hole (.sl 53), .hole (.int .i64), .hole (.int .i64)]), (1, .c (.hole (.str)))], [], []⟩
def o_ref07_Node : List (Ex × Shape) := [(.ret, ⟨slotsOf 1 [(0, .c (.hole (.int .i64)))], [], []⟩)]
def ref07_Node (n : Nat) (x0 : Int × Int × Int × Int × Int × (List (ByteArray × (List (ByteArray × Int × Int × Int × Int × Int × Int × Int × Int × Int × Int)) × (List (ByteArray × ByteArray × Int × Int × Int × Int)) × (List (ByteArray × (List ByteArray) × Int)) × (List (List (Bool × List ByteArray))) × (List (ByteArray × ByteArray × Int)) × Int)) × (List (ByteArray × ByteArray × ByteArray × Int × Int × Int)) × Int × Int × ByteArray) : Option (Int) :=
  (iterL (Y := (Int) ⊕ (Unit)) n (fun (x1 : ByteArray × Int × Int × Int × Int × Int × Int × (List (ByteArray × (List (ByteArray × Int × Int × Int × Int × Int × Int × Int × Int × Int × Int)) × (List (ByteArray × ByteArray × Int × Int × Int × Int)) × (List (ByteArray × (List ByteArray) × Int)) × (List (List (Bool × List ByteArray))) × (List (ByteArray × ByteArray × Int)) × Int)) × (List (ByteArray × ByteArray × ByteArray × Int × Int × Int)) × Int × Int) =>
    let e0 := x1.2.2.2.2.2.2.2.1.length
    bif decide (x1.2.1 < ((e0 : Nat) : Int)) then
      bif inB x1.2.1 e0 then
        bif strEq (atI (ByteArray.mk #[], [], [], [], [], [], 0) x1.2.2.2.2.2.2.2.1 x1.2.1).1 x1.1 then
          some (.inr (.inl x1.2.1))
        else
        some (.inl (x1.1, wrap64 (x1.2.1 + 1), x1.2.2))
      else
      none
    else
    some (.inr (.inr ()))) (x0.2.2.2.2.2.2.2.2.2, 0, x0.1, x0.2.1, x0.2.2.1, x0.2.2.2.1, x0.2.2.2.2.1, x0.2.2.2.2.2.1, x0.2.2.2.2.2.2.1, x0.2.2.2.2.2.2.2.1, x0.2.2.2.2.2.2.2.2.1)).bind (Sum.elim (fun (z2 : Int) =>
    some z2) (fun (z3 : Unit) =>
    some (-1)))
def p_ref07_Node : Plan := .two (.leaf) (.two (.two (.leaf) (.one (.loop ⟨slotsOf 22 [(1, .c (.hole (.str))), (2, .c (.box 2 0)), (5, .c (.hole (.int .i64)))], [(2, 27, [.hole (.int .i64), .hole (.int .i64), .hole (.int .i64), .hole (.int .i64), .hole (.int .i64), .hole (.sl 39), .hole (.sl 53), .hole (.int .i64), .hole (.int .i64)])], []⟩ [(.ret, ⟨slotsOf 22 [(4, .c (.hole (.int .i64)))], [], []⟩), (.exit 0, ⟨slotsOf 22 [], [], []⟩)] (.leaf)))) (.leaf))
noncomputable def c_ref07_Node (b n : Nat) : Cx := ⟨Go.Proofs.Try.prog, (Θ b), [23], [], [], [], []⟩
theorem d_ref07_Node (b n : Nat) (x : h_ref07_Node.X T) : denF (c_ref07_Node b n) n Go.Proofs.Try.f14 p_ref07_Node h_ref07_Node o_ref07_Node x = ref07_Node n x := by kernel_rfl
theorem s_ref07_Node (b n : Nat) : PCalls Go.Proofs.Try.prog (Θ b) 14 ⟨h_ref07_Node, o_ref07_Node, ref07_Node n⟩ :=
  func_ok' (C := c_ref07_Node b n) (n := n) (p := p_ref07_Node) (ok_of mixed eqsOk trivial trivial trivial) Go.Proofs.Try.func14 (by kernel_rfl) (by kernel_rfl) (d_ref07_Node b n) (by kernel_rfl)
def h_ref07_Head : Shape := ⟨slotsOf 2 [(0, .agg [.hole (.str), .hole (.sl 44), .hole (.sl 78), .hole (.sl 42), .hole (.sl 67), .hole (.sl 47), .hole (.int .i64)]), (1, .c (.hole (.str)))], [], []⟩
def o_ref07_Head : List (Ex × Shape) := [(.ret, ⟨slotsOf 1 [(0, .c (.hole (.int .i64)))], [], []⟩)]
def ref07_Head (n : Nat) (x0 : ByteArray × (List (ByteArray × Int × Int × Int × Int × Int × Int × Int × Int × Int × Int)) × (List (ByteArray × ByteArray × Int × Int × Int × Int)) × (List (ByteArray × (List ByteArray) × Int)) × (List (List (Bool × List ByteArray))) × (List (ByteArray × ByteArray × Int)) × Int × ByteArray) : Option (Int) :=
  (iterL (Y := (Int) ⊕ (Unit)) n (fun (x1 : ByteArray × Int × ByteArray × (List (ByteArray × Int × Int × Int × Int × Int × Int × Int × Int × Int × Int)) × (List (ByteArray × ByteArray × Int × Int × Int × Int)) × (List (ByteArray × (List ByteArray) × Int)) × (List (List (Bool × List ByteArray))) × (List (ByteArray × ByteArray × Int)) × Int) =>
    let e0 := x1.2.2.2.1.length
    bif decide (x1.2.1 < ((e0 : Nat) : Int)) then
      bif inB x1.2.1 e0 then
        bif strEq (atI (ByteArray.mk #[], 0, 0, 0, 0, 0, 0, 0, 0, 0, 0) x1.2.2.2.1 x1.2.1).1 x1.1 then
          some (.inr (.inl x1.2.1))
        else
        some (.inl (x1.1, wrap64 (x1.2.1 + 1), x1.2.2))
      else
      none
    else
    some (.inr (.inr ()))) (x0.2.2.2.2.2.2.2, 0, x0.1, x0.2.1, x0.2.2.1, x0.2.2.2.1, x0.2.2.2.2.1, x0.2.2.2.2.2.1, x0.2.2.2.2.2.2.1)).bind (Sum.elim (fun (z2 : Int) =>
    some z2) (fun (z3 : Unit) =>
    some (-1)))
def p_ref07_Head : Plan := .two (.leaf) (.two (.two (.leaf) (.one (.loop ⟨slotsOf 22 [(1, .c (.hole (.str))), (2, .c (.box 2 0)), (5, .c (.hole (.int .i64)))], [(2, 39, [.hole (.str), .hole (.sl 44), .hole (.sl 78), .hole (.sl 42), .hole (.sl 67), .hole (.sl 47), .hole (.int .i64)])], []⟩ [(.ret, ⟨slotsOf 22 [(4, .c (.hole (.int .i64)))], [], []⟩), (.exit 0, ⟨slotsOf 22 [], [], []⟩)] (.leaf)))) (.leaf))
noncomputable def c_ref07_Head (b n : Nat) : Cx := ⟨Go.Proofs.Try.prog, (Θ b), [23], [], [], [], []⟩
theorem d_ref07_Head (b n : Nat) (x : h_ref07_Head.X T) : denF (c_ref07_Head b n) n Go.Proofs.Try.f16 p_ref07_Head h_ref07_Head o_ref07_Head x = ref07_Head n x := by kernel_rfl
theorem s_ref07_Head (b n : Nat) : PCalls Go.Proofs.Try.prog (Θ b) 16 ⟨h_ref07_Head, o_ref07_Head, ref07_Head n⟩ :=
  func_ok' (C := c_ref07_Head b n) (n := n) (p := p_ref07_Head) (ok_of mixed eqsOk trivial trivial trivial) Go.Proofs.Try.func16 (by kernel_rfl) (by kernel_rfl) (d_ref07_Head b n) (by kernel_rfl)
def h_ref07_in : Shape := ⟨slotsOf 3 [(0, .c (.hole (.int .i64))), (1, .c (.hole (.int .i64))), (2, .c (.hole (.int .i64)))], [], []⟩
def o_ref07_in : List (Ex × Shape) := [(.ret, ⟨slotsOf 1 [(0, .c (.hole (.bool)))], [], []⟩)]
def ref07_in (n : Nat) (x0 : Int × Int × Int) : Option (Bool) :=
  bif decide (x0.2.1 ≤ x0.1) then
    some (decide (x0.1 ≤ x0.2.2))
  else
  some false
def p_ref07_in : Plan := .leaf
noncomputable def c_ref07_in (b n : Nat) : Cx := ⟨Go.Proofs.Try.prog, (Θ b), [23], [], [], [], []⟩
theorem d_ref07_in (b n : Nat) (x : h_ref07_in.X T) : denF (c_ref07_in b n) n Go.Proofs.Try.f28 p_ref07_in h_ref07_in o_ref07_in x = ref07_in n x := by kernel_rfl
theorem s_ref07_in (b n : Nat) : PCalls Go.Proofs.Try.prog (Θ b) 28 ⟨h_ref07_in, o_ref07_in, ref07_in n⟩ :=
  func_ok' (C := c_ref07_in b n) (n := n) (p := p_ref07_in) (ok_of mixed eqsOk trivial trivial trivial) Go.Proofs.Try.func28 (by kernel_rfl) (by kernel_rfl) (d_ref07_in b n) (by kernel_rfl)
def h_ref07_heads : Shape := ⟨slotsOf 1 [(0, .agg [.hole (.str), .hole (.sl 44), .hole (.sl 78), .hole (.sl 42), .hole (.sl 67), .hole (.sl 47), .hole (.int .i64)])], [], []⟩
def o_ref07_heads : List (Ex × Shape) := [(.ret, ⟨slotsOf 2 [(0, .c (.hole (.int .i64))), (1, .c (.hole (.int .i64)))], [], []⟩)]
def ref07_heads (n : Nat) (x0 : ByteArray × (List (ByteArray × Int × Int × Int × Int × Int × Int × Int × Int × Int × Int)) × (List (ByteArray × ByteArray × Int × Int × Int × Int)) × (List (ByteArray × (List ByteArray) × Int)) × (List (List (Bool × List ByteArray))) × (List (ByteArray × ByteArray × Int)) × Int) : Option (Int × Int) :=
  (iterL (Y := (Int × Int) ⊕ (Unit)) n (fun (x1 : Int × ByteArray × (List (ByteArray × Int × Int × Int × Int × Int × Int × Int × Int × Int × Int)) × (List (ByteArray × ByteArray × Int × Int × Int × Int)) × (List (ByteArray × (List ByteArray) × Int)) × (List (List (Bool × List ByteArray))) × (List (ByteArray × ByteArray × Int)) × Int) =>
    let e0 := x1.2.2.1.length
    let e1 := atI (ByteArray.mk #[], 0, 0, 0, 0, 0, 0, 0, 0, 0, 0) x1.2.2.1 x1.1
    let e2 := e1.2
    let e3 := e1.2.2
    let e4 := e1.2.2.2
    let e5 := e1.2.2.2.2
    let e6 := e1.2.2.2.2.2
    let e7 := e1.2.2.2.2.2.2
    let e8 := e1.2.2.2.2.2.2.2
    let e9 := e1.2.2.2.2.2.2.2.2
    let e10 := e1.2.2.2.2.2.2.2.2.2
    bif decide (x1.1 < ((e0 : Nat) : Int)) then
      bif inB x1.1 e0 then
        (ref07_Head n (x1.2.1, x1.2.2.1, x1.2.2.2.1, x1.2.2.2.2.1, x1.2.2.2.2.2.1, x1.2.2.2.2.2.2.1, x1.2.2.2.2.2.2.2, e1.1)).bind fun y2 =>
        bif decide (y2 < x1.1) then
          some (.inr (.inl (71, e1.2.2.2.2.2.2.2.2.2.2)))
        else
        letJ (fun (x12 : Int × Bool × ByteArray × (List (ByteArray × Int × Int × Int × Int × Int × Int × Int × Int × Int × Int)) × (List (ByteArray × ByteArray × Int × Int × Int × Int)) × (List (ByteArray × (List ByteArray) × Int)) × (List (List (Bool × List ByteArray))) × (List (ByteArray × ByteArray × Int)) × Int × ByteArray × Int × Int × Int × Int × Int × Int × Int × Int × Int × Int) =>
          bif x12.2.1 then
            some (.inr (.inl (70, x12.2.2.2.2.2.2.2.2.2.2.2.2.2.2.2.2.2.2.2)))
          else
          some (.inl (wrap64 (x12.1 + 1), x12.2.2.1, x12.2.2.2.1, x12.2.2.2.2.1, x12.2.2.2.2.2.1, x12.2.2.2.2.2.2.1, x12.2.2.2.2.2.2.2.1, x12.2.2.2.2.2.2.2.2.1))) fun J13 =>
        (ref07_in n (e1.2.1, 0, 1000000000)).bind fun y3 =>
        bif !y3 then
          J13 (x1.1, true, x1.2.1, x1.2.2.1, x1.2.2.2.1, x1.2.2.2.2.1, x1.2.2.2.2.2.1, x1.2.2.2.2.2.2.1, x1.2.2.2.2.2.2.2, e1)
        else
        (ref07_in n (e1.2.2.1, 1, 1000000000)).bind fun y4 =>
        bif !y4 then
          J13 (x1.1, true, x1.2.1, x1.2.2.1, x1.2.2.2.1, x1.2.2.2.2.1, x1.2.2.2.2.2.1, x1.2.2.2.2.2.2.1, x1.2.2.2.2.2.2.2, e1)
        else
        (ref07_in n (e1.2.2.2.1, 1, 1000000000)).bind fun y5 =>
        bif !y5 then
          J13 (x1.1, true, x1.2.1, x1.2.2.1, x1.2.2.2.1, x1.2.2.2.2.1, x1.2.2.2.2.2.1, x1.2.2.2.2.2.2.1, x1.2.2.2.2.2.2.2, e1)
        else
        (ref07_in n (e1.2.2.2.2.1, 1, 1000000000)).bind fun y6 =>
        bif !y6 then
          J13 (x1.1, true, x1.2.1, x1.2.2.1, x1.2.2.2.1, x1.2.2.2.2.1, x1.2.2.2.2.2.1, x1.2.2.2.2.2.2.1, x1.2.2.2.2.2.2.2, e1)
        else
        (ref07_in n (e1.2.2.2.2.2.1, 1, 10000)).bind fun y7 =>
        bif !y7 then
          J13 (x1.1, true, x1.2.1, x1.2.2.1, x1.2.2.2.1, x1.2.2.2.2.1, x1.2.2.2.2.2.1, x1.2.2.2.2.2.2.1, x1.2.2.2.2.2.2.2, e1)
        else
        (ref07_in n (e1.2.2.2.2.2.2.1, (-200), 200)).bind fun y8 =>
        bif !y8 then
          J13 (x1.1, true, x1.2.1, x1.2.2.1, x1.2.2.2.1, x1.2.2.2.2.1, x1.2.2.2.2.2.1, x1.2.2.2.2.2.2.1, x1.2.2.2.2.2.2.2, e1)
        else
        (ref07_in n (e1.2.2.2.2.2.2.2.1, 0, 100000)).bind fun y9 =>
        bif !y9 then
          J13 (x1.1, true, x1.2.1, x1.2.2.1, x1.2.2.2.1, x1.2.2.2.2.1, x1.2.2.2.2.2.1, x1.2.2.2.2.2.2.1, x1.2.2.2.2.2.2.2, e1)
        else
        (ref07_in n (e1.2.2.2.2.2.2.2.2.1, 0, 100000)).bind fun y10 =>
        bif !y10 then
          J13 (x1.1, true, x1.2.1, x1.2.2.1, x1.2.2.2.1, x1.2.2.2.2.1, x1.2.2.2.2.2.1, x1.2.2.2.2.2.2.1, x1.2.2.2.2.2.2.2, e1)
        else
        (ref07_in n (e1.2.2.2.2.2.2.2.2.2.1, 1, 6000)).bind fun y11 =>
        J13 (x1.1, !y11, x1.2.1, x1.2.2.1, x1.2.2.2.1, x1.2.2.2.2.1, x1.2.2.2.2.2.1, x1.2.2.2.2.2.2.1, x1.2.2.2.2.2.2.2, e1)
      else
      none
    else
    some (.inr (.inr ()))) (0, x0)).bind (Sum.elim (fun (z14 : Int × Int) =>
    some z14) (fun (z15 : Unit) =>
    some (0, 0)))
def p_ref07_heads : Plan := .two (.leaf) (.two (.two (.leaf) (.one (.loop ⟨slotsOf 82 [(1, .c (.box 1 0)), (4, .c (.hole (.int .i64)))], [(1, 39, [.hole (.str), .hole (.sl 44), .hole (.sl 78), .hole (.sl 42), .hole (.sl 67), .hole (.sl 47), .hole (.int .i64)])], []⟩ [(.ret, ⟨slotsOf 82 [(2, .c (.hole (.int .i64))), (3, .c (.hole (.int .i64)))], [], []⟩), (.exit 0, ⟨slotsOf 82 [], [], []⟩)] (.two (.leaf) (.two (.one (.two (.leaf) (.two (.leaf) (.two (.join ⟨slotsOf 82 [(1, .c (.box 1 0)), (4, .c (.hole (.int .i64))), (5, .c (.box 5 0)), (79, .c (.hole (.bool)))], [(1, 39, [.hole (.str), .hole (.sl 44), .hole (.sl 78), .hole (.sl 42), .hole (.sl 67), .hole (.sl 47), .hole (.int .i64)]), (5, 44, [.hole (.str), .hole (.int .i64), .hole (.int .i64), .hole (.int .i64), .hole (.int .i64), .hole (.int .i64), .hole (.int .i64), .hole (.int .i64), .hole (.int .i64), .hole (.int .i64), .hole (.int .i64)])], []⟩ (.leaf)) (.leaf))))) (.leaf)))))) (.leaf))
noncomputable def c_ref07_heads (b n : Nat) : Cx := ⟨Go.Proofs.Try.prog, (Θ b), [23], [(28, ⟨h_ref07_in, o_ref07_in, ref07_in n⟩), (16, ⟨h_ref07_Head, o_ref07_Head, ref07_Head n⟩)], [], [], []⟩
theorem d_ref07_heads (b n : Nat) (x : h_ref07_heads.X T) : denF (c_ref07_heads b n) n Go.Proofs.Try.f49 p_ref07_heads h_ref07_heads o_ref07_heads x = ref07_heads n x := by kernel_rfl
theorem s_ref07_heads (b n : Nat) : PCalls Go.Proofs.Try.prog (Θ b) 49 ⟨h_ref07_heads, o_ref07_heads, ref07_heads n⟩ :=
  func_ok' (C := c_ref07_heads b n) (n := n) (p := p_ref07_heads) (ok_of mixed eqsOk ⟨s_ref07_in b n, s_ref07_Head b n, trivial⟩ trivial trivial) Go.Proofs.Try.func49 (by kernel_rfl) (by kernel_rfl) (d_ref07_heads b n) (by kernel_rfl)
def h_ref07_Home : Shape := ⟨slotsOf 2 [(0, .agg [.hole (.str), .hole (.sl 44), .hole (.sl 78), .hole (.sl 42), .hole (.sl 67), .hole (.sl 47), .hole (.int .i64)]), (1, .c (.hole (.str)))], [], []⟩
def o_ref07_Home : List (Ex × Shape) := [(.ret, ⟨slotsOf 1 [(0, .c (.hole (.int .i64)))], [], []⟩)]
def ref07_Home (n : Nat) (x0 : ByteArray × (List (ByteArray × Int × Int × Int × Int × Int × Int × Int × Int × Int × Int)) × (List (ByteArray × ByteArray × Int × Int × Int × Int)) × (List (ByteArray × (List ByteArray) × Int)) × (List (List (Bool × List ByteArray))) × (List (ByteArray × ByteArray × Int)) × Int × ByteArray) : Option (Int) :=
  (iterL (Y := (Int) ⊕ (Unit)) n (fun (x1 : ByteArray × Int × ByteArray × (List (ByteArray × Int × Int × Int × Int × Int × Int × Int × Int × Int × Int)) × (List (ByteArray × ByteArray × Int × Int × Int × Int)) × (List (ByteArray × (List ByteArray) × Int)) × (List (List (Bool × List ByteArray))) × (List (ByteArray × ByteArray × Int)) × Int) =>
    let e0 := x1.2.2.2.2.2.1.length
    bif decide (x1.2.1 < ((e0 : Nat) : Int)) then
      bif inB x1.2.1 e0 then
        (ref04_In n (x1.1, (atI (ByteArray.mk #[], [], 0) x1.2.2.2.2.2.1 x1.2.1).2.1)).bind fun y2 =>
        bif y2 then
          some (.inr (.inl x1.2.1))
        else
        some (.inl (x1.1, wrap64 (x1.2.1 + 1), x1.2.2))
      else
      none
    else
    some (.inr (.inr ()))) (x0.2.2.2.2.2.2.2, 0, x0.1, x0.2.1, x0.2.2.1, x0.2.2.2.1, x0.2.2.2.2.1, x0.2.2.2.2.2.1, x0.2.2.2.2.2.2.1)).bind (Sum.elim (fun (z3 : Int) =>
    some z3) (fun (z4 : Unit) =>
    some (-1)))
def p_ref07_Home : Plan := .two (.leaf) (.two (.two (.leaf) (.one (.loop ⟨slotsOf 22 [(1, .c (.hole (.str))), (2, .c (.box 2 0)), (5, .c (.hole (.int .i64)))], [(2, 39, [.hole (.str), .hole (.sl 44), .hole (.sl 78), .hole (.sl 42), .hole (.sl 67), .hole (.sl 47), .hole (.int .i64)])], []⟩ [(.ret, ⟨slotsOf 22 [(4, .c (.hole (.int .i64)))], [], []⟩), (.exit 0, ⟨slotsOf 22 [], [], []⟩)] (.leaf)))) (.leaf))
noncomputable def c_ref07_Home (b n : Nat) : Cx := ⟨Go.Proofs.Try.prog, (Θ b), [23], [(40, ⟨h_ref04_In, o_ref04_In, ref04_In n⟩)], [], [], []⟩
theorem d_ref07_Home (b n : Nat) (x : h_ref07_Home.X T) : denF (c_ref07_Home b n) n Go.Proofs.Try.f19 p_ref07_Home h_ref07_Home o_ref07_Home x = ref07_Home n x := by kernel_rfl
theorem s_ref07_Home (b n : Nat) : PCalls Go.Proofs.Try.prog (Θ b) 19 ⟨h_ref07_Home, o_ref07_Home, ref07_Home n⟩ :=
  func_ok' (C := c_ref07_Home b n) (n := n) (p := p_ref07_Home) (ok_of mixed eqsOk ⟨s_ref04_In b n, trivial⟩ trivial trivial) Go.Proofs.Try.func19 (by kernel_rfl) (by kernel_rfl) (d_ref07_Home b n) (by kernel_rfl)
def h_ref07_foes : Shape := ⟨slotsOf 1 [(0, .agg [.hole (.str), .hole (.sl 44), .hole (.sl 78), .hole (.sl 42), .hole (.sl 67), .hole (.sl 47), .hole (.int .i64)])], [], []⟩
def o_ref07_foes : List (Ex × Shape) := [(.ret, ⟨slotsOf 2 [(0, .c (.hole (.int .i64))), (1, .c (.hole (.int .i64)))], [], []⟩)]
def ref07_foes (n : Nat) (x0 : ByteArray × (List (ByteArray × Int × Int × Int × Int × Int × Int × Int × Int × Int × Int)) × (List (ByteArray × ByteArray × Int × Int × Int × Int)) × (List (ByteArray × (List ByteArray) × Int)) × (List (List (Bool × List ByteArray))) × (List (ByteArray × ByteArray × Int)) × Int) : Option (Int × Int) :=
  (iterL (Y := (Int × Int) ⊕ (Unit)) n (fun (x1 : Int × ByteArray × (List (ByteArray × Int × Int × Int × Int × Int × Int × Int × Int × Int × Int)) × (List (ByteArray × ByteArray × Int × Int × Int × Int)) × (List (ByteArray × (List ByteArray) × Int)) × (List (List (Bool × List ByteArray))) × (List (ByteArray × ByteArray × Int)) × Int) =>
    let e0 := x1.2.2.2.2.2.2.1.length
    let e1 := atI (ByteArray.mk #[], ByteArray.mk #[], 0) x1.2.2.2.2.2.2.1 x1.1
    bif decide (x1.1 < ((e0 : Nat) : Int)) then
      bif inB x1.1 e0 then
        letJ (fun (x4 : Int × Bool × ByteArray × (List (ByteArray × Int × Int × Int × Int × Int × Int × Int × Int × Int × Int)) × (List (ByteArray × ByteArray × Int × Int × Int × Int)) × (List (ByteArray × (List ByteArray) × Int)) × (List (List (Bool × List ByteArray))) × (List (ByteArray × ByteArray × Int)) × Int × ByteArray × ByteArray × Int) =>
          bif x4.2.1 then
            some (.inr (.inl (72, x4.2.2.2.2.2.2.2.2.2.2.2)))
          else
          letJ (fun (x8 : Int × Bool × ByteArray × (List (ByteArray × Int × Int × Int × Int × Int × Int × Int × Int × Int × Int)) × (List (ByteArray × ByteArray × Int × Int × Int × Int)) × (List (ByteArray × (List ByteArray) × Int)) × (List (List (Bool × List ByteArray))) × (List (ByteArray × ByteArray × Int)) × Int × ByteArray × ByteArray × Int) =>
            bif x8.2.1 then
              some (.inr (.inl (75, x8.2.2.2.2.2.2.2.2.2.2.2)))
            else
            some (.inl (wrap64 (x8.1 + 1), x8.2.2.1, x8.2.2.2.1, x8.2.2.2.2.1, x8.2.2.2.2.2.1, x8.2.2.2.2.2.2.1, x8.2.2.2.2.2.2.2.1, x8.2.2.2.2.2.2.2.2.1))) fun J9 =>
          bif strEq x4.2.2.2.2.2.2.2.2.2.1 x4.2.2.2.2.2.2.2.2.2.2.1 then
            J9 (x4.1, true, x4.2.2)
          else
          (ref07_Home n (x4.2.2.1, x4.2.2.2.1, x4.2.2.2.2.1, x4.2.2.2.2.2.1, x4.2.2.2.2.2.2.1, x4.2.2.2.2.2.2.2.1, x4.2.2.2.2.2.2.2.2.1, x4.2.2.2.2.2.2.2.2.2.1)).bind fun y6 =>
          (ref07_Home n (x4.2.2.1, x4.2.2.2.1, x4.2.2.2.2.1, x4.2.2.2.2.2.1, x4.2.2.2.2.2.2.1, x4.2.2.2.2.2.2.2.1, x4.2.2.2.2.2.2.2.2.1, x4.2.2.2.2.2.2.2.2.2.2.1)).bind fun y7 =>
          J9 (x4.1, y6 == y7, x4.2.2)) fun J5 =>
        (ref07_Head n (x1.2.1, x1.2.2.1, x1.2.2.2.1, x1.2.2.2.2.1, x1.2.2.2.2.2.1, x1.2.2.2.2.2.2.1, x1.2.2.2.2.2.2.2, e1.1)).bind fun y2 =>
        bif decide (y2 < 0) then
          J5 (x1.1, true, x1.2.1, x1.2.2.1, x1.2.2.2.1, x1.2.2.2.2.1, x1.2.2.2.2.2.1, x1.2.2.2.2.2.2.1, x1.2.2.2.2.2.2.2, e1)
        else
        (ref07_Head n (x1.2.1, x1.2.2.1, x1.2.2.2.1, x1.2.2.2.2.1, x1.2.2.2.2.2.1, x1.2.2.2.2.2.2.1, x1.2.2.2.2.2.2.2, e1.2.1)).bind fun y3 =>
        J5 (x1.1, decide (y3 < 0), x1.2.1, x1.2.2.1, x1.2.2.2.1, x1.2.2.2.2.1, x1.2.2.2.2.2.1, x1.2.2.2.2.2.2.1, x1.2.2.2.2.2.2.2, e1)
      else
      none
    else
    some (.inr (.inr ()))) (0, x0)).bind (Sum.elim (fun (z10 : Int × Int) =>
    some z10) (fun (z11 : Unit) =>
    some (0, 0)))
def p_ref07_foes : Plan := .two (.leaf) (.two (.two (.leaf) (.one (.loop ⟨slotsOf 50 [(1, .c (.box 1 0)), (4, .c (.hole (.int .i64)))], [(1, 39, [.hole (.str), .hole (.sl 44), .hole (.sl 78), .hole (.sl 42), .hole (.sl 67), .hole (.sl 47), .hole (.int .i64)])], []⟩ [(.ret, ⟨slotsOf 50 [(2, .c (.hole (.int .i64))), (3, .c (.hole (.int .i64)))], [], []⟩), (.exit 0, ⟨slotsOf 50 [], [], []⟩)] (.two (.leaf) (.two (.one (.two (.leaf) (.two (.two (.join ⟨slotsOf 50 [(1, .c (.box 1 0)), (4, .c (.hole (.int .i64))), (5, .c (.box 5 0)), (29, .c (.hole (.bool)))], [(1, 39, [.hole (.str), .hole (.sl 44), .hole (.sl 78), .hole (.sl 42), .hole (.sl 67), .hole (.sl 47), .hole (.int .i64)]), (5, 47, [.hole (.str), .hole (.str), .hole (.int .i64)])], []⟩ (.leaf)) (.leaf)) (.two (.join ⟨slotsOf 50 [(1, .c (.box 1 0)), (4, .c (.hole (.int .i64))), (5, .c (.box 5 0)), (47, .c (.hole (.bool)))], [(1, 39, [.hole (.str), .hole (.sl 44), .hole (.sl 78), .hole (.sl 42), .hole (.sl 67), .hole (.sl 47), .hole (.int .i64)]), (5, 47, [.hole (.str), .hole (.str), .hole (.int .i64)])], []⟩ (.leaf)) (.leaf))))) (.leaf)))))) (.leaf))
noncomputable def c_ref07_foes (b n : Nat) : Cx := ⟨Go.Proofs.Try.prog, (Θ b), [23], [(16, ⟨h_ref07_Head, o_ref07_Head, ref07_Head n⟩), (19, ⟨h_ref07_Home, o_ref07_Home, ref07_Home n⟩)], [], [], []⟩
theorem d_ref07_foes (b n : Nat) (x : h_ref07_foes.X T) : denF (c_ref07_foes b n) n Go.Proofs.Try.f53 p_ref07_foes h_ref07_foes o_ref07_foes x = ref07_foes n x := by kernel_rfl
theorem s_ref07_foes (b n : Nat) : PCalls Go.Proofs.Try.prog (Θ b) 53 ⟨h_ref07_foes, o_ref07_foes, ref07_foes n⟩ :=
  func_ok' (C := c_ref07_foes b n) (n := n) (p := p_ref07_foes) (ok_of mixed eqsOk ⟨s_ref07_Head b n, s_ref07_Home b n, trivial⟩ trivial trivial) Go.Proofs.Try.func53 (by kernel_rfl) (by kernel_rfl) (d_ref07_foes b n) (by kernel_rfl)
def h_ref07_Phase : Shape := ⟨slotsOf 2 [(0, .agg [.hole (.str), .hole (.sl 44), .hole (.sl 78), .hole (.sl 42), .hole (.sl 67), .hole (.sl 47), .hole (.int .i64)]), (1, .c (.hole (.str)))], [], []⟩
def o_ref07_Phase : List (Ex × Shape) := [(.ret, ⟨slotsOf 1 [(0, .c (.hole (.int .i64)))], [], []⟩)]
def ref07_Phase (n : Nat) (x0 : ByteArray × (List (ByteArray × Int × Int × Int × Int × Int × Int × Int × Int × Int × Int)) × (List (ByteArray × ByteArray × Int × Int × Int × Int)) × (List (ByteArray × (List ByteArray) × Int)) × (List (List (Bool × List ByteArray))) × (List (ByteArray × ByteArray × Int)) × Int × ByteArray) : Option (Int) :=
  (iterL (Y := (Int) ⊕ (Unit)) n (fun (x1 : ByteArray × Int × ByteArray × (List (ByteArray × Int × Int × Int × Int × Int × Int × Int × Int × Int × Int)) × (List (ByteArray × ByteArray × Int × Int × Int × Int)) × (List (ByteArray × (List ByteArray) × Int)) × (List (List (Bool × List ByteArray))) × (List (ByteArray × ByteArray × Int)) × Int) =>
    let e0 := x1.2.2.2.2.2.1.length
    bif decide (x1.2.1 < ((e0 : Nat) : Int)) then
      bif inB x1.2.1 e0 then
        bif strEq (atI (ByteArray.mk #[], [], 0) x1.2.2.2.2.2.1 x1.2.1).1 x1.1 then
          some (.inr (.inl x1.2.1))
        else
        some (.inl (x1.1, wrap64 (x1.2.1 + 1), x1.2.2))
      else
      none
    else
    some (.inr (.inr ()))) (x0.2.2.2.2.2.2.2, 0, x0.1, x0.2.1, x0.2.2.1, x0.2.2.2.1, x0.2.2.2.2.1, x0.2.2.2.2.2.1, x0.2.2.2.2.2.2.1)).bind (Sum.elim (fun (z2 : Int) =>
    some z2) (fun (z3 : Unit) =>
    some (-1)))
def p_ref07_Phase : Plan := .two (.leaf) (.two (.two (.leaf) (.one (.loop ⟨slotsOf 22 [(1, .c (.hole (.str))), (2, .c (.box 2 0)), (5, .c (.hole (.int .i64)))], [(2, 39, [.hole (.str), .hole (.sl 44), .hole (.sl 78), .hole (.sl 42), .hole (.sl 67), .hole (.sl 47), .hole (.int .i64)])], []⟩ [(.ret, ⟨slotsOf 22 [(4, .c (.hole (.int .i64)))], [], []⟩), (.exit 0, ⟨slotsOf 22 [], [], []⟩)] (.leaf)))) (.leaf))
noncomputable def c_ref07_Phase (b n : Nat) : Cx := ⟨Go.Proofs.Try.prog, (Θ b), [23], [], [], [], []⟩
theorem d_ref07_Phase (b n : Nat) (x : h_ref07_Phase.X T) : denF (c_ref07_Phase b n) n Go.Proofs.Try.f18 p_ref07_Phase h_ref07_Phase o_ref07_Phase x = ref07_Phase n x := by kernel_rfl
theorem s_ref07_Phase (b n : Nat) : PCalls Go.Proofs.Try.prog (Θ b) 18 ⟨h_ref07_Phase, o_ref07_Phase, ref07_Phase n⟩ :=
  func_ok' (C := c_ref07_Phase b n) (n := n) (p := p_ref07_Phase) (ok_of mixed eqsOk trivial trivial trivial) Go.Proofs.Try.func18 (by kernel_rfl) (by kernel_rfl) (d_ref07_Phase b n) (by kernel_rfl)
def h_ref07_rings : Shape := ⟨slotsOf 1 [(0, .agg [.hole (.str), .hole (.sl 44), .hole (.sl 78), .hole (.sl 42), .hole (.sl 67), .hole (.sl 47), .hole (.int .i64)])], [], []⟩
def o_ref07_rings : List (Ex × Shape) := [(.ret, ⟨slotsOf 2 [(0, .c (.hole (.int .i64))), (1, .c (.hole (.int .i64)))], [], []⟩)]
def ref07_rings (n : Nat) (x0 : ByteArray × (List (ByteArray × Int × Int × Int × Int × Int × Int × Int × Int × Int × Int)) × (List (ByteArray × ByteArray × Int × Int × Int × Int)) × (List (ByteArray × (List ByteArray) × Int)) × (List (List (Bool × List ByteArray))) × (List (ByteArray × ByteArray × Int)) × Int) : Option (Int × Int) :=
  (iterL (Y := (Int × Int) ⊕ (ByteArray × (List (ByteArray × Int × Int × Int × Int × Int × Int × Int × Int × Int × Int)) × (List (ByteArray × ByteArray × Int × Int × Int × Int)) × (List (ByteArray × (List ByteArray) × Int)) × (List (List (Bool × List ByteArray))) × (List (ByteArray × ByteArray × Int)) × Int × List ByteArray)) n (fun (x25 : Int × ByteArray × (List (ByteArray × Int × Int × Int × Int × Int × Int × Int × Int × Int × Int)) × (List (ByteArray × ByteArray × Int × Int × Int × Int)) × (List (ByteArray × (List ByteArray) × Int)) × (List (List (Bool × List ByteArray))) × (List (ByteArray × ByteArray × Int)) × Int × List ByteArray) =>
    let e0 := x25.2.2.2.2.2.1.length
    let e1 := atI [] x25.2.2.2.2.2.1 x25.1
    let e2 := ((e1.length : Nat) : Int)
    bif decide (x25.1 < ((e0 : Nat) : Int)) then
      bif inB x25.1 e0 then
        letJ (fun (x26 : Int × (List (Bool × List ByteArray)) × Bool × ByteArray × (List (ByteArray × Int × Int × Int × Int × Int × Int × Int × Int × Int × Int)) × (List (ByteArray × ByteArray × Int × Int × Int × Int)) × (List (ByteArray × (List ByteArray) × Int)) × (List (List (Bool × List ByteArray))) × (List (ByteArray × ByteArray × Int)) × Int × List ByteArray) =>
          bif x26.2.2.1 then
            some (.inr (.inl (74, x26.2.2.2.2.2.2.2.2.2.1)))
          else
          (iterL (Y := (Int × Int) ⊕ (Int × ByteArray × (List (ByteArray × Int × Int × Int × Int × Int × Int × Int × Int × Int × Int)) × (List (ByteArray × ByteArray × Int × Int × Int × Int)) × (List (ByteArray × (List ByteArray) × Int)) × (List (List (Bool × List ByteArray))) × (List (ByteArray × ByteArray × Int)) × Int × List ByteArray)) n (fun (x28 : Int × (List (Bool × List ByteArray)) × Int × ByteArray × (List (ByteArray × Int × Int × Int × Int × Int × Int × Int × Int × Int × Int)) × (List (ByteArray × ByteArray × Int × Int × Int × Int)) × (List (ByteArray × (List ByteArray) × Int)) × (List (List (Bool × List ByteArray))) × (List (ByteArray × ByteArray × Int)) × Int × List ByteArray) =>
            let e3 := x28.2.1.length
            let e4 := inB x28.2.2.1 e3
            let e5 := ((List.length (atI (false, []) x28.2.1 x28.2.2.1).2 : Nat) : Int)
            bif decide (x28.2.2.1 < ((e3 : Nat) : Int)) then
              letJ (fun (x29 : Int × (List (Bool × List ByteArray)) × Int × Bool × ByteArray × (List (ByteArray × Int × Int × Int × Int × Int × Int × Int × Int × Int × Int)) × (List (ByteArray × ByteArray × Int × Int × Int × Int)) × (List (ByteArray × (List ByteArray) × Int)) × (List (List (Bool × List ByteArray))) × (List (ByteArray × ByteArray × Int)) × Int × List ByteArray) =>
                bif x29.2.2.2.1 then
                  some (.inr (.inl (74, x29.2.2.2.2.2.2.2.2.2.2.1)))
                else
                (iterL (Y := (Int × Int) ⊕ (Int × (List (Bool × List ByteArray)) × Int × ByteArray × (List (ByteArray × Int × Int × Int × Int × Int × Int × Int × Int × Int × Int)) × (List (ByteArray × ByteArray × Int × Int × Int × Int)) × (List (ByteArray × (List ByteArray) × Int)) × (List (List (Bool × List ByteArray))) × (List (ByteArray × ByteArray × Int)) × Int × List ByteArray)) n (fun (x31 : Int × (List (Bool × List ByteArray)) × Int × Int × ByteArray × (List (ByteArray × Int × Int × Int × Int × Int × Int × Int × Int × Int × Int)) × (List (ByteArray × ByteArray × Int × Int × Int × Int)) × (List (ByteArray × (List ByteArray) × Int)) × (List (List (Bool × List ByteArray))) × (List (ByteArray × ByteArray × Int)) × Int × List ByteArray) =>
                  let e6 := inB x31.2.2.1 x31.2.1.length
                  let e7 := (atI (false, []) x31.2.1 x31.2.2.1).2
                  let e8 := e7.length
                  let e9 := atI (ByteArray.mk #[]) e7 x31.2.2.2.1
                  let e10 := e9 :: []
                  bif e6 then
                    bif decide (x31.2.2.2.1 < ((e8 : Nat) : Int)) then
                      bif e6 then
                        bif inB x31.2.2.2.1 e8 then
                          (ref07_Phase n (x31.2.2.2.2.1, x31.2.2.2.2.2.1, x31.2.2.2.2.2.2.1, x31.2.2.2.2.2.2.2.1, x31.2.2.2.2.2.2.2.2.1, x31.2.2.2.2.2.2.2.2.2.1, x31.2.2.2.2.2.2.2.2.2.2.1, e9)).bind fun y32 =>
                          bif decide (y32 < 0) then
                            some (.inr (.inl (72, x31.2.2.2.2.2.2.2.2.2.2.1)))
                          else
                          (ref04_In n (e9, x31.2.2.2.2.2.2.2.2.2.2.2)).bind fun y33 =>
                          bif y33 then
                            some (.inr (.inl (71, x31.2.2.2.2.2.2.2.2.2.2.1)))
                          else
                          bif fitB (x31.2.2.2.2.2.2.2.2.2.2.2.length + e10.length) 16 then
                            some (.inl (x31.1, x31.2.1, x31.2.2.1, wrap64 (x31.2.2.2.1 + 1), x31.2.2.2.2.1, x31.2.2.2.2.2.1, x31.2.2.2.2.2.2.1, x31.2.2.2.2.2.2.2.1, x31.2.2.2.2.2.2.2.2.1, x31.2.2.2.2.2.2.2.2.2.1, x31.2.2.2.2.2.2.2.2.2.2.1, x31.2.2.2.2.2.2.2.2.2.2.2 ++ e10))
                          else
                          none
                        else
                        none
                      else
                      none
                    else
                    some (.inr (.inr (x31.1, x31.2.1, x31.2.2.1, x31.2.2.2.2)))
                  else
                  none) (x29.1, x29.2.1, x29.2.2.1, 0, x29.2.2.2.2)).bind (Sum.elim (fun (z34 : Int × Int) =>
                  some (.inr (.inl z34))) (fun (z35 : Int × (List (Bool × List ByteArray)) × Int × ByteArray × (List (ByteArray × Int × Int × Int × Int × Int × Int × Int × Int × Int × Int)) × (List (ByteArray × ByteArray × Int × Int × Int × Int)) × (List (ByteArray × (List ByteArray) × Int)) × (List (List (Bool × List ByteArray))) × (List (ByteArray × ByteArray × Int)) × Int × List ByteArray) =>
                  some (.inl (z35.1, z35.2.1, wrap64 (z35.2.2.1 + 1), z35.2.2.2))))) fun J30 =>
              bif e4 then
                bif decide (e5 < 1) then
                  J30 (x28.1, x28.2.1, x28.2.2.1, true, x28.2.2.2)
                else
                bif e4 then
                  J30 (x28.1, x28.2.1, x28.2.2.1, decide (4 < e5), x28.2.2.2)
                else
                none
              else
              none
            else
            some (.inr (.inr (x28.1, x28.2.2.2)))) (x26.1, x26.2.1, 0, x26.2.2.2)).bind (Sum.elim (fun (z36 : Int × Int) =>
            some (.inr (.inl z36))) (fun (z37 : Int × ByteArray × (List (ByteArray × Int × Int × Int × Int × Int × Int × Int × Int × Int × Int)) × (List (ByteArray × ByteArray × Int × Int × Int × Int)) × (List (ByteArray × (List ByteArray) × Int)) × (List (List (Bool × List ByteArray))) × (List (ByteArray × ByteArray × Int)) × Int × List ByteArray) =>
            some (.inl (wrap64 (z37.1 + 1), z37.2))))) fun J27 =>
        bif decide (e2 < 1) then
          J27 (x25.1, e1, true, x25.2)
        else
        J27 (x25.1, e1, decide (2 < e2), x25.2)
      else
      none
    else
    some (.inr (.inr x25.2))) (0, x0.1, x0.2.1, x0.2.2.1, x0.2.2.2.1, x0.2.2.2.2.1, x0.2.2.2.2.2.1, x0.2.2.2.2.2.2, [])).bind (Sum.elim (fun (z38 : Int × Int) =>
    some z38) (fun (z39 : ByteArray × (List (ByteArray × Int × Int × Int × Int × Int × Int × Int × Int × Int × Int)) × (List (ByteArray × ByteArray × Int × Int × Int × Int)) × (List (ByteArray × (List ByteArray) × Int)) × (List (List (Bool × List ByteArray))) × (List (ByteArray × ByteArray × Int)) × Int × List ByteArray) =>
    (iterL (Y := (Int × Int) ⊕ (Unit)) n (fun (x40 : Int × ByteArray × (List (ByteArray × Int × Int × Int × Int × Int × Int × Int × Int × Int × Int)) × (List (ByteArray × ByteArray × Int × Int × Int × Int)) × (List (ByteArray × (List ByteArray) × Int)) × (List (List (Bool × List ByteArray))) × (List (ByteArray × ByteArray × Int)) × Int × List ByteArray) =>
      let e11 := x40.2.2.2.2.1.length
      let e12 := inB x40.1 e11
      let e13 := atI (ByteArray.mk #[], [], 0) x40.2.2.2.2.1 x40.1
      bif decide (x40.1 < ((e11 : Nat) : Int)) then
        bif e12 then
          (ref04_In n (e13.1, x40.2.2.2.2.2.2.2.2)).bind fun y41 =>
          bif !y41 then
            bif e12 then
              some (.inr (.inl (74, e13.2.2)))
            else
            none
          else
          some (.inl (wrap64 (x40.1 + 1), x40.2))
        else
        none
      else
      some (.inr (.inr ()))) (0, z39)).bind (Sum.elim (fun (z42 : Int × Int) =>
      some z42) (fun (z43 : Unit) =>
      some (0, 0)))))
def p_ref07_rings : Plan := .two (.leaf) (.two (.leaf) (.two (.two (.leaf) (.one (.loop ⟨slotsOf 113 [(1, .c (.box 1 0)), (4, .c (.row 90)), (5, .c (.hole (.int .i64)))], [(1, 39, [.hole (.str), .hole (.sl 44), .hole (.sl 78), .hole (.sl 42), .hole (.sl 67), .hole (.sl 47), .hole (.int .i64)])], [(90, 9)]⟩ [(.ret, ⟨slotsOf 113 [(2, .c (.hole (.int .i64))), (3, .c (.hole (.int .i64)))], [], []⟩), (.exit 0, ⟨slotsOf 113 [(1, .c (.box 1 0)), (4, .c (.row 90))], [(1, 39, [.hole (.str), .hole (.sl 44), .hole (.sl 78), .hole (.sl 42), .hole (.sl 67), .hole (.sl 47), .hole (.int .i64)])], [(90, 9)]⟩)] (.two (.leaf) (.two (.one (.two (.leaf) (.two (.two (.join ⟨slotsOf 113 [(1, .c (.box 1 0)), (4, .c (.row 90)), (5, .c (.hole (.int .i64))), (6, .c (.hole (.sl 69))), (31, .c (.hole (.bool)))], [(1, 39, [.hole (.str), .hole (.sl 44), .hole (.sl 78), .hole (.sl 42), .hole (.sl 67), .hole (.sl 47), .hole (.int .i64)])], [(90, 9)]⟩ (.leaf)) (.leaf)) (.two (.leaf) (.one (.loop ⟨slotsOf 113 [(1, .c (.box 1 0)), (4, .c (.row 90)), (5, .c (.hole (.int .i64))), (6, .c (.hole (.sl 69))), (7, .c (.hole (.int .i64)))], [(1, 39, [.hole (.str), .hole (.sl 44), .hole (.sl 78), .hole (.sl 42), .hole (.sl 67), .hole (.sl 47), .hole (.int .i64)])], [(90, 9)]⟩ [(.ret, ⟨slotsOf 113 [(2, .c (.hole (.int .i64))), (3, .c (.hole (.int .i64)))], [], []⟩), (.exit 2, ⟨slotsOf 113 [(1, .c (.box 1 0)), (4, .c (.row 90)), (5, .c (.hole (.int .i64)))], [(1, 39, [.hole (.str), .hole (.sl 44), .hole (.sl 78), .hole (.sl 42), .hole (.sl 67), .hole (.sl 47), .hole (.int .i64)])], [(90, 9)]⟩)] (.two (.leaf) (.two (.one (.two (.two (.join ⟨slotsOf 113 [(1, .c (.box 1 0)), (4, .c (.row 90)), (5, .c (.hole (.int .i64))), (6, .c (.hole (.sl 69))), (7, .c (.hole (.int .i64))), (55, .c (.hole (.bool)))], [(1, 39, [.hole (.str), .hole (.sl 44), .hole (.sl 78), .hole (.sl 42), .hole (.sl 67), .hole (.sl 47), .hole (.int .i64)])], [(90, 9)]⟩ (.leaf)) (.leaf)) (.two (.leaf) (.one (.loop ⟨slotsOf 113 [(1, .c (.box 1 0)), (4, .c (.row 90)), (5, .c (.hole (.int .i64))), (6, .c (.hole (.sl 69))), (7, .c (.hole (.int .i64))), (8, .c (.hole (.int .i64)))], [(1, 39, [.hole (.str), .hole (.sl 44), .hole (.sl 78), .hole (.sl 42), .hole (.sl 67), .hole (.sl 47), .hole (.int .i64)])], [(90, 9)]⟩ [(.ret, ⟨slotsOf 113 [(2, .c (.hole (.int .i64))), (3, .c (.hole (.int .i64)))], [], []⟩), (.exit 4, ⟨slotsOf 113 [(1, .c (.box 1 0)), (4, .c (.row 90)), (5, .c (.hole (.int .i64))), (6, .c (.hole (.sl 69))), (7, .c (.hole (.int .i64)))], [(1, 39, [.hole (.str), .hole (.sl 44), .hole (.sl 78), .hole (.sl 42), .hole (.sl 67), .hole (.sl 47), .hole (.int .i64)])], [(90, 9)]⟩)] (.leaf)))))) (.leaf))))))))) (.leaf)))))) (.two (.two (.leaf) (.one (.loop ⟨slotsOf 113 [(1, .c (.box 1 0)), (4, .c (.row 90)), (10, .c (.hole (.int .i64)))], [(1, 39, [.hole (.str), .hole (.sl 44), .hole (.sl 78), .hole (.sl 42), .hole (.sl 67), .hole (.sl 47), .hole (.int .i64)])], [(90, 9)]⟩ [(.ret, ⟨slotsOf 113 [(2, .c (.hole (.int .i64))), (3, .c (.hole (.int .i64)))], [], []⟩), (.exit 6, ⟨slotsOf 113 [], [], []⟩)] (.leaf)))) (.leaf))))
noncomputable def c_ref07_rings (b n : Nat) : Cx := ⟨Go.Proofs.Try.prog, (Θ b), [23], [(40, ⟨h_ref04_In, o_ref04_In, ref04_In n⟩), (18, ⟨h_ref07_Phase, o_ref07_Phase, ref07_Phase n⟩)], [], [], []⟩
theorem d_ref07_rings (b n : Nat) (x : h_ref07_rings.X T) : denF (c_ref07_rings b n) n Go.Proofs.Try.f52 p_ref07_rings h_ref07_rings o_ref07_rings x = ref07_rings n x := by kernel_rfl
theorem s_ref07_rings (b n : Nat) : PCalls Go.Proofs.Try.prog (Θ b) 52 ⟨h_ref07_rings, o_ref07_rings, ref07_rings n⟩ :=
  func_ok' (C := c_ref07_rings b n) (n := n) (p := p_ref07_rings) (ok_of mixed eqsOk ⟨s_ref04_In b n, s_ref07_Phase b n, trivial⟩ trivial trivial) Go.Proofs.Try.func52 (by kernel_rfl) (by kernel_rfl) (d_ref07_rings b n) (by kernel_rfl)
end Go.Proofs.Ytbcejiobmeglgaa.Fn
