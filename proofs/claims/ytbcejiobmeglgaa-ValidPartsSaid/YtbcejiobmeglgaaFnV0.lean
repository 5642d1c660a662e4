/- Functions of the program, each as a plain function, and that the machine does what it says. -/
import Derived.Test.YtbcejiobmeglgaaAwake07
namespace Go.Proofs.Ytbcejiobmeglgaa.Fn
set_option linter.unusedVariables false
set_option maxRecDepth 100000
open Go Go.RowKit Go.Den
def h_law06_strings : Shape := ⟨slotsOf 1 [(0, .c (.hole (.sl 9)))], [], []⟩
def o_law06_strings : List (Ex × Shape) := [(.ret, ⟨slotsOf 1 [(0, .c (.hole (.bool)))], [], []⟩)]
def law06_strings (n : Nat) (x0 : List ByteArray) : Option (Bool) :=
  (iterL (Y := (Bool) ⊕ (List ByteArray)) n (fun (x1 : (List ByteArray) × Int) =>
    letJ (fun (x2 : (List ByteArray) × Int × Bool) =>
      bif x2.2.2 then
        bif inB x2.2.1 x2.1.length then
          bif decide (100 < ((ByteArray.size (atI (ByteArray.mk #[]) x2.1 x2.2.1) : Nat) : Int)) then
            some (.inr (.inl false))
          else
          some (.inl (x2.1, wrap64 (x2.2.1 + 1)))
        else
        none
      else
      some (.inr (.inr x2.1))) fun J3 =>
    bif decide (x1.2 < ((x1.1.length : Nat) : Int)) then
      J3 (x1.1, x1.2, decide (x1.2 < 50))
    else
    J3 (x1.1, x1.2, false)) (x0, 0)).bind (Sum.elim (fun (z4 : Bool) =>
    some z4) (fun (z5 : List ByteArray) =>
    some (decide (((z5.length : Nat) : Int) ≤ 50))))
def p_law06_strings : Plan := .two (.leaf) (.two (.two (.leaf) (.one (.loop ⟨slotsOf 23 [(0, .c (.hole (.sl 9))), (3, .c (.hole (.int .i64)))], [], []⟩ [(.ret, ⟨slotsOf 23 [(2, .c (.hole (.bool)))], [], []⟩), (.exit 0, ⟨slotsOf 23 [(0, .c (.hole (.sl 9)))], [], []⟩)] (.two (.two (.join ⟨slotsOf 23 [(0, .c (.hole (.sl 9))), (3, .c (.hole (.int .i64))), (11, .c (.hole (.bool)))], [], []⟩ (.leaf)) (.leaf)) (.leaf))))) (.leaf))
noncomputable def c_law06_strings (b n : Nat) : Cx := ⟨Go.Proofs.Try.prog, (Θ b), [23], [], [], [], []⟩
theorem d_law06_strings (b n : Nat) (x : h_law06_strings.X T) : denF (c_law06_strings b n) n Go.Proofs.Try.f21 p_law06_strings h_law06_strings o_law06_strings x = law06_strings n x := by kernel_rfl
theorem s_law06_strings (b n : Nat) : PCalls Go.Proofs.Try.prog (Θ b) 21 ⟨h_law06_strings, o_law06_strings, law06_strings n⟩ :=
  func_ok' (C := c_law06_strings b n) (n := n) (p := p_law06_strings) (ok_of mixed eqsOk trivial trivial trivial) Go.Proofs.Try.func21 (by kernel_rfl) (by kernel_rfl) (d_law06_strings b n) (by kernel_rfl)
def h_law06_node : Shape := ⟨slotsOf 1 [(0, .agg [.hole (.str), .hole (.sl 44), .hole (.sl 78), .hole (.sl 42), .hole (.sl 67), .hole (.sl 47), .hole (.int .i64)])], [], []⟩
def o_law06_node : List (Ex × Shape) := [(.ret, ⟨slotsOf 1 [(0, .c (.hole (.bool)))], [], []⟩)]
def law06_node (n : Nat) (x0 : ByteArray × (List (ByteArray × Int × Int × Int × Int × Int × Int × Int × Int × Int × Int)) × (List (ByteArray × ByteArray × Int × Int × Int × Int)) × (List (ByteArray × (List ByteArray) × Int)) × (List (List (Bool × List ByteArray))) × (List (ByteArray × ByteArray × Int)) × Int) : Option (Bool) :=
  letJ (fun (x1 : Bool × ByteArray × (List (ByteArray × Int × Int × Int × Int × Int × Int × Int × Int × Int × Int)) × (List (ByteArray × ByteArray × Int × Int × Int × Int)) × (List (ByteArray × (List ByteArray) × Int)) × (List (List (Bool × List ByteArray))) × (List (ByteArray × ByteArray × Int)) × Int) =>
    bif x1.1 then
      some false
    else
    (iterL (Y := (ByteArray × (List (ByteArray × Int × Int × Int × Int × Int × Int × Int × Int × Int × Int)) × (List (ByteArray × ByteArray × Int × Int × Int × Int)) × (List (ByteArray × (List ByteArray) × Int)) × (List (List (Bool × List ByteArray))) × (List (ByteArray × ByteArray × Int)) × Int × List ByteArray)) n (fun (x3 : Int × ByteArray × (List (ByteArray × Int × Int × Int × Int × Int × Int × Int × Int × Int × Int)) × (List (ByteArray × ByteArray × Int × Int × Int × Int)) × (List (ByteArray × (List ByteArray) × Int)) × (List (List (Bool × List ByteArray))) × (List (ByteArray × ByteArray × Int)) × Int × List ByteArray) =>
      let e0 := x3.2.2.1.length
      let e1 := (atI (ByteArray.mk #[], 0, 0, 0, 0, 0, 0, 0, 0, 0, 0) x3.2.2.1 x3.1).1 :: []
      bif decide (x3.1 < ((e0 : Nat) : Int)) then
        bif inB x3.1 e0 then
          bif fitB (x3.2.2.2.2.2.2.2.2.length + e1.length) 16 then
            some (.inl (wrap64 (x3.1 + 1), x3.2.1, x3.2.2.1, x3.2.2.2.1, x3.2.2.2.2.1, x3.2.2.2.2.2.1, x3.2.2.2.2.2.2.1, x3.2.2.2.2.2.2.2.1, x3.2.2.2.2.2.2.2.2 ++ e1))
          else
          none
        else
        none
      else
      some (.inr x3.2)) (0, x1.2.1, x1.2.2.1, x1.2.2.2.1, x1.2.2.2.2.1, x1.2.2.2.2.2.1, x1.2.2.2.2.2.2.1, x1.2.2.2.2.2.2.2, x1.2.1 :: [])).bind fun (z4 : ByteArray × (List (ByteArray × Int × Int × Int × Int × Int × Int × Int × Int × Int × Int)) × (List (ByteArray × ByteArray × Int × Int × Int × Int)) × (List (ByteArray × (List ByteArray) × Int)) × (List (List (Bool × List ByteArray))) × (List (ByteArray × ByteArray × Int)) × Int × List ByteArray) =>
      let e2 := z4.2.2.2.2.2.2.2.length
      bif cutOk none (some (mn ((e2 : Nat) : Int) 50)) e2 then
        (law06_strings n (cutList none (some (mn ((e2 : Nat) : Int) 50)) z4.2.2.2.2.2.2.2)).bind fun y5 =>
        bif !y5 then
          some false
        else
        (iterL (Y := (Bool) ⊕ (ByteArray × (List (ByteArray × Int × Int × Int × Int × Int × Int × Int × Int × Int × Int)) × (List (ByteArray × ByteArray × Int × Int × Int × Int)) × (List (ByteArray × (List ByteArray) × Int)) × (List (List (Bool × List ByteArray))) × (List (ByteArray × ByteArray × Int)) × Int)) n (fun (x6 : Int × ByteArray × (List (ByteArray × Int × Int × Int × Int × Int × Int × Int × Int × Int × Int)) × (List (ByteArray × ByteArray × Int × Int × Int × Int)) × (List (ByteArray × (List ByteArray) × Int)) × (List (List (Bool × List ByteArray))) × (List (ByteArray × ByteArray × Int)) × Int) =>
          let e3 := x6.2.2.2.1.length
          let e4 := inB x6.1 e3
          let e5 := atI (ByteArray.mk #[], ByteArray.mk #[], 0, 0, 0, 0) x6.2.2.2.1 x6.1
          bif decide (x6.1 < ((e3 : Nat) : Int)) then
            bif e4 then
              bif e4 then
                (law06_strings n (e5.1 :: (e5.2.1 :: []))).bind fun y7 =>
                bif !y7 then
                  some (.inr (.inl false))
                else
                some (.inl (wrap64 (x6.1 + 1), x6.2))
              else
              none
            else
            none
          else
          some (.inr (.inr x6.2))) (0, z4.1, z4.2.1, z4.2.2.1, z4.2.2.2.1, z4.2.2.2.2.1, z4.2.2.2.2.2.1, z4.2.2.2.2.2.2.1)).bind (Sum.elim (fun (z8 : Bool) =>
          some z8) (fun (z9 : ByteArray × (List (ByteArray × Int × Int × Int × Int × Int × Int × Int × Int × Int × Int)) × (List (ByteArray × ByteArray × Int × Int × Int × Int)) × (List (ByteArray × (List ByteArray) × Int)) × (List (List (Bool × List ByteArray))) × (List (ByteArray × ByteArray × Int)) × Int) =>
          (iterL (Y := (Bool) ⊕ (ByteArray × (List (ByteArray × Int × Int × Int × Int × Int × Int × Int × Int × Int × Int)) × (List (ByteArray × ByteArray × Int × Int × Int × Int)) × (List (ByteArray × (List ByteArray) × Int)) × (List (List (Bool × List ByteArray))) × (List (ByteArray × ByteArray × Int)) × Int)) n (fun (x10 : Int × ByteArray × (List (ByteArray × Int × Int × Int × Int × Int × Int × Int × Int × Int × Int)) × (List (ByteArray × ByteArray × Int × Int × Int × Int)) × (List (ByteArray × (List ByteArray) × Int)) × (List (List (Bool × List ByteArray))) × (List (ByteArray × ByteArray × Int)) × Int) =>
            let e6 := x10.2.2.2.2.1.length
            let e7 := inB x10.1 e6
            let e8 := atI (ByteArray.mk #[], [], 0) x10.2.2.2.2.1 x10.1
            bif decide (x10.1 < ((e6 : Nat) : Int)) then
              letJ (fun (x13 : Int × Bool × ByteArray × (List (ByteArray × Int × Int × Int × Int × Int × Int × Int × Int × Int × Int)) × (List (ByteArray × ByteArray × Int × Int × Int × Int)) × (List (ByteArray × (List ByteArray) × Int)) × (List (List (Bool × List ByteArray))) × (List (ByteArray × ByteArray × Int)) × Int) =>
                bif x13.2.1 then
                  some (.inr (.inl false))
                else
                some (.inl (wrap64 (x13.1 + 1), x13.2.2))) fun J14 =>
              bif e7 then
                (law06_strings n (e8.1 :: [])).bind fun y11 =>
                bif !y11 then
                  J14 (x10.1, true, x10.2)
                else
                bif e7 then
                  (law06_strings n e8.2.1).bind fun y12 =>
                  J14 (x10.1, !y12, x10.2)
                else
                none
              else
              none
            else
            some (.inr (.inr x10.2))) (0, z9)).bind (Sum.elim (fun (z15 : Bool) =>
            some z15) (fun (z16 : ByteArray × (List (ByteArray × Int × Int × Int × Int × Int × Int × Int × Int × Int × Int)) × (List (ByteArray × ByteArray × Int × Int × Int × Int)) × (List (ByteArray × (List ByteArray) × Int)) × (List (List (Bool × List ByteArray))) × (List (ByteArray × ByteArray × Int)) × Int) =>
            (iterL (Y := (Bool) ⊕ (ByteArray × (List (ByteArray × Int × Int × Int × Int × Int × Int × Int × Int × Int × Int)) × (List (ByteArray × ByteArray × Int × Int × Int × Int)) × (List (ByteArray × (List ByteArray) × Int)) × (List (List (Bool × List ByteArray))) × (List (ByteArray × ByteArray × Int)) × Int)) n (fun (x17 : Int × ByteArray × (List (ByteArray × Int × Int × Int × Int × Int × Int × Int × Int × Int × Int)) × (List (ByteArray × ByteArray × Int × Int × Int × Int)) × (List (ByteArray × (List ByteArray) × Int)) × (List (List (Bool × List ByteArray))) × (List (ByteArray × ByteArray × Int)) × Int) =>
              let e9 := x17.2.2.2.2.2.1.length
              bif decide (x17.1 < ((e9 : Nat) : Int)) then
                bif inB x17.1 e9 then
                  bif decide (5 < ((List.length (atI [] x17.2.2.2.2.2.1 x17.1) : Nat) : Int)) then
                    some (.inr (.inl false))
                  else
                  (iterL (Y := (Bool) ⊕ (Int × ByteArray × (List (ByteArray × Int × Int × Int × Int × Int × Int × Int × Int × Int × Int)) × (List (ByteArray × ByteArray × Int × Int × Int × Int)) × (List (ByteArray × (List ByteArray) × Int)) × (List (List (Bool × List ByteArray))) × (List (ByteArray × ByteArray × Int)) × Int)) n (fun (x18 : Int × Int × ByteArray × (List (ByteArray × Int × Int × Int × Int × Int × Int × Int × Int × Int × Int)) × (List (ByteArray × ByteArray × Int × Int × Int × Int)) × (List (ByteArray × (List ByteArray) × Int)) × (List (List (Bool × List ByteArray))) × (List (ByteArray × ByteArray × Int)) × Int) =>
                    let e10 := inB x18.1 x18.2.2.2.2.2.2.1.length
                    let e11 := atI [] x18.2.2.2.2.2.2.1 x18.1
                    let e12 := e11.length
                    bif e10 then
                      bif decide (x18.2.1 < ((e12 : Nat) : Int)) then
                        bif e10 then
                          bif inB x18.2.1 e12 then
                            (law06_strings n (atI (false, []) e11 x18.2.1).2).bind fun y19 =>
                            bif !y19 then
                              some (.inr (.inl false))
                            else
                            some (.inl (x18.1, wrap64 (x18.2.1 + 1), x18.2.2))
                          else
                          none
                        else
                        none
                      else
                      some (.inr (.inr (x18.1, x18.2.2)))
                    else
                    none) (x17.1, 0, x17.2)).bind (Sum.elim (fun (z20 : Bool) =>
                    some (.inr (.inl z20))) (fun (z21 : Int × ByteArray × (List (ByteArray × Int × Int × Int × Int × Int × Int × Int × Int × Int × Int)) × (List (ByteArray × ByteArray × Int × Int × Int × Int)) × (List (ByteArray × (List ByteArray) × Int)) × (List (List (Bool × List ByteArray))) × (List (ByteArray × ByteArray × Int)) × Int) =>
                    some (.inl (wrap64 (z21.1 + 1), z21.2))))
                else
                none
              else
              some (.inr (.inr x17.2))) (0, z16)).bind (Sum.elim (fun (z22 : Bool) =>
              some z22) (fun (z23 : ByteArray × (List (ByteArray × Int × Int × Int × Int × Int × Int × Int × Int × Int × Int)) × (List (ByteArray × ByteArray × Int × Int × Int × Int)) × (List (ByteArray × (List ByteArray) × Int)) × (List (List (Bool × List ByteArray))) × (List (ByteArray × ByteArray × Int)) × Int) =>
              (iterL (Y := (Bool) ⊕ (Unit)) n (fun (x24 : Int × ByteArray × (List (ByteArray × Int × Int × Int × Int × Int × Int × Int × Int × Int × Int)) × (List (ByteArray × ByteArray × Int × Int × Int × Int)) × (List (ByteArray × (List ByteArray) × Int)) × (List (List (Bool × List ByteArray))) × (List (ByteArray × ByteArray × Int)) × Int) =>
                let e13 := x24.2.2.2.2.2.2.1.length
                let e14 := inB x24.1 e13
                let e15 := atI (ByteArray.mk #[], ByteArray.mk #[], 0) x24.2.2.2.2.2.2.1 x24.1
                bif decide (x24.1 < ((e13 : Nat) : Int)) then
                  bif e14 then
                    bif e14 then
                      (law06_strings n (e15.1 :: (e15.2.1 :: []))).bind fun y25 =>
                      bif !y25 then
                        some (.inr (.inl false))
                      else
                      some (.inl (wrap64 (x24.1 + 1), x24.2))
                    else
                    none
                  else
                  none
                else
                some (.inr (.inr ()))) (0, z23)).bind (Sum.elim (fun (z26 : Bool) =>
                some z26) (fun (z27 : Unit) =>
                some true))))))))
      else
      none) fun J2 =>
  bif decide (50 < ((x0.2.1.length : Nat) : Int)) then
    J2 (true, x0)
  else
  bif decide (50 < ((x0.2.2.1.length : Nat) : Int)) then
    J2 (true, x0)
  else
  bif decide (50 < ((x0.2.2.2.1.length : Nat) : Int)) then
    J2 (true, x0)
  else
  bif decide (50 < ((x0.2.2.2.2.1.length : Nat) : Int)) then
    J2 (true, x0)
  else
  J2 (decide (80 < ((x0.2.2.2.2.2.1.length : Nat) : Int)), x0)
def p_law06_node : Plan := .two (.leaf) (.two (.two (.join ⟨slotsOf 172 [(1, .c (.box 1 0)), (37, .c (.hole (.bool)))], [(1, 39, [.hole (.str), .hole (.sl 44), .hole (.sl 78), .hole (.sl 42), .hole (.sl 67), .hole (.sl 47), .hole (.int .i64)])], []⟩ (.leaf)) (.leaf)) (.two (.leaf) (.two (.two (.leaf) (.one (.loop ⟨slotsOf 172 [(1, .c (.box 1 0)), (3, .c (.row 40)), (4, .c (.hole (.int .i64)))], [(1, 39, [.hole (.str), .hole (.sl 44), .hole (.sl 78), .hole (.sl 42), .hole (.sl 67), .hole (.sl 47), .hole (.int .i64)])], [(40, 9)]⟩ [(.exit 0, ⟨slotsOf 172 [(1, .c (.box 1 0)), (3, .c (.row 40))], [(1, 39, [.hole (.str), .hole (.sl 44), .hole (.sl 78), .hole (.sl 42), .hole (.sl 67), .hole (.sl 47), .hole (.int .i64)])], [(40, 9)]⟩)] (.leaf)))) (.two (.leaf) (.two (.two (.leaf) (.one (.loop ⟨slotsOf 172 [(1, .c (.box 1 0)), (5, .c (.hole (.int .i64)))], [(1, 39, [.hole (.str), .hole (.sl 44), .hole (.sl 78), .hole (.sl 42), .hole (.sl 67), .hole (.sl 47), .hole (.int .i64)])], []⟩ [(.ret, ⟨slotsOf 172 [(2, .c (.hole (.bool)))], [], []⟩), (.exit 2, ⟨slotsOf 172 [(1, .c (.box 1 0))], [(1, 39, [.hole (.str), .hole (.sl 44), .hole (.sl 78), .hole (.sl 42), .hole (.sl 67), .hole (.sl 47), .hole (.int .i64)])], []⟩)] (.leaf)))) (.two (.two (.leaf) (.one (.loop ⟨slotsOf 172 [(1, .c (.box 1 0)), (6, .c (.hole (.int .i64)))], [(1, 39, [.hole (.str), .hole (.sl 44), .hole (.sl 78), .hole (.sl 42), .hole (.sl 67), .hole (.sl 47), .hole (.int .i64)])], []⟩ [(.ret, ⟨slotsOf 172 [(2, .c (.hole (.bool)))], [], []⟩), (.exit 4, ⟨slotsOf 172 [(1, .c (.box 1 0))], [(1, 39, [.hole (.str), .hole (.sl 44), .hole (.sl 78), .hole (.sl 42), .hole (.sl 67), .hole (.sl 47), .hole (.int .i64)])], []⟩)] (.two (.leaf) (.two (.one (.two (.join ⟨slotsOf 172 [(1, .c (.box 1 0)), (6, .c (.hole (.int .i64))), (111, .c (.hole (.bool)))], [(1, 39, [.hole (.str), .hole (.sl 44), .hole (.sl 78), .hole (.sl 42), .hole (.sl 67), .hole (.sl 47), .hole (.int .i64)])], []⟩ (.leaf)) (.leaf))) (.leaf)))))) (.two (.two (.leaf) (.one (.loop ⟨slotsOf 172 [(1, .c (.box 1 0)), (7, .c (.hole (.int .i64)))], [(1, 39, [.hole (.str), .hole (.sl 44), .hole (.sl 78), .hole (.sl 42), .hole (.sl 67), .hole (.sl 47), .hole (.int .i64)])], []⟩ [(.ret, ⟨slotsOf 172 [(2, .c (.hole (.bool)))], [], []⟩), (.exit 6, ⟨slotsOf 172 [(1, .c (.box 1 0))], [(1, 39, [.hole (.str), .hole (.sl 44), .hole (.sl 78), .hole (.sl 42), .hole (.sl 67), .hole (.sl 47), .hole (.int .i64)])], []⟩)] (.two (.leaf) (.two (.one (.two (.leaf) (.two (.leaf) (.one (.loop ⟨slotsOf 172 [(1, .c (.box 1 0)), (7, .c (.hole (.int .i64))), (8, .c (.hole (.int .i64)))], [(1, 39, [.hole (.str), .hole (.sl 44), .hole (.sl 78), .hole (.sl 42), .hole (.sl 67), .hole (.sl 47), .hole (.int .i64)])], []⟩ [(.ret, ⟨slotsOf 172 [(2, .c (.hole (.bool)))], [], []⟩), (.exit 8, ⟨slotsOf 172 [(1, .c (.box 1 0)), (7, .c (.hole (.int .i64)))], [(1, 39, [.hole (.str), .hole (.sl 44), .hole (.sl 78), .hole (.sl 42), .hole (.sl 67), .hole (.sl 47), .hole (.int .i64)])], []⟩)] (.leaf)))))) (.leaf)))))) (.two (.two (.leaf) (.one (.loop ⟨slotsOf 172 [(1, .c (.box 1 0)), (9, .c (.hole (.int .i64)))], [(1, 39, [.hole (.str), .hole (.sl 44), .hole (.sl 78), .hole (.sl 42), .hole (.sl 67), .hole (.sl 47), .hole (.int .i64)])], []⟩ [(.ret, ⟨slotsOf 172 [(2, .c (.hole (.bool)))], [], []⟩), (.exit 10, ⟨slotsOf 172 [], [], []⟩)] (.leaf)))) (.leaf)))))))))
noncomputable def c_law06_node (b n : Nat) : Cx := ⟨Go.Proofs.Try.prog, (Θ b), [23], [(21, ⟨h_law06_strings, o_law06_strings, law06_strings n⟩)], [], [], []⟩
theorem d_law06_node (b n : Nat) (x : h_law06_node.X T) : denF (c_law06_node b n) n Go.Proofs.Try.f20 p_law06_node h_law06_node o_law06_node x = law06_node n x := by kernel_rfl
theorem s_law06_node (b n : Nat) : PCalls Go.Proofs.Try.prog (Θ b) 20 ⟨h_law06_node, o_law06_node, law06_node n⟩ :=
  func_ok' (C := c_law06_node b n) (n := n) (p := p_law06_node) (ok_of mixed eqsOk ⟨s_law06_strings b n, trivial⟩ trivial trivial) Go.Proofs.Try.func20 (by kernel_rfl) (by kernel_rfl) (d_law06_node b n) (by kernel_rfl)
def h_law06_Few : Shape := ⟨slotsOf 1 [(0, .agg [.hole (.int .i64), .hole (.int .i64), .hole (.int .i64), .hole (.int .i64), .hole (.int .i64), .hole (.sl 39), .hole (.sl 53), .hole (.int .i64), .hole (.int .i64)])], [], []⟩
def o_law06_Few : List (Ex × Shape) := [(.ret, ⟨slotsOf 1 [(0, .c (.hole (.bool)))], [], []⟩)]
def law06_Few (n : Nat) (x0 : Int × Int × Int × Int × Int × (List (ByteArray × (List (ByteArray × Int × Int × Int × Int × Int × Int × Int × Int × Int × Int)) × (List (ByteArray × ByteArray × Int × Int × Int × Int)) × (List (ByteArray × (List ByteArray) × Int)) × (List (List (Bool × List ByteArray))) × (List (ByteArray × ByteArray × Int)) × Int)) × (List (ByteArray × ByteArray × ByteArray × Int × Int × Int)) × Int × Int) : Option (Bool) :=
  letJ (fun (x1 : Bool × Int × Int × Int × Int × Int × (List (ByteArray × (List (ByteArray × Int × Int × Int × Int × Int × Int × Int × Int × Int × Int)) × (List (ByteArray × ByteArray × Int × Int × Int × Int)) × (List (ByteArray × (List ByteArray) × Int)) × (List (List (Bool × List ByteArray))) × (List (ByteArray × ByteArray × Int)) × Int)) × (List (ByteArray × ByteArray × ByteArray × Int × Int × Int)) × Int × Int) =>
    bif x1.1 then
      some false
    else
    (iterL (Y := (Bool) ⊕ (Int × Int × Int × Int × Int × (List (ByteArray × (List (ByteArray × Int × Int × Int × Int × Int × Int × Int × Int × Int × Int)) × (List (ByteArray × ByteArray × Int × Int × Int × Int)) × (List (ByteArray × (List ByteArray) × Int)) × (List (List (Bool × List ByteArray))) × (List (ByteArray × ByteArray × Int)) × Int)) × (List (ByteArray × ByteArray × ByteArray × Int × Int × Int)) × Int × Int)) n (fun (x3 : Int × Int × Int × Int × Int × Int × (List (ByteArray × (List (ByteArray × Int × Int × Int × Int × Int × Int × Int × Int × Int × Int)) × (List (ByteArray × ByteArray × Int × Int × Int × Int)) × (List (ByteArray × (List ByteArray) × Int)) × (List (List (Bool × List ByteArray))) × (List (ByteArray × ByteArray × Int)) × Int)) × (List (ByteArray × ByteArray × ByteArray × Int × Int × Int)) × Int × Int) =>
      let e0 := x3.2.2.2.2.2.2.1.length
      bif decide (x3.1 < ((e0 : Nat) : Int)) then
        bif inB x3.1 e0 then
          (law06_node n (atI (ByteArray.mk #[], [], [], [], [], [], 0) x3.2.2.2.2.2.2.1 x3.1)).bind fun y4 =>
          bif !y4 then
            some (.inr (.inl false))
          else
          some (.inl (wrap64 (x3.1 + 1), x3.2))
        else
        none
      else
      some (.inr (.inr x3.2))) (0, x1.2)).bind (Sum.elim (fun (z5 : Bool) =>
      some z5) (fun (z6 : Int × Int × Int × Int × Int × (List (ByteArray × (List (ByteArray × Int × Int × Int × Int × Int × Int × Int × Int × Int × Int)) × (List (ByteArray × ByteArray × Int × Int × Int × Int)) × (List (ByteArray × (List ByteArray) × Int)) × (List (List (Bool × List ByteArray))) × (List (ByteArray × ByteArray × Int)) × Int)) × (List (ByteArray × ByteArray × ByteArray × Int × Int × Int)) × Int × Int) =>
      (iterL (Y := (Bool) ⊕ (Unit)) n (fun (x7 : Int × Int × Int × Int × Int × Int × (List (ByteArray × (List (ByteArray × Int × Int × Int × Int × Int × Int × Int × Int × Int × Int)) × (List (ByteArray × ByteArray × Int × Int × Int × Int)) × (List (ByteArray × (List ByteArray) × Int)) × (List (List (Bool × List ByteArray))) × (List (ByteArray × ByteArray × Int)) × Int)) × (List (ByteArray × ByteArray × ByteArray × Int × Int × Int)) × Int × Int) =>
        let e1 := x7.2.2.2.2.2.2.2.1.length
        let e2 := inB x7.1 e1
        let e3 := atI (ByteArray.mk #[], ByteArray.mk #[], ByteArray.mk #[], 0, 0, 0) x7.2.2.2.2.2.2.2.1 x7.1
        let e4 := e3.2
        bif decide (x7.1 < ((e1 : Nat) : Int)) then
          bif e2 then
            bif e2 then
              bif e2 then
                (law06_strings n (e3.1 :: (e3.2.1 :: (e3.2.2.1 :: [])))).bind fun y8 =>
                bif !y8 then
                  some (.inr (.inl false))
                else
                some (.inl (wrap64 (x7.1 + 1), x7.2))
              else
              none
            else
            none
          else
          none
        else
        some (.inr (.inr ()))) (0, z6)).bind (Sum.elim (fun (z9 : Bool) =>
        some z9) (fun (z10 : Unit) =>
        some true))))) fun J2 =>
  bif decide (15 < ((x0.2.2.2.2.2.1.length : Nat) : Int)) then
    J2 (true, x0)
  else
  J2 (decide (15 < ((x0.2.2.2.2.2.2.1.length : Nat) : Int)), x0)
def p_law06_Few : Plan := .two (.leaf) (.two (.two (.join ⟨slotsOf 57 [(1, .c (.box 1 0)), (14, .c (.hole (.bool)))], [(1, 27, [.hole (.int .i64), .hole (.int .i64), .hole (.int .i64), .hole (.int .i64), .hole (.int .i64), .hole (.sl 39), .hole (.sl 53), .hole (.int .i64), .hole (.int .i64)])], []⟩ (.leaf)) (.leaf)) (.two (.two (.leaf) (.one (.loop ⟨slotsOf 57 [(1, .c (.box 1 0)), (3, .c (.hole (.int .i64)))], [(1, 27, [.hole (.int .i64), .hole (.int .i64), .hole (.int .i64), .hole (.int .i64), .hole (.int .i64), .hole (.sl 39), .hole (.sl 53), .hole (.int .i64), .hole (.int .i64)])], []⟩ [(.ret, ⟨slotsOf 57 [(2, .c (.hole (.bool)))], [], []⟩), (.exit 0, ⟨slotsOf 57 [(1, .c (.box 1 0))], [(1, 27, [.hole (.int .i64), .hole (.int .i64), .hole (.int .i64), .hole (.int .i64), .hole (.int .i64), .hole (.sl 39), .hole (.sl 53), .hole (.int .i64), .hole (.int .i64)])], []⟩)] (.leaf)))) (.two (.two (.leaf) (.one (.loop ⟨slotsOf 57 [(1, .c (.box 1 0)), (4, .c (.hole (.int .i64)))], [(1, 27, [.hole (.int .i64), .hole (.int .i64), .hole (.int .i64), .hole (.int .i64), .hole (.int .i64), .hole (.sl 39), .hole (.sl 53), .hole (.int .i64), .hole (.int .i64)])], []⟩ [(.ret, ⟨slotsOf 57 [(2, .c (.hole (.bool)))], [], []⟩), (.exit 2, ⟨slotsOf 57 [], [], []⟩)] (.leaf)))) (.leaf))))
noncomputable def c_law06_Few (b n : Nat) : Cx := ⟨Go.Proofs.Try.prog, (Θ b), [23], [(21, ⟨h_law06_strings, o_law06_strings, law06_strings n⟩), (20, ⟨h_law06_node, o_law06_node, law06_node n⟩)], [], [], []⟩
theorem d_law06_Few (b n : Nat) (x : h_law06_Few.X T) : denF (c_law06_Few b n) n Go.Proofs.Try.f7 p_law06_Few h_law06_Few o_law06_Few x = law06_Few n x := by kernel_rfl
theorem s_law06_Few (b n : Nat) : PCalls Go.Proofs.Try.prog (Θ b) 7 ⟨h_law06_Few, o_law06_Few, law06_Few n⟩ :=
  func_ok' (C := c_law06_Few b n) (n := n) (p := p_law06_Few) (ok_of mixed eqsOk ⟨s_law06_strings b n, s_law06_node b n, trivial⟩ trivial trivial) Go.Proofs.Try.func7 (by kernel_rfl) (by kernel_rfl) (d_law06_Few b n) (by kernel_rfl)
end Go.Proofs.Ytbcejiobmeglgaa.Fn
