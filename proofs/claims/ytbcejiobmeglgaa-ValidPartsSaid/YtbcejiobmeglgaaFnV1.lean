/- Functions of the program, each as a plain function, and that the machine does what it says. -/
import Derived.Test.YtbcejiobmeglgaaFnV0
namespace Go.Proofs.Ytbcejiobmeglgaa.Fn
set_option linter.unusedVariables false
set_option maxRecDepth 100000
open Go Go.RowKit Go.Den
def h_law07_awake : Shape := ⟨slotsOf 0 [], [], []⟩
def o_law07_awake : List (Ex × Shape) := [(.ret, ⟨slotsOf 1 [(0, .c (.hole (.bool)))], [], []⟩)]
def law07_awake (n : Nat) (x : Unit) : Option Bool := match n with
  | 0 => some true
  | _ + 1 => some true
theorem law07_awake_eq (n : Nat) (x : Unit) : law07_awake n x = some true := by cases n <;> rfl
theorem s_law07_awake (b n : Nat) : PCalls Go.Proofs.Try.prog (Θ b) 10 ⟨h_law07_awake, o_law07_awake, law07_awake n⟩ := awake_calls b (law07_awake n) fun x z h => (Option.some.inj ((law07_awake_eq n x).symm.trans h)).symm
def h_law07_ValidParts : Shape := ⟨slotsOf 1 [(0, .agg [.hole (.int .i64), .hole (.int .i64), .hole (.int .i64), .hole (.int .i64), .hole (.int .i64), .hole (.sl 39), .hole (.sl 53), .hole (.int .i64), .hole (.int .i64)])], [], []⟩
def o_law07_ValidParts : List (Ex × Shape) := [(.ret, ⟨slotsOf 1 [(0, .c (.hole (.bool)))], [], []⟩)]
def law07_ValidParts (n : Nat) (x0 : Int × Int × Int × Int × Int × (List (ByteArray × (List (ByteArray × Int × Int × Int × Int × Int × Int × Int × Int × Int × Int)) × (List (ByteArray × ByteArray × Int × Int × Int × Int)) × (List (ByteArray × (List ByteArray) × Int)) × (List (List (Bool × List ByteArray))) × (List (ByteArray × ByteArray × Int)) × Int)) × (List (ByteArray × ByteArray × ByteArray × Int × Int × Int)) × Int × Int) : Option (Bool) :=
  (law06_Few n x0).bind fun y1 =>
  bif !y1 then
    some true
  else
  (valid_Check n x0).bind fun y2 =>
  bif !(y2.1 == 0) then
    (law07_awake n ()).bind fun y3 =>
    some y3
  else
    (iterL (Y := (Bool) ⊕ (Int × Int × Int × Int × Int × (List (ByteArray × (List (ByteArray × Int × Int × Int × Int × Int × Int × Int × Int × Int × Int)) × (List (ByteArray × ByteArray × Int × Int × Int × Int)) × (List (ByteArray × (List ByteArray) × Int)) × (List (List (Bool × List ByteArray))) × (List (ByteArray × ByteArray × Int)) × Int)) × Int × Int)) n (fun (x4 : Int × Int × Int × Int × Int × Int × (List (ByteArray × (List (ByteArray × Int × Int × Int × Int × Int × Int × Int × Int × Int × Int)) × (List (ByteArray × ByteArray × Int × Int × Int × Int)) × (List (ByteArray × (List ByteArray) × Int)) × (List (List (Bool × List ByteArray))) × (List (ByteArray × ByteArray × Int)) × Int)) × (List (ByteArray × ByteArray × ByteArray × Int × Int × Int)) × Int × Int × Int × Int × Int × Int × Int × (List (ByteArray × (List (ByteArray × Int × Int × Int × Int × Int × Int × Int × Int × Int × Int)) × (List (ByteArray × ByteArray × Int × Int × Int × Int)) × (List (ByteArray × (List ByteArray) × Int)) × (List (List (Bool × List ByteArray))) × (List (ByteArray × ByteArray × Int)) × Int)) × Int × Int) =>
      let e0 := x4.2.2.2.2.2.2.1.length
      let e1 := atI (ByteArray.mk #[], [], [], [], [], [], 0) x4.2.2.2.2.2.2.1 x4.1
      let e2 := e1.2
      let e3 := e1.2.2.2
      let e4 := e1.2.2.2.2
      bif decide (x4.1 < ((e0 : Nat) : Int)) then
        bif inB x4.1 e0 then
          (valid_Check n (x4.2.2.2.2.2.2.2.2.2.2.1, x4.2.2.2.2.2.2.2.2.2.2.2.1, x4.2.2.2.2.2.2.2.2.2.2.2.2.1, x4.2.2.2.2.2.2.2.2.2.2.2.2.2.1, x4.2.2.2.2.2.2.2.2.2.2.2.2.2.2.1, e1 :: [], [], x4.2.2.2.2.2.2.2.2.2.2.2.2.2.2.2.2)).bind fun y5 =>
          (valid_Check n (x4.2.2.2.2.2.2.2.2.2.2.1, x4.2.2.2.2.2.2.2.2.2.2.2.1, x4.2.2.2.2.2.2.2.2.2.2.2.2.1, x4.2.2.2.2.2.2.2.2.2.2.2.2.2.1, x4.2.2.2.2.2.2.2.2.2.2.2.2.2.2.1, (e1.1, e1.2.1, [], e1.2.2.2.1, e1.2.2.2.2.1, [], e1.2.2.2.2.2.2) :: [], [], x4.2.2.2.2.2.2.2.2.2.2.2.2.2.2.2.2)).bind fun y6 =>
          letJ (fun (x7 : Int × Bool × Int × Int × Int × Int × Int × (List (ByteArray × (List (ByteArray × Int × Int × Int × Int × Int × Int × Int × Int × Int × Int)) × (List (ByteArray × ByteArray × Int × Int × Int × Int)) × (List (ByteArray × (List ByteArray) × Int)) × (List (List (Bool × List ByteArray))) × (List (ByteArray × ByteArray × Int)) × Int)) × (List (ByteArray × ByteArray × ByteArray × Int × Int × Int)) × Int × Int × Int × Int × Int × Int × Int × (List (ByteArray × (List (ByteArray × Int × Int × Int × Int × Int × Int × Int × Int × Int × Int)) × (List (ByteArray × ByteArray × Int × Int × Int × Int)) × (List (ByteArray × (List ByteArray) × Int)) × (List (List (Bool × List ByteArray))) × (List (ByteArray × ByteArray × Int)) × Int)) × Int × Int) =>
            bif x7.2.1 then
              some (.inr (.inl false))
            else
            some (.inl (wrap64 (x7.1 + 1), x7.2.2))) fun J8 =>
          bif !(y5.1 == 0) then
            J8 (x4.1, true, x4.2)
          else
          J8 (x4.1, !(y6.1 == 0), x4.2)
        else
        none
      else
      some (.inr (.inr x4.2.2.2.2.2.2.2.2.2.2))) (0, x0.1, x0.2.1, x0.2.2.1, x0.2.2.2.1, x0.2.2.2.2.1, x0.2.2.2.2.2.1, x0.2.2.2.2.2.2.1, x0.2.2.2.2.2.2.2.1, x0.2.2.2.2.2.2.2.2, x0.1, x0.2.1, x0.2.2.1, x0.2.2.2.1, x0.2.2.2.2.1, x0.2.2.2.2.2.1, x0.2.2.2.2.2.2.2)).bind (Sum.elim (fun (z9 : Bool) =>
      some z9) (fun (z10 : Int × Int × Int × Int × Int × (List (ByteArray × (List (ByteArray × Int × Int × Int × Int × Int × Int × Int × Int × Int × Int)) × (List (ByteArray × ByteArray × Int × Int × Int × Int)) × (List (ByteArray × (List ByteArray) × Int)) × (List (List (Bool × List ByteArray))) × (List (ByteArray × ByteArray × Int)) × Int)) × Int × Int) =>
      (valid_Check n (z10.1, z10.2.1, z10.2.2.1, z10.2.2.2.1, z10.2.2.2.2.1, z10.2.2.2.2.2.1, [], z10.2.2.2.2.2.2)).bind fun y11 =>
      bif y11.1 == 0 then
        (law07_awake n ()).bind fun y12 =>
        some y12
      else
      some false))
def p_law07_ValidParts : Plan := .two (.leaf) (.two (.leaf) (.two (.leaf) (.two (.leaf) (.two (.leaf) (.two (.leaf) (.two (.two (.leaf) (.one (.loop ⟨slotsOf 75 [(1, .c (.box 1 0)), (5, .c (.box 5 0)), (6, .c (.hole (.int .i64)))], [(1, 27, [.hole (.int .i64), .hole (.int .i64), .hole (.int .i64), .hole (.int .i64), .hole (.int .i64), .hole (.sl 39), .hole (.sl 53), .hole (.int .i64), .hole (.int .i64)]), (5, 27, [.hole (.int .i64), .hole (.int .i64), .hole (.int .i64), .hole (.int .i64), .hole (.int .i64), .hole (.sl 39), .nil, .hole (.int .i64), .hole (.int .i64)])], []⟩ [(.ret, ⟨slotsOf 75 [(2, .c (.hole (.bool)))], [], []⟩), (.exit 0, ⟨slotsOf 75 [(5, .c (.box 5 0))], [(5, 27, [.hole (.int .i64), .hole (.int .i64), .hole (.int .i64), .hole (.int .i64), .hole (.int .i64), .hole (.sl 39), .nil, .hole (.int .i64), .hole (.int .i64)])], []⟩)] (.two (.leaf) (.two (.one (.two (.leaf) (.two (.leaf) (.two (.leaf) (.two (.leaf) (.two (.leaf) (.two (.leaf) (.two (.leaf) (.two (.leaf) (.two (.join ⟨slotsOf 75 [(1, .c (.box 1 0)), (5, .c (.box 5 0)), (6, .c (.hole (.int .i64))), (64, .c (.hole (.bool)))], [(1, 27, [.hole (.int .i64), .hole (.int .i64), .hole (.int .i64), .hole (.int .i64), .hole (.int .i64), .hole (.sl 39), .hole (.sl 53), .hole (.int .i64), .hole (.int .i64)]), (5, 27, [.hole (.int .i64), .hole (.int .i64), .hole (.int .i64), .hole (.int .i64), .hole (.int .i64), .hole (.sl 39), .nil, .hole (.int .i64), .hole (.int .i64)])], []⟩ (.leaf)) (.leaf))))))))))) (.leaf)))))) (.leaf)))))))
noncomputable def c_law07_ValidParts (b n : Nat) : Cx := ⟨Go.Proofs.Try.prog, (Θ b), [23], [(8, ⟨h_valid_Check, o_valid_Check, valid_Check n⟩), (10, ⟨h_law07_awake, o_law07_awake, law07_awake n⟩), (7, ⟨h_law06_Few, o_law06_Few, law06_Few n⟩)], [], [], []⟩
theorem d_law07_ValidParts (b n : Nat) (x : h_law07_ValidParts.X T) : denF (c_law07_ValidParts b n) n Go.Proofs.Try.f4 p_law07_ValidParts h_law07_ValidParts o_law07_ValidParts x = law07_ValidParts n x := by kernel_rfl
theorem s_law07_ValidParts (b n : Nat) : PCalls Go.Proofs.Try.prog (Θ b) 4 ⟨h_law07_ValidParts, o_law07_ValidParts, law07_ValidParts n⟩ :=
  func_ok' (C := c_law07_ValidParts b n) (n := n) (p := p_law07_ValidParts) (ok_of mixed eqsOk ⟨s_valid_Check b n, s_law07_awake b n, s_law06_Few b n, trivial⟩ trivial trivial) Go.Proofs.Try.func4 (by kernel_rfl) (by kernel_rfl) (d_law07_ValidParts b n) (by kernel_rfl)
def h_law07_count : Shape := ⟨slotsOf 2 [(0, .agg [.hole (.str), .hole (.sl 44), .hole (.sl 78), .hole (.sl 42), .hole (.sl 67), .hole (.sl 47), .hole (.int .i64)]), (1, .c (.hole (.str)))], [], []⟩
def o_law07_count : List (Ex × Shape) := [(.ret, ⟨slotsOf 1 [(0, .c (.hole (.int .i64)))], [], []⟩)]
def law07_count (n : Nat) (x0 : ByteArray × (List (ByteArray × Int × Int × Int × Int × Int × Int × Int × Int × Int × Int)) × (List (ByteArray × ByteArray × Int × Int × Int × Int)) × (List (ByteArray × (List ByteArray) × Int)) × (List (List (Bool × List ByteArray))) × (List (ByteArray × ByteArray × Int)) × Int × ByteArray) : Option (Int) :=
  (iterL (Y := (Int)) n (fun (x1 : ByteArray × Int × Int × ByteArray × (List (ByteArray × Int × Int × Int × Int × Int × Int × Int × Int × Int × Int)) × (List (ByteArray × ByteArray × Int × Int × Int × Int)) × (List (ByteArray × (List ByteArray) × Int)) × (List (List (Bool × List ByteArray))) × (List (ByteArray × ByteArray × Int)) × Int) =>
    bif decide (x1.2.2.1 < ((x1.2.2.2.2.2.2.2.1.length : Nat) : Int)) then
      (iterL (Y := (ByteArray × Int × Int × ByteArray × (List (ByteArray × Int × Int × Int × Int × Int × Int × Int × Int × Int × Int)) × (List (ByteArray × ByteArray × Int × Int × Int × Int)) × (List (ByteArray × (List ByteArray) × Int)) × (List (List (Bool × List ByteArray))) × (List (ByteArray × ByteArray × Int)) × Int)) n (fun (x2 : ByteArray × Int × Int × Int × ByteArray × (List (ByteArray × Int × Int × Int × Int × Int × Int × Int × Int × Int × Int)) × (List (ByteArray × ByteArray × Int × Int × Int × Int)) × (List (ByteArray × (List ByteArray) × Int)) × (List (List (Bool × List ByteArray))) × (List (ByteArray × ByteArray × Int)) × Int) =>
        bif inB x2.2.2.1 x2.2.2.2.2.2.2.2.2.1.length then
          bif decide (x2.2.2.2.1 < ((List.length (atI [] x2.2.2.2.2.2.2.2.2.1 x2.2.2.1) : Nat) : Int)) then
            (iterL (Y := (ByteArray × Int × Int × Int × ByteArray × (List (ByteArray × Int × Int × Int × Int × Int × Int × Int × Int × Int × Int)) × (List (ByteArray × ByteArray × Int × Int × Int × Int)) × (List (ByteArray × (List ByteArray) × Int)) × (List (List (Bool × List ByteArray))) × (List (ByteArray × ByteArray × Int)) × Int)) n (fun (x3 : ByteArray × Int × Int × Int × Int × ByteArray × (List (ByteArray × Int × Int × Int × Int × Int × Int × Int × Int × Int × Int)) × (List (ByteArray × ByteArray × Int × Int × Int × Int)) × (List (ByteArray × (List ByteArray) × Int)) × (List (List (Bool × List ByteArray))) × (List (ByteArray × ByteArray × Int)) × Int) =>
              let e0 := inB x3.2.2.1 x3.2.2.2.2.2.2.2.2.2.1.length
              let e1 := atI [] x3.2.2.2.2.2.2.2.2.2.1 x3.2.2.1
              let e2 := inB x3.2.2.2.1 e1.length
              let e3 := (atI (false, []) e1 x3.2.2.2.1).2
              let e4 := e3.length
              bif e0 then
                bif e2 then
                  bif decide (x3.2.2.2.2.1 < ((e4 : Nat) : Int)) then
                    bif e0 then
                      bif e2 then
                        bif inB x3.2.2.2.2.1 e4 then
                          bif strEq (atI (ByteArray.mk #[]) e3 x3.2.2.2.2.1) x3.1 then
                            some (.inl (x3.1, wrap64 (x3.2.1 + 1), x3.2.2.1, x3.2.2.2.1, wrap64 (x3.2.2.2.2.1 + 1), x3.2.2.2.2.2))
                          else
                          some (.inl (x3.1, x3.2.1, x3.2.2.1, x3.2.2.2.1, wrap64 (x3.2.2.2.2.1 + 1), x3.2.2.2.2.2))
                        else
                        none
                      else
                      none
                    else
                    none
                  else
                  some (.inr (x3.1, x3.2.1, x3.2.2.1, x3.2.2.2.1, x3.2.2.2.2.2))
                else
                none
              else
              none) (x2.1, x2.2.1, x2.2.2.1, x2.2.2.2.1, 0, x2.2.2.2.2)).bind fun (z4 : ByteArray × Int × Int × Int × ByteArray × (List (ByteArray × Int × Int × Int × Int × Int × Int × Int × Int × Int × Int)) × (List (ByteArray × ByteArray × Int × Int × Int × Int)) × (List (ByteArray × (List ByteArray) × Int)) × (List (List (Bool × List ByteArray))) × (List (ByteArray × ByteArray × Int)) × Int) =>
              some (.inl (z4.1, z4.2.1, z4.2.2.1, wrap64 (z4.2.2.2.1 + 1), z4.2.2.2.2))
          else
          some (.inr (x2.1, x2.2.1, x2.2.2.1, x2.2.2.2.2))
        else
        none) (x1.1, x1.2.1, x1.2.2.1, 0, x1.2.2.2)).bind fun (z5 : ByteArray × Int × Int × ByteArray × (List (ByteArray × Int × Int × Int × Int × Int × Int × Int × Int × Int × Int)) × (List (ByteArray × ByteArray × Int × Int × Int × Int)) × (List (ByteArray × (List ByteArray) × Int)) × (List (List (Bool × List ByteArray))) × (List (ByteArray × ByteArray × Int)) × Int) =>
        some (.inl (z5.1, z5.2.1, wrap64 (z5.2.2.1 + 1), z5.2.2.2))
    else
    some (.inr x1.2.1)) (x0.2.2.2.2.2.2.2, 0, 0, x0.1, x0.2.1, x0.2.2.1, x0.2.2.2.1, x0.2.2.2.2.1, x0.2.2.2.2.2.1, x0.2.2.2.2.2.2.1)).bind fun (z6 : Int) =>
    some z6
def p_law07_count : Plan := .two (.leaf) (.two (.leaf) (.two (.two (.leaf) (.one (.loop ⟨slotsOf 60 [(1, .c (.hole (.str))), (2, .c (.box 2 0)), (5, .c (.hole (.int .i64))), (6, .c (.hole (.int .i64)))], [(2, 39, [.hole (.str), .hole (.sl 44), .hole (.sl 78), .hole (.sl 42), .hole (.sl 67), .hole (.sl 47), .hole (.int .i64)])], []⟩ [(.exit 0, ⟨slotsOf 60 [(5, .c (.hole (.int .i64)))], [], []⟩)] (.two (.leaf) (.two (.one (.two (.leaf) (.one (.loop ⟨slotsOf 60 [(1, .c (.hole (.str))), (2, .c (.box 2 0)), (5, .c (.hole (.int .i64))), (6, .c (.hole (.int .i64))), (7, .c (.hole (.int .i64)))], [(2, 39, [.hole (.str), .hole (.sl 44), .hole (.sl 78), .hole (.sl 42), .hole (.sl 67), .hole (.sl 47), .hole (.int .i64)])], []⟩ [(.exit 2, ⟨slotsOf 60 [(1, .c (.hole (.str))), (2, .c (.box 2 0)), (5, .c (.hole (.int .i64))), (6, .c (.hole (.int .i64)))], [(2, 39, [.hole (.str), .hole (.sl 44), .hole (.sl 78), .hole (.sl 42), .hole (.sl 67), .hole (.sl 47), .hole (.int .i64)])], []⟩)] (.two (.leaf) (.two (.one (.two (.leaf) (.one (.loop ⟨slotsOf 60 [(1, .c (.hole (.str))), (2, .c (.box 2 0)), (5, .c (.hole (.int .i64))), (6, .c (.hole (.int .i64))), (7, .c (.hole (.int .i64))), (8, .c (.hole (.int .i64)))], [(2, 39, [.hole (.str), .hole (.sl 44), .hole (.sl 78), .hole (.sl 42), .hole (.sl 67), .hole (.sl 47), .hole (.int .i64)])], []⟩ [(.exit 4, ⟨slotsOf 60 [(1, .c (.hole (.str))), (2, .c (.box 2 0)), (5, .c (.hole (.int .i64))), (6, .c (.hole (.int .i64))), (7, .c (.hole (.int .i64)))], [(2, 39, [.hole (.str), .hole (.sl 44), .hole (.sl 78), .hole (.sl 42), .hole (.sl 67), .hole (.sl 47), .hole (.int .i64)])], []⟩)] (.leaf))))) (.leaf))))))) (.leaf)))))) (.leaf)))
noncomputable def c_law07_count (b n : Nat) : Cx := ⟨Go.Proofs.Try.prog, (Θ b), [23], [], [], [], []⟩
theorem d_law07_count (b n : Nat) (x : h_law07_count.X T) : denF (c_law07_count b n) n Go.Proofs.Try.f11 p_law07_count h_law07_count o_law07_count x = law07_count n x := by kernel_rfl
theorem s_law07_count (b n : Nat) : PCalls Go.Proofs.Try.prog (Θ b) 11 ⟨h_law07_count, o_law07_count, law07_count n⟩ :=
  func_ok' (C := c_law07_count b n) (n := n) (p := p_law07_count) (ok_of mixed eqsOk trivial trivial trivial) Go.Proofs.Try.func11 (by kernel_rfl) (by kernel_rfl) (d_law07_count b n) (by kernel_rfl)
end Go.Proofs.Ytbcejiobmeglgaa.Fn
