/- Functions of the program, each as a plain function, and that the machine does what it says. -/
import Derived.Test.YtbcejiobmeglgaaFnS1
namespace Go.Proofs.Ytbcejiobmeglgaa.Fn
set_option linter.unusedVariables false
set_option maxRecDepth 100000
open Go Go.RowKit Go.Den
def h_ref04_one : Shape := ⟨slotsOf 2 [(0, .c (.hole (.sl 5))), (1, .c (.hole (.int .i64)))], [], []⟩
def o_ref04_one : List (Ex × Shape) := [(.ret, ⟨slotsOf 2 [(0, .agg [.hole (.int .i64), .hole (.str), .hole (.int .i64), .hole (.int .i64)]), (1, .c (.hole (.int .i64)))], [], []⟩)]
def ref04_one (n : Nat) (x0 : (List Int) × Int) : Option (Int × ByteArray × Int × Int × Int) :=
  let e0 := x0.1.length
  let e1 := inB x0.2 e0
  let e2 := atI 0 x0.1 x0.2
  bif e1 then
    (ref04_small n e2).bind fun y1 =>
    bif y1 then
      (iterL (Y := ((List Int) × Int × Int × Int × ByteArray × Int × Int)) n (fun (x2 : (List Int) × Int × Int × Int × ByteArray × Int × Int) =>
        let e3 := x2.1.length
        let e4 := inB x2.2.2.1 e3
        let e5 := atI 0 x2.1 x2.2.2.1
        letJ (fun (x5 : (List Int) × Int × Int × Bool × Int × ByteArray × Int × Int) =>
          bif x5.2.2.2.1 then
            some (.inl (x5.1, x5.2.1, wrap64 (x5.2.2.1 + 1), x5.2.2.2.2))
          else
          some (.inr (x5.1, x5.2.1, x5.2.2.1, x5.2.2.2.2))) fun J6 =>
        bif decide (x2.2.2.1 < ((e3 : Nat) : Int)) then
          bif e4 then
            (ref04_small n e5).bind fun y3 =>
            bif y3 then
              J6 (x2.1, x2.2.1, x2.2.2.1, true, x2.2.2.2)
            else
            bif e4 then
              (ref04_digit n e5).bind fun y4 =>
              bif y4 then
                J6 (x2.1, x2.2.1, x2.2.2.1, true, x2.2.2.2)
              else
              bif e4 then
                J6 (x2.1, x2.2.1, x2.2.2.1, e5 == 95, x2.2.2.2)
              else
              none
            else
            none
          else
          none
        else
        J6 (x2.1, x2.2.1, x2.2.2.1, false, x2.2.2.2)) (x0.1, x0.2, x0.2, 0, ByteArray.mk #[], 0, 0)).bind fun (z7 : (List Int) × Int × Int × Int × ByteArray × Int × Int) =>
        bif decide (24 < wrap64 (z7.2.2.1 - z7.2.1)) then
          some (0, ByteArray.mk #[], 0, 0, 4)
        else
        bif cutOk (some z7.2.1) (some z7.2.2.1) z7.1.length then
          some (1, bstr (cutList (some z7.2.1) (some z7.2.2.1) z7.1), 0, z7.2.1, 0)
        else
        none
    else
      bif e1 then
        (ref04_digit n e2).bind fun y8 =>
        bif y8 then
          (iterL (Y := ((List Int) × Int × Int × Int × Int × ByteArray × Int × Int)) n (fun (x9 : (List Int) × Int × Int × Int × Int × ByteArray × Int × Int) =>
            let e6 := x9.1.length
            letJ (fun (x11 : (List Int) × Int × Int × Int × Bool × Int × ByteArray × Int × Int) =>
              let e7 := wrap64 (x11.2.2.1 + 1)
              bif x11.2.2.2.2.1 then
                bif decide (wrap64 (x11.2.2.1 - x11.2.1) < 18) then
                  bif inB x11.2.2.1 x11.1.length then
                    some (.inl (x11.1, x11.2.1, e7, wrap64 ((wrap64 (10 * x11.2.2.2.1)) + (wrap64 (IntKind.wrap .u8 ((atI 0 x11.1 x11.2.2.1) - 48)))), x11.2.2.2.2.2))
                  else
                  none
                else
                some (.inl (x11.1, x11.2.1, e7, x11.2.2.2.1, x11.2.2.2.2.2))
              else
              some (.inr (x11.1, x11.2.1, x11.2.2.1, x11.2.2.2.1, x11.2.2.2.2.2))) fun J12 =>
            bif decide (x9.2.2.1 < ((e6 : Nat) : Int)) then
              bif inB x9.2.2.1 e6 then
                (ref04_digit n (atI 0 x9.1 x9.2.2.1)).bind fun y10 =>
                J12 (x9.1, x9.2.1, x9.2.2.1, x9.2.2.2.1, y10, x9.2.2.2.2)
              else
              none
            else
            J12 (x9.1, x9.2.1, x9.2.2.1, x9.2.2.2.1, false, x9.2.2.2.2)) (x0.1, x0.2, x0.2, 0, 0, ByteArray.mk #[], 0, 0)).bind fun (z13 : (List Int) × Int × Int × Int × Int × ByteArray × Int × Int) =>
            bif decide (18 < wrap64 (z13.2.2.1 - z13.2.1)) then
              some (0, ByteArray.mk #[], 0, 0, 4)
            else
            bif cutOk (some z13.2.1) (some z13.2.2.1) z13.1.length then
              some (2, bstr (cutList (some z13.2.1) (some z13.2.2.1) z13.1), z13.2.2.2.1, z13.2.1, 0)
            else
            none
        else
          bif e1 then
            (ref04_sign n e2).bind fun y14 =>
            bif y14 then
              bif cutOk (some x0.2) (some (wrap64 (x0.2 + 1))) e0 then
                some (3, bstr (cutList (some x0.2) (some (wrap64 (x0.2 + 1))) x0.1), 0, x0.2, 0)
              else
              none
            else
            some (0, ByteArray.mk #[], 0, 0, 40)
          else
          none
      else
      none
  else
  none
def p_ref04_one : Plan := .two (.leaf) (.two (.leaf) (.two (.one (.two (.leaf) (.two (.two (.one (.loop ⟨slotsOf 114 [(0, .c (.hole (.sl 5))), (1, .c (.hole (.int .i64))), (4, .c (.box 4 0)), (6, .c (.hole (.int .i64)))], [(4, 107, [.hole (.int .i64), .hole (.str), .hole (.int .i64), .hole (.int .i64)])], []⟩ [(.exit 1, ⟨slotsOf 114 [(0, .c (.hole (.sl 5))), (1, .c (.hole (.int .i64))), (4, .c (.box 4 0)), (6, .c (.hole (.int .i64)))], [(4, 107, [.hole (.int .i64), .hole (.str), .hole (.int .i64), .hole (.int .i64)])], []⟩)] (.two (.two (.join ⟨slotsOf 114 [(0, .c (.hole (.sl 5))), (1, .c (.hole (.int .i64))), (4, .c (.box 4 0)), (6, .c (.hole (.int .i64))), (39, .c (.hole (.bool)))], [(4, 107, [.hole (.int .i64), .hole (.str), .hole (.int .i64), .hole (.int .i64)])], []⟩ (.leaf)) (.leaf)) (.leaf)))) (.leaf)) (.two (.leaf) (.two (.two (.leaf) (.two (.one (.loop ⟨slotsOf 114 [(0, .c (.hole (.sl 5))), (1, .c (.hole (.int .i64))), (4, .c (.box 4 0)), (6, .c (.hole (.int .i64))), (7, .c (.hole (.int .i64)))], [(4, 107, [.hole (.int .i64), .hole (.str), .hole (.int .i64), .hole (.int .i64)])], []⟩ [(.exit 3, ⟨slotsOf 114 [(0, .c (.hole (.sl 5))), (1, .c (.hole (.int .i64))), (4, .c (.box 4 0)), (6, .c (.hole (.int .i64))), (7, .c (.hole (.int .i64)))], [(4, 107, [.hole (.int .i64), .hole (.str), .hole (.int .i64), .hole (.int .i64)])], []⟩)] (.two (.two (.join ⟨slotsOf 114 [(0, .c (.hole (.sl 5))), (1, .c (.hole (.int .i64))), (4, .c (.box 4 0)), (6, .c (.hole (.int .i64))), (7, .c (.hole (.int .i64))), (70, .c (.hole (.bool)))], [(4, 107, [.hole (.int .i64), .hole (.str), .hole (.int .i64), .hole (.int .i64)])], []⟩ (.leaf)) (.leaf)) (.leaf)))) (.leaf))) (.leaf)))))) (.leaf)))
noncomputable def c_ref04_one (b n : Nat) : Cx := ⟨Go.Proofs.Try.prog, (Θ b), [23], [(74, ⟨h_ref04_small, o_ref04_small, ref04_small n⟩), (75, ⟨h_ref04_digit, o_ref04_digit, ref04_digit n⟩), (76, ⟨h_ref04_sign, o_ref04_sign, ref04_sign n⟩)], [], [], []⟩
theorem d_ref04_one (b n : Nat) (x : h_ref04_one.X T) : denF (c_ref04_one b n) n Go.Proofs.Try.f68 p_ref04_one h_ref04_one o_ref04_one x = ref04_one n x := by kernel_rfl
theorem s_ref04_one (b n : Nat) : PCalls Go.Proofs.Try.prog (Θ b) 68 ⟨h_ref04_one, o_ref04_one, ref04_one n⟩ :=
  func_ok' (C := c_ref04_one b n) (n := n) (p := p_ref04_one) (ok_of mixed eqsOk ⟨s_ref04_small b n, s_ref04_digit b n, s_ref04_sign b n, trivial⟩ trivial trivial) Go.Proofs.Try.func68 (by kernel_rfl) (by kernel_rfl) (d_ref04_one b n) (by kernel_rfl)
def h_ref04_Tokens : Shape := ⟨slotsOf 1 [(0, .c (.hole (.sl 5)))], [], []⟩
def o_ref04_Tokens : List (Ex × Shape) := [(.ret, ⟨slotsOf 3 [(0, .c (.hole (.sl 107))), (1, .c (.hole (.int .i64))), (2, .c (.hole (.int .i64)))], [], []⟩)]
def ref04_Tokens (n : Nat) (x0 : List Int) : Option ((List (Int × ByteArray × Int × Int)) × Int × Int) :=
  bif decide (65536 < ((x0.length : Nat) : Int)) then
    some ([], 4, 65536)
  else
  (ref04_skip n (x0, 0)).bind fun y1 =>
  (iterL (Y := (Int × Int) ⊕ (Int × List (Int × ByteArray × Int × Int))) n (fun (x5 : (List Int) × Int × List (Int × ByteArray × Int × Int)) =>
    bif decide (x5.2.1 < ((x5.1.length : Nat) : Int)) then
      (ref04_one n (x5.1, x5.2.1)).bind fun y6 =>
      let e0 := (y6.1, y6.2.1, y6.2.2.1, y6.2.2.2.1) :: []
      bif !(y6.2.2.2.2 == 0) then
        some (.inr (.inl (y6.2.2.2.2, x5.2.1)))
      else
      bif fitB (x5.2.2.length + e0.length) 40 then
        (ref04_skip n (x5.1, wrap64 (x5.2.1 + ((ByteArray.size y6.2.1 : Nat) : Int)))).bind fun y7 =>
        some (.inl (x5.1, y7, x5.2.2 ++ e0))
      else
      none
    else
    some (.inr (.inr x5.2))) (x0, y1, [])).bind (Sum.elim (fun (z8 : Int × Int) =>
    some ([], z8)) (fun (z9 : Int × List (Int × ByteArray × Int × Int)) =>
    let e1 := (0, ByteArray.mk #[], 0, z9.1) :: []
    bif fitB (z9.2.length + e1.length) 40 then
      some (z9.2 ++ e1, 0, 0)
    else
    none))
def p_ref04_Tokens : Plan := .two (.leaf) (.two (.leaf) (.two (.leaf) (.two (.leaf) (.two (.one (.loop ⟨slotsOf 44 [(0, .c (.hole (.sl 5))), (5, .c (.row 31)), (6, .c (.hole (.int .i64)))], [], [(31, 107)]⟩ [(.ret, ⟨slotsOf 44 [(2, .c (.nil)), (3, .c (.hole (.int .i64))), (4, .c (.hole (.int .i64)))], [], []⟩), (.exit 0, ⟨slotsOf 44 [(5, .c (.row 31)), (6, .c (.hole (.int .i64)))], [], [(31, 107)]⟩)] (.leaf))) (.leaf)))))
noncomputable def c_ref04_Tokens (b n : Nat) : Cx := ⟨Go.Proofs.Try.prog, (Θ b), [23], [(67, ⟨h_ref04_skip, o_ref04_skip, ref04_skip n⟩), (68, ⟨h_ref04_one, o_ref04_one, ref04_one n⟩)], [], [], []⟩
theorem d_ref04_Tokens (b n : Nat) (x : h_ref04_Tokens.X T) : denF (c_ref04_Tokens b n) n Go.Proofs.Try.f57 p_ref04_Tokens h_ref04_Tokens o_ref04_Tokens x = ref04_Tokens n x := by kernel_rfl
theorem s_ref04_Tokens (b n : Nat) : PCalls Go.Proofs.Try.prog (Θ b) 57 ⟨h_ref04_Tokens, o_ref04_Tokens, ref04_Tokens n⟩ :=
  func_ok' (C := c_ref04_Tokens b n) (n := n) (p := p_ref04_Tokens) (ok_of mixed eqsOk ⟨s_ref04_skip b n, s_ref04_one b n, trivial⟩ trivial trivial) Go.Proofs.Try.func57 (by kernel_rfl) (by kernel_rfl) (d_ref04_Tokens b n) (by kernel_rfl)
def h_ref05_reader_fail : Shape := ⟨slotsOf 2 [(0, .c (.box 1000000 0)), (1, .c (.hole (.int .i64)))], [(1000000, 99, [.hole (.sl 107), .hole (.int .i64), .hole (.int .i64)])], []⟩
def o_ref05_reader_fail : List (Ex × Shape) := [(.ret, ⟨slotsOf 0 [], [(1000000, 99, [.hole (.sl 107), .hole (.int .i64), .hole (.int .i64)])], []⟩)]
def ref05_reader_fail (n : Nat) (x0 : Int × (List (Int × ByteArray × Int × Int)) × Int × Int) : Option ((List (Int × ByteArray × Int × Int)) × Int × Int) :=
  bif x0.2.2.1 == 0 then
    bif inB 0 x0.2.1.length then
      some (x0.2.1, x0.1, (atI (0, ByteArray.mk #[], 0, 0) x0.2.1 0).2.2.2)
    else
    none
  else
  some x0.2
def p_ref05_reader_fail : Plan := .leaf
noncomputable def c_ref05_reader_fail (b n : Nat) : Cx := ⟨Go.Proofs.Try.prog, (Θ b), [23], [], [], [], []⟩
theorem d_ref05_reader_fail (b n : Nat) (x : h_ref05_reader_fail.X T) : denF (c_ref05_reader_fail b n) n Go.Proofs.Try.f66 p_ref05_reader_fail h_ref05_reader_fail o_ref05_reader_fail x = ref05_reader_fail n x := by kernel_rfl
theorem s_ref05_reader_fail (b n : Nat) : PCalls Go.Proofs.Try.prog (Θ b) 66 ⟨h_ref05_reader_fail, o_ref05_reader_fail, ref05_reader_fail n⟩ :=
  func_ok' (C := c_ref05_reader_fail b n) (n := n) (p := p_ref05_reader_fail) (ok_of mixed eqsOk trivial trivial trivial) Go.Proofs.Try.func66 (by kernel_rfl) (by kernel_rfl) (d_ref05_reader_fail b n) (by kernel_rfl)
def h_ref05_reader_next : Shape := ⟨slotsOf 1 [(0, .c (.box 1000000 0))], [(1000000, 99, [.hole (.sl 107), .hole (.int .i64), .hole (.int .i64)])], []⟩
def o_ref05_reader_next : List (Ex × Shape) := [(.ret, ⟨slotsOf 1 [(0, .agg [.hole (.int .i64), .hole (.str), .hole (.int .i64), .hole (.int .i64)])], [(1000000, 99, [.hole (.sl 107), .hole (.int .i64), .hole (.int .i64)])], []⟩)]
def ref05_reader_next (n : Nat) (x0 : (List (Int × ByteArray × Int × Int)) × Int × Int) : Option (Int × ByteArray × Int × Int × (List (Int × ByteArray × Int × Int)) × Int × Int) :=
  let e0 := atI (0, ByteArray.mk #[], 0, 0) x0.1 0
  bif inB 0 x0.1.length then
    letJ (fun (x1 : Bool × (List (Int × ByteArray × Int × Int)) × Int × Int × Int × ByteArray × Int × Int × Int × ByteArray × Int × Int) =>
      bif x1.1 then
        bif cutOk (some 1) none x1.2.1.length then
          some (x1.2.2.2.2.2.2.2.2.1, x1.2.2.2.2.2.2.2.2.2.1, x1.2.2.2.2.2.2.2.2.2.2.1, x1.2.2.2.2.2.2.2.2.2.2.2, cutList (some 1) none x1.2.1, x1.2.2.1, x1.2.2.2.1)
        else
        none
      else
      some (x1.2.2.2.2.2.2.2.2.1, x1.2.2.2.2.2.2.2.2.2.1, x1.2.2.2.2.2.2.2.2.2.2.1, x1.2.2.2.2.2.2.2.2.2.2.2, x1.2.1, x1.2.2.1, x1.2.2.2.1)) fun J2 =>
    bif x0.2.1 == 0 then
      J2 (!(e0.1 == 0), x0.1, x0.2.1, x0.2.2, 0, ByteArray.mk #[], 0, 0, e0)
    else
    J2 (false, x0.1, x0.2.1, x0.2.2, 0, ByteArray.mk #[], 0, 0, e0)
  else
  none
def p_ref05_reader_next : Plan := .two (.leaf) (.two (.leaf) (.two (.two (.join ⟨slotsOf 29 [(0, .c (.box 1000000 0)), (2, .c (.box 2 0)), (3, .c (.box 3 0)), (19, .c (.hole (.bool)))], [(1000000, 99, [.hole (.sl 107), .hole (.int .i64), .hole (.int .i64)]), (2, 107, [.hole (.int .i64), .hole (.str), .hole (.int .i64), .hole (.int .i64)]), (3, 107, [.hole (.int .i64), .hole (.str), .hole (.int .i64), .hole (.int .i64)])], []⟩ (.leaf)) (.leaf)) (.leaf)))
noncomputable def c_ref05_reader_next (b n : Nat) : Cx := ⟨Go.Proofs.Try.prog, (Θ b), [23], [], [], [], []⟩
theorem d_ref05_reader_next (b n : Nat) (x : h_ref05_reader_next.X T) : denF (c_ref05_reader_next b n) n Go.Proofs.Try.f64 p_ref05_reader_next h_ref05_reader_next o_ref05_reader_next x = ref05_reader_next n x := by kernel_rfl
theorem s_ref05_reader_next (b n : Nat) : PCalls Go.Proofs.Try.prog (Θ b) 64 ⟨h_ref05_reader_next, o_ref05_reader_next, ref05_reader_next n⟩ :=
  func_ok' (C := c_ref05_reader_next b n) (n := n) (p := p_ref05_reader_next) (ok_of mixed eqsOk trivial trivial trivial) Go.Proofs.Try.func64 (by kernel_rfl) (by kernel_rfl) (d_ref05_reader_next b n) (by kernel_rfl)
def h_ref05_reader_is : Shape := ⟨slotsOf 2 [(0, .cel [.sl 107, .int .i64, .int .i64]), (1, .c (.hole (.str)))], [], []⟩
def o_ref05_reader_is : List (Ex × Shape) := [(.ret, ⟨slotsOf 1 [(0, .c (.hole (.bool)))], [], []⟩)]
def ref05_reader_is (n : Nat) (x0 : (List (Int × ByteArray × Int × Int)) × Int × Int × ByteArray) : Option (Bool) :=
  let e0 := inB 0 x0.1.length
  let e1 := atI (0, ByteArray.mk #[], 0, 0) x0.1 0
  let e2 := e1.1
  letJ (fun (x1 : Bool) =>
    some x1) fun J2 =>
  bif x0.2.1 == 0 then
    bif e0 then
      bif !(e2 == 2) then
        bif e0 then
          bif !(e2 == 0) then
            bif e0 then
              J2 (strEq e1.2.1 x0.2.2.2)
            else
            none
          else
          J2 false
        else
        none
      else
      J2 false
    else
    none
  else
  J2 false
def p_ref05_reader_is : Plan := .two (.leaf) (.two (.join ⟨slotsOf 41 [(4, .c (.hole (.bool)))], [], []⟩ (.leaf)) (.leaf))
noncomputable def c_ref05_reader_is (b n : Nat) : Cx := ⟨Go.Proofs.Try.prog, (Θ b), [23], [], [], [], []⟩
theorem d_ref05_reader_is (b n : Nat) (x : h_ref05_reader_is.X T) : denF (c_ref05_reader_is b n) n Go.Proofs.Try.f63 p_ref05_reader_is h_ref05_reader_is o_ref05_reader_is x = ref05_reader_is n x := by kernel_rfl
theorem s_ref05_reader_is (b n : Nat) : PCalls Go.Proofs.Try.prog (Θ b) 63 ⟨h_ref05_reader_is, o_ref05_reader_is, ref05_reader_is n⟩ :=
  func_ok' (C := c_ref05_reader_is b n) (n := n) (p := p_ref05_reader_is) (ok_of mixed eqsOk trivial trivial trivial) Go.Proofs.Try.func63 (by kernel_rfl) (by kernel_rfl) (d_ref05_reader_is b n) (by kernel_rfl)
def h_ref05_reader_want : Shape := ⟨slotsOf 2 [(0, .c (.box 1000000 0)), (1, .c (.hole (.str)))], [(1000000, 99, [.hole (.sl 107), .hole (.int .i64), .hole (.int .i64)])], []⟩
def o_ref05_reader_want : List (Ex × Shape) := [(.ret, ⟨slotsOf 0 [], [(1000000, 99, [.hole (.sl 107), .hole (.int .i64), .hole (.int .i64)])], []⟩)]
def ref05_reader_want (n : Nat) (x0 : ByteArray × (List (Int × ByteArray × Int × Int)) × Int × Int) : Option ((List (Int × ByteArray × Int × Int)) × Int × Int) :=
  letJ (fun (x3 : (List (Int × ByteArray × Int × Int)) × Int × Int) =>
    (ref05_reader_next n x3).bind fun y5 =>
    some y5.2.2.2.2) fun J4 =>
  (ref05_reader_is n (x0.2.1, x0.2.2.1, x0.2.2.2, x0.1)).bind fun y1 =>
  bif !y1 then
    (ref05_reader_fail n (50, x0.2)).bind fun y2 =>
    J4 y2
  else
  J4 x0.2
def p_ref05_reader_want : Plan := .two (.join ⟨slotsOf 12 [(0, .c (.box 1000000 0))], [(1000000, 99, [.hole (.sl 107), .hole (.int .i64), .hole (.int .i64)])], []⟩ (.leaf)) (.leaf)
noncomputable def c_ref05_reader_want (b n : Nat) : Cx := ⟨Go.Proofs.Try.prog, (Θ b), [23], [(63, ⟨h_ref05_reader_is, o_ref05_reader_is, ref05_reader_is n⟩), (66, ⟨h_ref05_reader_fail, o_ref05_reader_fail, ref05_reader_fail n⟩), (64, ⟨h_ref05_reader_next, o_ref05_reader_next, ref05_reader_next n⟩)], [], [], []⟩
theorem d_ref05_reader_want (b n : Nat) (x : h_ref05_reader_want.X T) : denF (c_ref05_reader_want b n) n Go.Proofs.Try.f59 p_ref05_reader_want h_ref05_reader_want o_ref05_reader_want x = ref05_reader_want n x := by kernel_rfl
theorem s_ref05_reader_want (b n : Nat) : PCalls Go.Proofs.Try.prog (Θ b) 59 ⟨h_ref05_reader_want, o_ref05_reader_want, ref05_reader_want n⟩ :=
  func_ok' (C := c_ref05_reader_want b n) (n := n) (p := p_ref05_reader_want) (ok_of mixed eqsOk ⟨s_ref05_reader_is b n, s_ref05_reader_fail b n, s_ref05_reader_next b n, trivial⟩ trivial trivial) Go.Proofs.Try.func59 (by kernel_rfl) (by kernel_rfl) (d_ref05_reader_want b n) (by kernel_rfl)
def h_ref05_reader_num : Shape := ⟨slotsOf 2 [(0, .c (.box 1000000 0)), (1, .c (.hole (.str)))], [(1000000, 99, [.hole (.sl 107), .hole (.int .i64), .hole (.int .i64)])], []⟩
def o_ref05_reader_num : List (Ex × Shape) := [(.ret, ⟨slotsOf 1 [(0, .c (.hole (.int .i64)))], [(1000000, 99, [.hole (.sl 107), .hole (.int .i64), .hole (.int .i64)])], []⟩)]
def ref05_reader_num (n : Nat) (x0 : ByteArray × (List (Int × ByteArray × Int × Int)) × Int × Int) : Option (Int × (List (Int × ByteArray × Int × Int)) × Int × Int) :=
  letJ (fun (x2 : (List (Int × ByteArray × Int × Int)) × Int × Int) =>
    bif inB 0 x2.1.length then
      bif !((atI (0, ByteArray.mk #[], 0, 0) x2.1 0).1 == 2) then
        (ref05_reader_fail n (50, x2)).bind fun y4 =>
        some (0, y4)
      else
        (ref05_reader_next n x2).bind fun y5 =>
        some (y5.2.2.1, y5.2.2.2.2)
    else
    none) fun J3 =>
  bif !(strEq x0.1 (ByteArray.mk #[])) then
    (ref05_reader_want n x0).bind fun y1 =>
    J3 y1
  else
  J3 x0.2
def p_ref05_reader_num : Plan := .two (.leaf) (.two (.join ⟨slotsOf 23 [(0, .c (.box 1000000 0))], [(1000000, 99, [.hole (.sl 107), .hole (.int .i64), .hole (.int .i64)])], []⟩ (.leaf)) (.leaf))
noncomputable def c_ref05_reader_num (b n : Nat) : Cx := ⟨Go.Proofs.Try.prog, (Θ b), [23], [(66, ⟨h_ref05_reader_fail, o_ref05_reader_fail, ref05_reader_fail n⟩), (64, ⟨h_ref05_reader_next, o_ref05_reader_next, ref05_reader_next n⟩), (59, ⟨h_ref05_reader_want, o_ref05_reader_want, ref05_reader_want n⟩)], [], [], []⟩
theorem d_ref05_reader_num (b n : Nat) (x : h_ref05_reader_num.X T) : denF (c_ref05_reader_num b n) n Go.Proofs.Try.f58 p_ref05_reader_num h_ref05_reader_num o_ref05_reader_num x = ref05_reader_num n x := by kernel_rfl
theorem s_ref05_reader_num (b n : Nat) : PCalls Go.Proofs.Try.prog (Θ b) 58 ⟨h_ref05_reader_num, o_ref05_reader_num, ref05_reader_num n⟩ :=
  func_ok' (C := c_ref05_reader_num b n) (n := n) (p := p_ref05_reader_num) (ok_of mixed eqsOk ⟨s_ref05_reader_fail b n, s_ref05_reader_next b n, s_ref05_reader_want b n, trivial⟩ trivial trivial) Go.Proofs.Try.func58 (by kernel_rfl) (by kernel_rfl) (d_ref05_reader_num b n) (by kernel_rfl)
def h_ref05_reader_frac : Shape := ⟨slotsOf 2 [(0, .c (.box 1000000 0)), (1, .c (.hole (.str)))], [(1000000, 99, [.hole (.sl 107), .hole (.int .i64), .hole (.int .i64)])], []⟩
def o_ref05_reader_frac : List (Ex × Shape) := [(.ret, ⟨slotsOf 1 [(0, .agg [.hole (.int .i64), .hole (.int .i64)])], [(1000000, 99, [.hole (.sl 107), .hole (.int .i64), .hole (.int .i64)])], []⟩)]
def ref05_reader_frac (n : Nat) (x0 : ByteArray × (List (Int × ByteArray × Int × Int)) × Int × Int) : Option (Int × Int × (List (Int × ByteArray × Int × Int)) × Int × Int) :=
  (ref05_reader_num n x0).bind fun y1 =>
  (ref05_reader_num n (ByteArray.mk #[47], y1.2)).bind fun y2 =>
  some (y1.1, y2)
def p_ref05_reader_frac : Plan := .leaf
noncomputable def c_ref05_reader_frac (b n : Nat) : Cx := ⟨Go.Proofs.Try.prog, (Θ b), [23], [(58, ⟨h_ref05_reader_num, o_ref05_reader_num, ref05_reader_num n⟩)], [], [], []⟩
theorem d_ref05_reader_frac (b n : Nat) (x : h_ref05_reader_frac.X T) : denF (c_ref05_reader_frac b n) n Go.Proofs.Try.f60 p_ref05_reader_frac h_ref05_reader_frac o_ref05_reader_frac x = ref05_reader_frac n x := by kernel_rfl
theorem s_ref05_reader_frac (b n : Nat) : PCalls Go.Proofs.Try.prog (Θ b) 60 ⟨h_ref05_reader_frac, o_ref05_reader_frac, ref05_reader_frac n⟩ :=
  func_ok' (C := c_ref05_reader_frac b n) (n := n) (p := p_ref05_reader_frac) (ok_of mixed eqsOk ⟨s_ref05_reader_num b n, trivial⟩ trivial trivial) Go.Proofs.Try.func60 (by kernel_rfl) (by kernel_rfl) (d_ref05_reader_frac b n) (by kernel_rfl)
def h_ref05_reader_begins : Shape := ⟨slotsOf 4 [(0, .c (.box 1000000 0)), (1, .c (.hole (.str))), (2, .c (.hole (.int .i64))), (3, .c (.hole (.int .i64)))], [(1000000, 99, [.hole (.sl 107), .hole (.int .i64), .hole (.int .i64)])], []⟩
def o_ref05_reader_begins : List (Ex × Shape) := [(.ret, ⟨slotsOf 1 [(0, .c (.hole (.bool)))], [(1000000, 99, [.hole (.sl 107), .hole (.int .i64), .hole (.int .i64)])], []⟩)]
def ref05_reader_begins (n : Nat) (x0 : ByteArray × Int × Int × (List (Int × ByteArray × Int × Int)) × Int × Int) : Option (Bool × (List (Int × ByteArray × Int × Int)) × Int × Int) :=
  (ref05_reader_is n (x0.2.2.2.1, x0.2.2.2.2.1, x0.2.2.2.2.2, x0.1)).bind fun y1 =>
  bif !y1 then
    some (false, x0.2.2.2)
  else
  bif x0.2.1 == x0.2.2.1 then
    (ref05_reader_fail n (4, x0.2.2.2)).bind fun y2 =>
    some (false, y2)
  else
    (ref05_reader_next n x0.2.2.2).bind fun y3 =>
    some (true, y3.2.2.2.2)
def p_ref05_reader_begins : Plan := .leaf
noncomputable def c_ref05_reader_begins (b n : Nat) : Cx := ⟨Go.Proofs.Try.prog, (Θ b), [23], [(63, ⟨h_ref05_reader_is, o_ref05_reader_is, ref05_reader_is n⟩), (66, ⟨h_ref05_reader_fail, o_ref05_reader_fail, ref05_reader_fail n⟩), (64, ⟨h_ref05_reader_next, o_ref05_reader_next, ref05_reader_next n⟩)], [], [], []⟩
theorem d_ref05_reader_begins (b n : Nat) (x : h_ref05_reader_begins.X T) : denF (c_ref05_reader_begins b n) n Go.Proofs.Try.f61 p_ref05_reader_begins h_ref05_reader_begins o_ref05_reader_begins x = ref05_reader_begins n x := by kernel_rfl
theorem s_ref05_reader_begins (b n : Nat) : PCalls Go.Proofs.Try.prog (Θ b) 61 ⟨h_ref05_reader_begins, o_ref05_reader_begins, ref05_reader_begins n⟩ :=
  func_ok' (C := c_ref05_reader_begins b n) (n := n) (p := p_ref05_reader_begins) (ok_of mixed eqsOk ⟨s_ref05_reader_is b n, s_ref05_reader_fail b n, s_ref05_reader_next b n, trivial⟩ trivial trivial) Go.Proofs.Try.func61 (by kernel_rfl) (by kernel_rfl) (d_ref05_reader_begins b n) (by kernel_rfl)
def h_ref04_Words : Shape := ⟨slotsOf 0 [], [], []⟩
def o_ref04_Words : List (Ex × Shape) := [(.ret, ⟨slotsOf 1 [(0, .c (.hole (.sl 9)))], [], []⟩)]
def ref04_Words (n : Nat) (x0 : Unit) : Option (List ByteArray) :=
  some ((ByteArray.mk #[99, 121, 99, 108, 101]) :: ((ByteArray.mk #[116, 111]) :: ((ByteArray.mk #[98, 121]) :: ((ByteArray.mk #[112, 101, 97, 107]) :: ((ByteArray.mk #[110, 111, 100, 101]) :: ((ByteArray.mk #[104, 101, 97, 100]) :: ((ByteArray.mk #[118, 111, 108, 117, 109, 101]) :: ((ByteArray.mk #[102, 108, 111, 119]) :: ((ByteArray.mk #[117, 115, 101]) :: ((ByteArray.mk #[115, 112, 101, 101, 100]) :: ((ByteArray.mk #[103, 114, 97, 100, 101]) :: ((ByteArray.mk #[119, 105, 100, 116, 104]) :: ((ByteArray.mk #[108, 101, 110, 103, 116, 104]) :: ((ByteArray.mk #[103, 114, 101, 101, 110]) :: ((ByteArray.mk #[119, 97, 108, 107]) :: ((ByteArray.mk #[119, 105, 116, 104]) :: ((ByteArray.mk #[108, 111, 110, 103]) :: ((ByteArray.mk #[112, 97, 99, 101]) :: ((ByteArray.mk #[108, 101, 97, 115, 116]) :: ((ByteArray.mk #[112, 104, 97, 115, 101]) :: ((ByteArray.mk #[103, 114, 111, 117, 112]) :: ((ByteArray.mk #[114, 105, 110, 103]) :: ((ByteArray.mk #[102, 114, 101, 101]) :: ((ByteArray.mk #[102, 111, 101]) :: ((ByteArray.mk #[97, 114, 116, 101, 114, 121]) :: ((ByteArray.mk #[115, 116, 111, 112]) :: ((ByteArray.mk #[111, 117, 116]) :: ((ByteArray.mk #[105, 110]) :: ((ByteArray.mk #[97, 104, 101, 97, 100]) :: ((ByteArray.mk #[98, 97, 99, 107]) :: ((ByteArray.mk #[119, 101, 105, 103, 104, 116, 115]) :: ((ByteArray.mk #[112, 108, 97, 110]) :: ((ByteArray.mk #[111, 102, 102, 115, 101, 116]) :: ((ByteArray.mk #[115, 117, 109]) :: ((ByteArray.mk #[115, 112, 108, 105, 116]) :: ((ByteArray.mk #[121, 101, 108, 108, 111, 119]) :: ((ByteArray.mk #[114, 101, 100]) :: ((ByteArray.mk #[102, 108, 97, 115, 104]) :: ((ByteArray.mk #[98, 101, 115, 116]) :: ((ByteArray.mk #[121, 101, 115]) :: ((ByteArray.mk #[110, 111]) :: ((ByteArray.mk #[115, 112, 101, 110, 116]) :: []))))))))))))))))))))))))))))))))))))))))))
def p_ref04_Words : Plan := .leaf
noncomputable def c_ref04_Words (b n : Nat) : Cx := ⟨Go.Proofs.Try.prog, (Θ b), [23], [], [], [], []⟩
theorem d_ref04_Words (b n : Nat) (x : h_ref04_Words.X T) : denF (c_ref04_Words b n) n Go.Proofs.Try.f78 p_ref04_Words h_ref04_Words o_ref04_Words x = ref04_Words n x := by kernel_rfl
theorem s_ref04_Words (b n : Nat) : PCalls Go.Proofs.Try.prog (Θ b) 78 ⟨h_ref04_Words, o_ref04_Words, ref04_Words n⟩ :=
  func_ok' (C := c_ref04_Words b n) (n := n) (p := p_ref04_Words) (ok_of mixed eqsOk trivial trivial trivial) Go.Proofs.Try.func78 (by kernel_rfl) (by kernel_rfl) (d_ref04_Words b n) (by kernel_rfl)
def h_ref04_In : Shape := ⟨slotsOf 2 [(0, .c (.hole (.str))), (1, .c (.hole (.sl 9)))], [], []⟩
def o_ref04_In : List (Ex × Shape) := [(.ret, ⟨slotsOf 1 [(0, .c (.hole (.bool)))], [], []⟩)]
def ref04_In (n : Nat) (x0 : ByteArray × List ByteArray) : Option (Bool) :=
  (iterL (Y := (Bool) ⊕ (Unit)) n (fun (x1 : ByteArray × (List ByteArray) × Int) =>
    let e0 := x1.2.1.length
    bif decide (x1.2.2 < ((e0 : Nat) : Int)) then
      bif inB x1.2.2 e0 then
        bif strEq (atI (ByteArray.mk #[]) x1.2.1 x1.2.2) x1.1 then
          some (.inr (.inl true))
        else
        some (.inl (x1.1, x1.2.1, wrap64 (x1.2.2 + 1)))
      else
      none
    else
    some (.inr (.inr ()))) (x0.1, x0.2, 0)).bind (Sum.elim (fun (z2 : Bool) =>
    some z2) (fun (z3 : Unit) =>
    some false))
def p_ref04_In : Plan := .two (.leaf) (.two (.two (.leaf) (.one (.loop ⟨slotsOf 18 [(0, .c (.hole (.str))), (1, .c (.hole (.sl 9))), (5, .c (.hole (.int .i64)))], [], []⟩ [(.ret, ⟨slotsOf 18 [(4, .c (.hole (.bool)))], [], []⟩), (.exit 0, ⟨slotsOf 18 [], [], []⟩)] (.leaf)))) (.leaf))
noncomputable def c_ref04_In (b n : Nat) : Cx := ⟨Go.Proofs.Try.prog, (Θ b), [23], [], [], [], []⟩
theorem d_ref04_In (b n : Nat) (x : h_ref04_In.X T) : denF (c_ref04_In b n) n Go.Proofs.Try.f40 p_ref04_In h_ref04_In o_ref04_In x = ref04_In n x := by kernel_rfl
theorem s_ref04_In (b n : Nat) : PCalls Go.Proofs.Try.prog (Θ b) 40 ⟨h_ref04_In, o_ref04_In, ref04_In n⟩ :=
  func_ok' (C := c_ref04_In b n) (n := n) (p := p_ref04_In) (ok_of mixed eqsOk trivial trivial trivial) Go.Proofs.Try.func40 (by kernel_rfl) (by kernel_rfl) (d_ref04_In b n) (by kernel_rfl)
def h_ref04_Reserved : Shape := ⟨slotsOf 1 [(0, .c (.hole (.str)))], [], []⟩
def o_ref04_Reserved : List (Ex × Shape) := [(.ret, ⟨slotsOf 1 [(0, .c (.hole (.bool)))], [], []⟩)]
def ref04_Reserved (n : Nat) (x0 : ByteArray) : Option (Bool) :=
  (ref04_Words n ()).bind fun y1 =>
  (ref04_In n (x0, y1)).bind fun y2 =>
  some y2
def p_ref04_Reserved : Plan := .leaf
noncomputable def c_ref04_Reserved (b n : Nat) : Cx := ⟨Go.Proofs.Try.prog, (Θ b), [23], [(78, ⟨h_ref04_Words, o_ref04_Words, ref04_Words n⟩), (40, ⟨h_ref04_In, o_ref04_In, ref04_In n⟩)], [], [], []⟩
theorem d_ref04_Reserved (b n : Nat) (x : h_ref04_Reserved.X T) : denF (c_ref04_Reserved b n) n Go.Proofs.Try.f77 p_ref04_Reserved h_ref04_Reserved o_ref04_Reserved x = ref04_Reserved n x := by kernel_rfl
theorem s_ref04_Reserved (b n : Nat) : PCalls Go.Proofs.Try.prog (Θ b) 77 ⟨h_ref04_Reserved, o_ref04_Reserved, ref04_Reserved n⟩ :=
  func_ok' (C := c_ref04_Reserved b n) (n := n) (p := p_ref04_Reserved) (ok_of mixed eqsOk ⟨s_ref04_Words b n, s_ref04_In b n, trivial⟩ trivial trivial) Go.Proofs.Try.func77 (by kernel_rfl) (by kernel_rfl) (d_ref04_Reserved b n) (by kernel_rfl)
def h_ref05_reader_name : Shape := ⟨slotsOf 1 [(0, .c (.box 1000000 0))], [(1000000, 99, [.hole (.sl 107), .hole (.int .i64), .hole (.int .i64)])], []⟩
def o_ref05_reader_name : List (Ex × Shape) := [(.ret, ⟨slotsOf 1 [(0, .c (.hole (.str)))], [(1000000, 99, [.hole (.sl 107), .hole (.int .i64), .hole (.int .i64)])], []⟩)]
def ref05_reader_name (n : Nat) (x0 : (List (Int × ByteArray × Int × Int)) × Int × Int) : Option (ByteArray × (List (Int × ByteArray × Int × Int)) × Int × Int) :=
  let e0 := inB 0 x0.1.length
  let e1 := atI (0, ByteArray.mk #[], 0, 0) x0.1 0
  letJ (fun (x2 : Bool × (List (Int × ByteArray × Int × Int)) × Int × Int) =>
    bif x2.1 then
      (ref05_reader_fail n (50, x2.2)).bind fun y4 =>
      some (ByteArray.mk #[], y4)
    else
      (ref05_reader_next n x2.2).bind fun y5 =>
      some (y5.2.1, y5.2.2.2.2)) fun J3 =>
  bif e0 then
    bif !(e1.1 == 1) then
      J3 (true, x0)
    else
    bif e0 then
      (ref04_Reserved n e1.2.1).bind fun y1 =>
      J3 (y1, x0)
    else
    none
  else
  none
def p_ref05_reader_name : Plan := .two (.leaf) (.two (.two (.join ⟨slotsOf 26 [(0, .c (.box 1000000 0)), (20, .c (.hole (.bool)))], [(1000000, 99, [.hole (.sl 107), .hole (.int .i64), .hole (.int .i64)])], []⟩ (.leaf)) (.leaf)) (.leaf))
noncomputable def c_ref05_reader_name (b n : Nat) : Cx := ⟨Go.Proofs.Try.prog, (Θ b), [23], [(66, ⟨h_ref05_reader_fail, o_ref05_reader_fail, ref05_reader_fail n⟩), (64, ⟨h_ref05_reader_next, o_ref05_reader_next, ref05_reader_next n⟩), (77, ⟨h_ref04_Reserved, o_ref04_Reserved, ref04_Reserved n⟩)], [], [], []⟩
theorem d_ref05_reader_name (b n : Nat) (x : h_ref05_reader_name.X T) : denF (c_ref05_reader_name b n) n Go.Proofs.Try.f69 p_ref05_reader_name h_ref05_reader_name o_ref05_reader_name x = ref05_reader_name n x := by kernel_rfl
theorem s_ref05_reader_name (b n : Nat) : PCalls Go.Proofs.Try.prog (Θ b) 69 ⟨h_ref05_reader_name, o_ref05_reader_name, ref05_reader_name n⟩ :=
  func_ok' (C := c_ref05_reader_name b n) (n := n) (p := p_ref05_reader_name) (ok_of mixed eqsOk ⟨s_ref05_reader_fail b n, s_ref05_reader_next b n, s_ref04_Reserved b n, trivial⟩ trivial trivial) Go.Proofs.Try.func69 (by kernel_rfl) (by kernel_rfl) (d_ref05_reader_name b n) (by kernel_rfl)
def h_ref05_reader_head : Shape := ⟨slotsOf 1 [(0, .c (.box 1000000 0))], [(1000000, 99, [.hole (.sl 107), .hole (.int .i64), .hole (.int .i64)])], []⟩
def o_ref05_reader_head : List (Ex × Shape) := [(.ret, ⟨slotsOf 1 [(0, .agg [.hole (.str), .hole (.int .i64), .hole (.int .i64), .hole (.int .i64), .hole (.int .i64), .hole (.int .i64), .hole (.int .i64), .hole (.int .i64), .hole (.int .i64), .hole (.int .i64), .hole (.int .i64)])], [(1000000, 99, [.hole (.sl 107), .hole (.int .i64), .hole (.int .i64)])], []⟩)]
def ref05_reader_head (n : Nat) (x0 : (List (Int × ByteArray × Int × Int)) × Int × Int) : Option (ByteArray × Int × Int × Int × Int × Int × Int × Int × Int × Int × Int × (List (Int × ByteArray × Int × Int)) × Int × Int) :=
  bif inB 0 x0.1.length then
    (ref05_reader_name n x0).bind fun y1 =>
    (ref05_reader_num n (ByteArray.mk #[118, 111, 108, 117, 109, 101], y1.2)).bind fun y2 =>
    (ref05_reader_num n (ByteArray.mk #[102, 108, 111, 119], y2.2)).bind fun y3 =>
    (ref05_reader_frac n (ByteArray.mk #[117, 115, 101], y3.2)).bind fun y4 =>
    (ref05_reader_num n (ByteArray.mk #[115, 112, 101, 101, 100], y4.2.2)).bind fun y5 =>
    (ref05_reader_want n (ByteArray.mk #[103, 114, 97, 100, 101], y5.2)).bind fun y6 =>
    (ref05_reader_is n (y6.1, y6.2.1, y6.2.2, ByteArray.mk #[45])).bind fun y7 =>
    letJ (fun (x9 : Bool × (List (Int × ByteArray × Int × Int)) × Int × Int × ByteArray × Int × Int × Int × Int × Int × Int × Int × Int × Int × Int × ByteArray × Int × Int × Int × Int × Int × Int × Int × Int × Int × Int) =>
      (ref05_reader_num n (ByteArray.mk #[], x9.2.1, x9.2.2.1, x9.2.2.2.1)).bind fun y11 =>
      letJ (fun (x12 : (List (Int × ByteArray × Int × Int)) × Int × Int × ByteArray × Int × Int × Int × Int × Int × Int × Int × Int × Int × Int × ByteArray × Int × Int × Int × Int × Int × Int × Int × Int × Int × Int) =>
        (ref05_reader_num n (ByteArray.mk #[119, 105, 100, 116, 104], x12.1, x12.2.1, x12.2.2.1)).bind fun y14 =>
        (ref05_reader_num n (ByteArray.mk #[108, 101, 110, 103, 116, 104], y14.2)).bind fun y15 =>
        (ref05_reader_num n (ByteArray.mk #[103, 114, 101, 101, 110], y15.2)).bind fun y16 =>
        (ref05_reader_want n (ByteArray.mk #[59], y16.2)).bind fun y17 =>
        some (x12.2.2.2.2.2.2.2.2.2.2.2.2.2.2.1, x12.2.2.2.2.2.2.2.2.2.2.2.2.2.2.2.1, x12.2.2.2.2.2.2.2.2.2.2.2.2.2.2.2.2.1, x12.2.2.2.2.2.2.2.2.2.2.2.2.2.2.2.2.2.1, x12.2.2.2.2.2.2.2.2.2.2.2.2.2.2.2.2.2.2.1, x12.2.2.2.2.2.2.2.2.2.2.2.2.2.2.2.2.2.2.2.1, x12.2.2.2.2.2.2.2.2.2.2.2.2.2.2.2.2.2.2.2.2.1, y14.1, y15.1, y16.1, x12.2.2.2.2.2.2.2.2.2.2.2.2.2.2.2.2.2.2.2.2.2.2.2.2, y17)) fun J13 =>
      bif x9.1 then
        J13 (y11.2.1, y11.2.2.1, y11.2.2.2, x9.2.2.2.2.1, x9.2.2.2.2.2.1, x9.2.2.2.2.2.2.1, x9.2.2.2.2.2.2.2.1, x9.2.2.2.2.2.2.2.2.1, x9.2.2.2.2.2.2.2.2.2.1, x9.2.2.2.2.2.2.2.2.2.2.1, x9.2.2.2.2.2.2.2.2.2.2.2.1, x9.2.2.2.2.2.2.2.2.2.2.2.2.1, x9.2.2.2.2.2.2.2.2.2.2.2.2.2.1, x9.2.2.2.2.2.2.2.2.2.2.2.2.2.2.1, x9.2.2.2.2.2.2.2.2.2.2.2.2.2.2.2.1, x9.2.2.2.2.2.2.2.2.2.2.2.2.2.2.2.2.1, x9.2.2.2.2.2.2.2.2.2.2.2.2.2.2.2.2.2.1, x9.2.2.2.2.2.2.2.2.2.2.2.2.2.2.2.2.2.2.1, x9.2.2.2.2.2.2.2.2.2.2.2.2.2.2.2.2.2.2.2.1, x9.2.2.2.2.2.2.2.2.2.2.2.2.2.2.2.2.2.2.2.2.1, wrap64 (0 - y11.1), x9.2.2.2.2.2.2.2.2.2.2.2.2.2.2.2.2.2.2.2.2.2.2)
      else
      J13 (y11.2.1, y11.2.2.1, y11.2.2.2, x9.2.2.2.2.1, x9.2.2.2.2.2.1, x9.2.2.2.2.2.2.1, x9.2.2.2.2.2.2.2.1, x9.2.2.2.2.2.2.2.2.1, x9.2.2.2.2.2.2.2.2.2.1, x9.2.2.2.2.2.2.2.2.2.2.1, x9.2.2.2.2.2.2.2.2.2.2.2.1, x9.2.2.2.2.2.2.2.2.2.2.2.2.1, x9.2.2.2.2.2.2.2.2.2.2.2.2.2.1, x9.2.2.2.2.2.2.2.2.2.2.2.2.2.2.1, x9.2.2.2.2.2.2.2.2.2.2.2.2.2.2.2.1, x9.2.2.2.2.2.2.2.2.2.2.2.2.2.2.2.2.1, x9.2.2.2.2.2.2.2.2.2.2.2.2.2.2.2.2.2.1, x9.2.2.2.2.2.2.2.2.2.2.2.2.2.2.2.2.2.2.1, x9.2.2.2.2.2.2.2.2.2.2.2.2.2.2.2.2.2.2.2.1, x9.2.2.2.2.2.2.2.2.2.2.2.2.2.2.2.2.2.2.2.2.1, y11.1, x9.2.2.2.2.2.2.2.2.2.2.2.2.2.2.2.2.2.2.2.2.2.2)) fun J10 =>
    bif y7 then
      (ref05_reader_next n y6).bind fun y8 =>
      J10 (y7, y8.2.2.2.2.1, y8.2.2.2.2.2.1, y8.2.2.2.2.2.2, ByteArray.mk #[], 0, 0, 0, 0, 0, 0, 0, 0, 0, 0, y1.1, y2.1, y3.1, y4.1, y4.2.1, y5.1, 0, 0, 0, 0, (atI (0, ByteArray.mk #[], 0, 0) x0.1 0).2.2.2)
    else
    J10 (y7, y6.1, y6.2.1, y6.2.2, ByteArray.mk #[], 0, 0, 0, 0, 0, 0, 0, 0, 0, 0, y1.1, y2.1, y3.1, y4.1, y4.2.1, y5.1, 0, 0, 0, 0, (atI (0, ByteArray.mk #[], 0, 0) x0.1 0).2.2.2)
  else
  none
def p_ref05_reader_head : Plan := .two (.leaf) (.two (.leaf) (.two (.leaf) (.two (.leaf) (.two (.leaf) (.two (.leaf) (.two (.leaf) (.two (.leaf) (.two (.leaf) (.two (.join ⟨slotsOf 55 [(0, .c (.box 1000000 0)), (2, .c (.box 2 0)), (3, .c (.box 3 0)), (4, .c (.hole (.bool)))], [(1000000, 99, [.hole (.sl 107), .hole (.int .i64), .hole (.int .i64)]), (2, 44, [.hole (.str), .hole (.int .i64), .hole (.int .i64), .hole (.int .i64), .hole (.int .i64), .hole (.int .i64), .hole (.int .i64), .hole (.int .i64), .hole (.int .i64), .hole (.int .i64), .hole (.int .i64)]), (3, 44, [.hole (.str), .hole (.int .i64), .hole (.int .i64), .hole (.int .i64), .hole (.int .i64), .hole (.int .i64), .hole (.int .i64), .hole (.int .i64), .hole (.int .i64), .hole (.int .i64), .hole (.int .i64)])], []⟩ (.leaf)) (.two (.leaf) (.two (.join ⟨slotsOf 55 [(0, .c (.box 1000000 0)), (2, .c (.box 2 0)), (3, .c (.box 3 0))], [(1000000, 99, [.hole (.sl 107), .hole (.int .i64), .hole (.int .i64)]), (2, 44, [.hole (.str), .hole (.int .i64), .hole (.int .i64), .hole (.int .i64), .hole (.int .i64), .hole (.int .i64), .hole (.int .i64), .hole (.int .i64), .hole (.int .i64), .hole (.int .i64), .hole (.int .i64)]), (3, 44, [.hole (.str), .hole (.int .i64), .hole (.int .i64), .hole (.int .i64), .hole (.int .i64), .hole (.int .i64), .hole (.int .i64), .hole (.int .i64), .hole (.int .i64), .hole (.int .i64), .hole (.int .i64)])], []⟩ (.leaf)) (.leaf))))))))))))
noncomputable def c_ref05_reader_head (b n : Nat) : Cx := ⟨Go.Proofs.Try.prog, (Θ b), [23], [(63, ⟨h_ref05_reader_is, o_ref05_reader_is, ref05_reader_is n⟩), (64, ⟨h_ref05_reader_next, o_ref05_reader_next, ref05_reader_next n⟩), (59, ⟨h_ref05_reader_want, o_ref05_reader_want, ref05_reader_want n⟩), (58, ⟨h_ref05_reader_num, o_ref05_reader_num, ref05_reader_num n⟩), (60, ⟨h_ref05_reader_frac, o_ref05_reader_frac, ref05_reader_frac n⟩), (69, ⟨h_ref05_reader_name, o_ref05_reader_name, ref05_reader_name n⟩)], [], [], []⟩
theorem d_ref05_reader_head (b n : Nat) (x : h_ref05_reader_head.X T) : denF (c_ref05_reader_head b n) n Go.Proofs.Try.f70 p_ref05_reader_head h_ref05_reader_head o_ref05_reader_head x = ref05_reader_head n x := by kernel_rfl
theorem s_ref05_reader_head (b n : Nat) : PCalls Go.Proofs.Try.prog (Θ b) 70 ⟨h_ref05_reader_head, o_ref05_reader_head, ref05_reader_head n⟩ :=
  func_ok' (C := c_ref05_reader_head b n) (n := n) (p := p_ref05_reader_head) (ok_of mixed eqsOk ⟨s_ref05_reader_is b n, s_ref05_reader_next b n, s_ref05_reader_want b n, s_ref05_reader_num b n, s_ref05_reader_frac b n, s_ref05_reader_name b n, trivial⟩ trivial trivial) Go.Proofs.Try.func70 (by kernel_rfl) (by kernel_rfl) (d_ref05_reader_head b n) (by kernel_rfl)
def h_ref05_reader_walk : Shape := ⟨slotsOf 1 [(0, .c (.box 1000000 0))], [(1000000, 99, [.hole (.sl 107), .hole (.int .i64), .hole (.int .i64)])], []⟩
def o_ref05_reader_walk : List (Ex × Shape) := [(.ret, ⟨slotsOf 1 [(0, .agg [.hole (.str), .hole (.str), .hole (.int .i64), .hole (.int .i64), .hole (.int .i64), .hole (.int .i64)])], [(1000000, 99, [.hole (.sl 107), .hole (.int .i64), .hole (.int .i64)])], []⟩)]
def ref05_reader_walk (n : Nat) (x0 : (List (Int × ByteArray × Int × Int)) × Int × Int) : Option (ByteArray × ByteArray × Int × Int × Int × Int × (List (Int × ByteArray × Int × Int)) × Int × Int) :=
  bif inB 0 x0.1.length then
    (ref05_reader_name n x0).bind fun y1 =>
    (ref05_reader_want n (ByteArray.mk #[119, 105, 116, 104], y1.2)).bind fun y2 =>
    (ref05_reader_name n y2).bind fun y3 =>
    (ref05_reader_num n (ByteArray.mk #[108, 111, 110, 103], y3.2)).bind fun y4 =>
    (ref05_reader_num n (ByteArray.mk #[112, 97, 99, 101], y4.2)).bind fun y5 =>
    (ref05_reader_num n (ByteArray.mk #[108, 101, 97, 115, 116], y5.2)).bind fun y6 =>
    (ref05_reader_want n (ByteArray.mk #[59], y6.2)).bind fun y7 =>
    some (y1.1, y3.1, y4.1, y5.1, y6.1, (atI (0, ByteArray.mk #[], 0, 0) x0.1 0).2.2.2, y7)
  else
  none
def p_ref05_reader_walk : Plan := .leaf
noncomputable def c_ref05_reader_walk (b n : Nat) : Cx := ⟨Go.Proofs.Try.prog, (Θ b), [23], [(59, ⟨h_ref05_reader_want, o_ref05_reader_want, ref05_reader_want n⟩), (58, ⟨h_ref05_reader_num, o_ref05_reader_num, ref05_reader_num n⟩), (69, ⟨h_ref05_reader_name, o_ref05_reader_name, ref05_reader_name n⟩)], [], [], []⟩
theorem d_ref05_reader_walk (b n : Nat) (x : h_ref05_reader_walk.X T) : denF (c_ref05_reader_walk b n) n Go.Proofs.Try.f71 p_ref05_reader_walk h_ref05_reader_walk o_ref05_reader_walk x = ref05_reader_walk n x := by kernel_rfl
theorem s_ref05_reader_walk (b n : Nat) : PCalls Go.Proofs.Try.prog (Θ b) 71 ⟨h_ref05_reader_walk, o_ref05_reader_walk, ref05_reader_walk n⟩ :=
  func_ok' (C := c_ref05_reader_walk b n) (n := n) (p := p_ref05_reader_walk) (ok_of mixed eqsOk ⟨s_ref05_reader_want b n, s_ref05_reader_num b n, s_ref05_reader_name b n, trivial⟩ trivial trivial) Go.Proofs.Try.func71 (by kernel_rfl) (by kernel_rfl) (d_ref05_reader_walk b n) (by kernel_rfl)
def h_ref05_reader_names : Shape := ⟨slotsOf 2 [(0, .c (.box 1000000 0)), (1, .c (.hole (.int .i64)))], [(1000000, 99, [.hole (.sl 107), .hole (.int .i64), .hole (.int .i64)])], []⟩
def o_ref05_reader_names : List (Ex × Shape) := [(.ret, ⟨slotsOf 1 [(0, .c (.hole (.sl 9)))], [(1000000, 99, [.hole (.sl 107), .hole (.int .i64), .hole (.int .i64)])], []⟩)]
def ref05_reader_names (n : Nat) (x0 : Int × (List (Int × ByteArray × Int × Int)) × Int × Int) : Option ((List ByteArray) × (List (Int × ByteArray × Int × Int)) × Int × Int) :=
  (ref05_reader_name n x0.2).bind fun y1 =>
  (iterL (Y := ((List (Int × ByteArray × Int × Int)) × Int × Int × List ByteArray)) n (fun (x2 : Int × (List (Int × ByteArray × Int × Int)) × Int × Int × List ByteArray) =>
    (ref05_reader_is n (x2.2.1, x2.2.2.1, x2.2.2.2.1, ByteArray.mk #[44])).bind fun y3 =>
    bif y3 then
      (ref05_reader_next n (x2.2.1, x2.2.2.1, x2.2.2.2.1)).bind fun y4 =>
      let e0 := inB 0 y4.2.2.2.2.1.length
      let e1 := atI (0, ByteArray.mk #[], 0, 0) y4.2.2.2.2.1 0
      letJ (fun (x9 : Int × (List (Int × ByteArray × Int × Int)) × Int × Int × List ByteArray) =>
        (ref05_reader_name n (x9.2.1, x9.2.2.1, x9.2.2.2.1)).bind fun y11 =>
        let e2 := y11.1 :: []
        bif fitB (x9.2.2.2.2.length + e2.length) 16 then
          some (.inl (x9.1, y11.2.1, y11.2.2.1, y11.2.2.2, x9.2.2.2.2 ++ e2))
        else
        none) fun J10 =>
      letJ (fun (x6 : Int × Bool × (List (Int × ByteArray × Int × Int)) × Int × Int × List ByteArray) =>
        bif x6.2.1 then
          (ref05_reader_fail n (4, x6.2.2.1, x6.2.2.2.1, x6.2.2.2.2.1)).bind fun y8 =>
          J10 (x6.1, y8.1, y8.2.1, y8.2.2, x6.2.2.2.2.2)
        else
        J10 (x6.1, x6.2.2)) fun J7 =>
      bif ((x2.2.2.2.2.length : Nat) : Int) == x2.1 then
        bif e0 then
          bif e1.1 == 1 then
            bif e0 then
              (ref04_Reserved n e1.2.1).bind fun y5 =>
              J7 (x2.1, !y5, y4.2.2.2.2.1, y4.2.2.2.2.2.1, y4.2.2.2.2.2.2, x2.2.2.2.2)
            else
            none
          else
          J7 (x2.1, false, y4.2.2.2.2.1, y4.2.2.2.2.2.1, y4.2.2.2.2.2.2, x2.2.2.2.2)
        else
        none
      else
      J7 (x2.1, false, y4.2.2.2.2.1, y4.2.2.2.2.2.1, y4.2.2.2.2.2.2, x2.2.2.2.2)
    else
    some (.inr x2.2)) (x0.1, y1.2.1, y1.2.2.1, y1.2.2.2, y1.1 :: [])).bind fun (z12 : (List (Int × ByteArray × Int × Int)) × Int × Int × List ByteArray) =>
    (ref05_reader_want n (ByteArray.mk #[59], z12.1, z12.2.1, z12.2.2.1)).bind fun y13 =>
    some (z12.2.2.2, y13)
def p_ref05_reader_names : Plan := .two (.leaf) (.two (.leaf) (.two (.one (.loop ⟨slotsOf 48 [(0, .c (.box 1000000 0)), (1, .c (.hole (.int .i64))), (5, .c (.row 8))], [(1000000, 99, [.hole (.sl 107), .hole (.int .i64), .hole (.int .i64)])], [(8, 9)]⟩ [(.exit 0, ⟨slotsOf 48 [(0, .c (.box 1000000 0)), (5, .c (.row 8))], [(1000000, 99, [.hole (.sl 107), .hole (.int .i64), .hole (.int .i64)])], [(8, 9)]⟩)] (.two (.leaf) (.one (.two (.leaf) (.two (.join ⟨slotsOf 48 [(0, .c (.box 1000000 0)), (1, .c (.hole (.int .i64))), (5, .c (.row 8))], [(1000000, 99, [.hole (.sl 107), .hole (.int .i64), .hole (.int .i64)])], [(8, 9)]⟩ (.two (.join ⟨slotsOf 48 [(0, .c (.box 1000000 0)), (1, .c (.hole (.int .i64))), (5, .c (.row 8)), (37, .c (.hole (.bool)))], [(1000000, 99, [.hole (.sl 107), .hole (.int .i64), .hole (.int .i64)])], [(8, 9)]⟩ (.leaf)) (.leaf))) (.leaf))))))) (.leaf)))
noncomputable def c_ref05_reader_names (b n : Nat) : Cx := ⟨Go.Proofs.Try.prog, (Θ b), [23], [(63, ⟨h_ref05_reader_is, o_ref05_reader_is, ref05_reader_is n⟩), (66, ⟨h_ref05_reader_fail, o_ref05_reader_fail, ref05_reader_fail n⟩), (64, ⟨h_ref05_reader_next, o_ref05_reader_next, ref05_reader_next n⟩), (59, ⟨h_ref05_reader_want, o_ref05_reader_want, ref05_reader_want n⟩), (77, ⟨h_ref04_Reserved, o_ref04_Reserved, ref04_Reserved n⟩), (69, ⟨h_ref05_reader_name, o_ref05_reader_name, ref05_reader_name n⟩)], [], [], []⟩
theorem d_ref05_reader_names (b n : Nat) (x : h_ref05_reader_names.X T) : denF (c_ref05_reader_names b n) n Go.Proofs.Try.f72 p_ref05_reader_names h_ref05_reader_names o_ref05_reader_names x = ref05_reader_names n x := by kernel_rfl
theorem s_ref05_reader_names (b n : Nat) : PCalls Go.Proofs.Try.prog (Θ b) 72 ⟨h_ref05_reader_names, o_ref05_reader_names, ref05_reader_names n⟩ :=
  func_ok' (C := c_ref05_reader_names b n) (n := n) (p := p_ref05_reader_names) (ok_of mixed eqsOk ⟨s_ref05_reader_is b n, s_ref05_reader_fail b n, s_ref05_reader_next b n, s_ref05_reader_want b n, s_ref04_Reserved b n, s_ref05_reader_name b n, trivial⟩ trivial trivial) Go.Proofs.Try.func72 (by kernel_rfl) (by kernel_rfl) (d_ref05_reader_names b n) (by kernel_rfl)
def h_ref05_reader_group : Shape := ⟨slotsOf 1 [(0, .c (.box 1000000 0))], [(1000000, 99, [.hole (.sl 107), .hole (.int .i64), .hole (.int .i64)])], []⟩
def o_ref05_reader_group : List (Ex × Shape) := [(.ret, ⟨slotsOf 1 [(0, .agg [.hole (.sl 69)])], [(1000000, 99, [.hole (.sl 107), .hole (.int .i64), .hole (.int .i64)])], []⟩)]
def ref05_reader_group (n : Nat) (x0 : (List (Int × ByteArray × Int × Int)) × Int × Int) : Option ((List (Bool × List ByteArray)) × (List (Int × ByteArray × Int × Int)) × Int × Int) :=
  (ref05_reader_want n (ByteArray.mk #[123], x0)).bind fun y1 =>
  letJ (fun (x4 : (List (Int × ByteArray × Int × Int)) × Int × Int) =>
    (iterL (Y := ((List (Int × ByteArray × Int × Int)) × Int × Int × List (Bool × List ByteArray))) n (fun (x13 : (List (Int × ByteArray × Int × Int)) × Int × Int × List (Bool × List ByteArray)) =>
      (ref05_reader_begins n (ByteArray.mk #[114, 105, 110, 103], ((x13.2.2.2.length : Nat) : Int), 2, x13.1, x13.2.1, x13.2.2.1)).bind fun y14 =>
      bif y14.1 then
        (ref05_reader_is n (y14.2.1, y14.2.2.1, y14.2.2.2, ByteArray.mk #[102, 114, 101, 101])).bind fun y15 =>
        letJ (fun (x17 : (List (Int × ByteArray × Int × Int)) × Int × Int × Bool × List (Bool × List ByteArray)) =>
          (ref05_reader_names n (4, x17.1, x17.2.1, x17.2.2.1)).bind fun y19 =>
          let e0 := (x17.2.2.2.1, y19.1) :: []
          bif fitB (x17.2.2.2.2.length + e0.length) 32 then
            some (.inl (y19.2.1, y19.2.2.1, y19.2.2.2, x17.2.2.2.2 ++ e0))
          else
          none) fun J18 =>
        bif y15 then
          (ref05_reader_next n y14.2).bind fun y16 =>
          J18 (y16.2.2.2.2.1, y16.2.2.2.2.2.1, y16.2.2.2.2.2.2, y15, x13.2.2.2)
        else
        J18 (y14.2.1, y14.2.2.1, y14.2.2.2, y15, x13.2.2.2)
      else
      some (.inr (y14.2.1, y14.2.2.1, y14.2.2.2, x13.2.2.2))) (x4.1, x4.2.1, x4.2.2, [])).bind fun (z20 : (List (Int × ByteArray × Int × Int)) × Int × Int × List (Bool × List ByteArray)) =>
      (ref05_reader_want n (ByteArray.mk #[125], z20.1, z20.2.1, z20.2.2.1)).bind fun y21 =>
      some (z20.2.2.2, y21)) fun J5 =>
  (ref05_reader_is n (y1.1, y1.2.1, y1.2.2, ByteArray.mk #[114, 105, 110, 103])).bind fun y2 =>
  bif !y2 then
    (ref05_reader_fail n (50, y1)).bind fun y3 =>
    J5 y3
  else
  J5 y1
def p_ref05_reader_group : Plan := .two (.leaf) (.two (.leaf) (.two (.leaf) (.two (.join ⟨slotsOf 36 [(0, .c (.box 1000000 0)), (2, .c (.box 2 0)), (3, .c (.box 3 0))], [(1000000, 99, [.hole (.sl 107), .hole (.int .i64), .hole (.int .i64)]), (2, 67, [.nil]), (3, 67, [.nil])], []⟩ (.leaf)) (.two (.one (.loop ⟨slotsOf 36 [(0, .c (.box 1000000 0)), (2, .c (.box 2 0)), (3, .c (.box 3 0))], [(1000000, 99, [.hole (.sl 107), .hole (.int .i64), .hole (.int .i64)]), (2, 67, [.nil]), (3, 67, [.row 31])], [(31, 69)]⟩ [(.exit 0, ⟨slotsOf 36 [(0, .c (.box 1000000 0)), (2, .c (.box 2 0)), (3, .c (.box 3 0))], [(1000000, 99, [.hole (.sl 107), .hole (.int .i64), .hole (.int .i64)]), (2, 67, [.nil]), (3, 67, [.row 31])], [(31, 69)]⟩)] (.two (.leaf) (.one (.two (.leaf) (.two (.leaf) (.two (.join ⟨slotsOf 36 [(0, .c (.box 1000000 0)), (2, .c (.box 2 0)), (3, .c (.box 3 0)), (4, .c (.box 4 0))], [(1000000, 99, [.hole (.sl 107), .hole (.int .i64), .hole (.int .i64)]), (2, 67, [.nil]), (3, 67, [.row 31]), (4, 69, [.hole (.bool), .nil])], [(31, 69)]⟩ (.leaf)) (.leaf)))))))) (.leaf)))))
noncomputable def c_ref05_reader_group (b n : Nat) : Cx := ⟨Go.Proofs.Try.prog, (Θ b), [23], [(63, ⟨h_ref05_reader_is, o_ref05_reader_is, ref05_reader_is n⟩), (66, ⟨h_ref05_reader_fail, o_ref05_reader_fail, ref05_reader_fail n⟩), (64, ⟨h_ref05_reader_next, o_ref05_reader_next, ref05_reader_next n⟩), (59, ⟨h_ref05_reader_want, o_ref05_reader_want, ref05_reader_want n⟩), (61, ⟨h_ref05_reader_begins, o_ref05_reader_begins, ref05_reader_begins n⟩), (72, ⟨h_ref05_reader_names, o_ref05_reader_names, ref05_reader_names n⟩)], [], [], []⟩
theorem d_ref05_reader_group (b n : Nat) (x : h_ref05_reader_group.X T) : denF (c_ref05_reader_group b n) n Go.Proofs.Try.f73 p_ref05_reader_group h_ref05_reader_group o_ref05_reader_group x = ref05_reader_group n x := by kernel_rfl
theorem s_ref05_reader_group (b n : Nat) : PCalls Go.Proofs.Try.prog (Θ b) 73 ⟨h_ref05_reader_group, o_ref05_reader_group, ref05_reader_group n⟩ :=
  func_ok' (C := c_ref05_reader_group b n) (n := n) (p := p_ref05_reader_group) (ok_of mixed eqsOk ⟨s_ref05_reader_is b n, s_ref05_reader_fail b n, s_ref05_reader_next b n, s_ref05_reader_want b n, s_ref05_reader_begins b n, s_ref05_reader_names b n, trivial⟩ trivial trivial) Go.Proofs.Try.func73 (by kernel_rfl) (by kernel_rfl) (d_ref05_reader_group b n) (by kernel_rfl)
def h_ref05_reader_node : Shape := ⟨slotsOf 1 [(0, .c (.box 1000000 0))], [(1000000, 99, [.hole (.sl 107), .hole (.int .i64), .hole (.int .i64)])], []⟩
def o_ref05_reader_node : List (Ex × Shape) := [(.ret, ⟨slotsOf 1 [(0, .agg [.hole (.str), .hole (.sl 44), .hole (.sl 78), .hole (.sl 42), .hole (.sl 67), .hole (.sl 47), .hole (.int .i64)])], [(1000000, 99, [.hole (.sl 107), .hole (.int .i64), .hole (.int .i64)])], []⟩)]
def ref05_reader_node (n : Nat) (x0 : (List (Int × ByteArray × Int × Int)) × Int × Int) : Option (ByteArray × (List (ByteArray × Int × Int × Int × Int × Int × Int × Int × Int × Int × Int)) × (List (ByteArray × ByteArray × Int × Int × Int × Int)) × (List (ByteArray × (List ByteArray) × Int)) × (List (List (Bool × List ByteArray))) × (List (ByteArray × ByteArray × Int)) × Int × (List (Int × ByteArray × Int × Int)) × Int × Int) :=
  bif inB 0 x0.1.length then
    (ref05_reader_name n x0).bind fun y1 =>
    (ref05_reader_want n (ByteArray.mk #[123], y1.2)).bind fun y2 =>
    (iterL (Y := ((List (Int × ByteArray × Int × Int)) × Int × Int × ByteArray × Int × ByteArray × Int × List (ByteArray × Int × Int × Int × Int × Int × Int × Int × Int × Int × Int))) n (fun (x6 : (List (Int × ByteArray × Int × Int)) × Int × Int × ByteArray × Int × ByteArray × Int × List (ByteArray × Int × Int × Int × Int × Int × Int × Int × Int × Int × Int)) =>
      let e0 := x6.2.2.2.2.2.2.2.length
      (ref05_reader_begins n (ByteArray.mk #[104, 101, 97, 100], ((e0 : Nat) : Int), 16, x6.1, x6.2.1, x6.2.2.1)).bind fun y7 =>
      bif y7.1 then
        (ref05_reader_head n y7.2).bind fun y8 =>
        let e1 := (y8.1, y8.2.1, y8.2.2.1, y8.2.2.2.1, y8.2.2.2.2.1, y8.2.2.2.2.2.1, y8.2.2.2.2.2.2.1, y8.2.2.2.2.2.2.2.1, y8.2.2.2.2.2.2.2.2.1, y8.2.2.2.2.2.2.2.2.2.1, y8.2.2.2.2.2.2.2.2.2.2.1) :: []
        bif fitB (e0 + e1.length) 96 then
          some (.inl (y8.2.2.2.2.2.2.2.2.2.2.2.1, y8.2.2.2.2.2.2.2.2.2.2.2.2.1, y8.2.2.2.2.2.2.2.2.2.2.2.2.2, x6.2.2.2.1, x6.2.2.2.2.1, x6.2.2.2.2.2.1, x6.2.2.2.2.2.2.1, x6.2.2.2.2.2.2.2 ++ e1))
        else
        none
      else
      some (.inr (y7.2.1, y7.2.2.1, y7.2.2.2, x6.2.2.2))) (y2.1, y2.2.1, y2.2.2, ByteArray.mk #[], 0, y1.1, (atI (0, ByteArray.mk #[], 0, 0) x0.1 0).2.2.2, [])).bind fun (z9 : (List (Int × ByteArray × Int × Int)) × Int × Int × ByteArray × Int × ByteArray × Int × List (ByteArray × Int × Int × Int × Int × Int × Int × Int × Int × Int × Int)) =>
      (iterL (Y := ((List (Int × ByteArray × Int × Int)) × Int × Int × ByteArray × Int × ByteArray × Int × (List (ByteArray × Int × Int × Int × Int × Int × Int × Int × Int × Int × Int)) × List (ByteArray × ByteArray × Int × Int × Int × Int))) n (fun (x13 : (List (Int × ByteArray × Int × Int)) × Int × Int × ByteArray × Int × ByteArray × Int × (List (ByteArray × Int × Int × Int × Int × Int × Int × Int × Int × Int × Int)) × List (ByteArray × ByteArray × Int × Int × Int × Int)) =>
        let e2 := x13.2.2.2.2.2.2.2.2.length
        (ref05_reader_begins n (ByteArray.mk #[119, 97, 108, 107], ((e2 : Nat) : Int), 8, x13.1, x13.2.1, x13.2.2.1)).bind fun y14 =>
        bif y14.1 then
          (ref05_reader_walk n y14.2).bind fun y15 =>
          let e3 := (y15.1, y15.2.1, y15.2.2.1, y15.2.2.2.1, y15.2.2.2.2.1, y15.2.2.2.2.2.1) :: []
          bif fitB (e2 + e3.length) 64 then
            some (.inl (y15.2.2.2.2.2.2.1, y15.2.2.2.2.2.2.2.1, y15.2.2.2.2.2.2.2.2, x13.2.2.2.1, x13.2.2.2.2.1, x13.2.2.2.2.2.1, x13.2.2.2.2.2.2.1, x13.2.2.2.2.2.2.2.1, x13.2.2.2.2.2.2.2.2 ++ e3))
          else
          none
        else
        some (.inr (y14.2.1, y14.2.2.1, y14.2.2.2, x13.2.2.2))) (z9.1, z9.2.1, z9.2.2.1, z9.2.2.2.1, z9.2.2.2.2.1, z9.2.2.2.2.2.1, z9.2.2.2.2.2.2.1, z9.2.2.2.2.2.2.2, [])).bind fun (z16 : (List (Int × ByteArray × Int × Int)) × Int × Int × ByteArray × Int × ByteArray × Int × (List (ByteArray × Int × Int × Int × Int × Int × Int × Int × Int × Int × Int)) × List (ByteArray × ByteArray × Int × Int × Int × Int)) =>
        (iterL (Y := ((List (Int × ByteArray × Int × Int)) × Int × Int × ByteArray × Int × ByteArray × Int × (List (ByteArray × Int × Int × Int × Int × Int × Int × Int × Int × Int × Int)) × (List (ByteArray × ByteArray × Int × Int × Int × Int)) × List (ByteArray × (List ByteArray) × Int))) n (fun (x22 : (List (Int × ByteArray × Int × Int)) × Int × Int × ByteArray × Int × ByteArray × Int × (List (ByteArray × Int × Int × Int × Int × Int × Int × Int × Int × Int × Int)) × (List (ByteArray × ByteArray × Int × Int × Int × Int)) × List (ByteArray × (List ByteArray) × Int)) =>
          let e4 := x22.2.2.2.2.2.2.2.2.2.length
          (ref05_reader_begins n (ByteArray.mk #[112, 104, 97, 115, 101], ((e4 : Nat) : Int), 16, x22.1, x22.2.1, x22.2.2.1)).bind fun y23 =>
          bif y23.1 then
            bif inB 0 y23.2.1.length then
              (ref05_reader_name n y23.2).bind fun y24 =>
              (ref05_reader_want n (ByteArray.mk #[58], y24.2)).bind fun y25 =>
              (ref05_reader_names n (16, y25)).bind fun y26 =>
              let e5 := (y24.1, y26.1, (atI (0, ByteArray.mk #[], 0, 0) y23.2.1 0).2.2.2) :: []
              bif fitB (e4 + e5.length) 48 then
                some (.inl (y26.2.1, y26.2.2.1, y26.2.2.2, x22.2.2.2.1, x22.2.2.2.2.1, x22.2.2.2.2.2.1, x22.2.2.2.2.2.2.1, x22.2.2.2.2.2.2.2.1, x22.2.2.2.2.2.2.2.2.1, x22.2.2.2.2.2.2.2.2.2 ++ e5))
              else
              none
            else
            none
          else
          some (.inr (y23.2.1, y23.2.2.1, y23.2.2.2, x22.2.2.2))) (z16.1, z16.2.1, z16.2.2.1, z16.2.2.2.1, z16.2.2.2.2.1, z16.2.2.2.2.2.1, z16.2.2.2.2.2.2.1, z16.2.2.2.2.2.2.2.1, z16.2.2.2.2.2.2.2.2, [])).bind fun (z27 : (List (Int × ByteArray × Int × Int)) × Int × Int × ByteArray × Int × ByteArray × Int × (List (ByteArray × Int × Int × Int × Int × Int × Int × Int × Int × Int × Int)) × (List (ByteArray × ByteArray × Int × Int × Int × Int)) × List (ByteArray × (List ByteArray) × Int)) =>
          (iterL (Y := ((List (Int × ByteArray × Int × Int)) × Int × Int × ByteArray × Int × ByteArray × Int × (List (ByteArray × Int × Int × Int × Int × Int × Int × Int × Int × Int × Int)) × (List (ByteArray × ByteArray × Int × Int × Int × Int)) × (List (ByteArray × (List ByteArray) × Int)) × List (List (Bool × List ByteArray)))) n (fun (x31 : (List (Int × ByteArray × Int × Int)) × Int × Int × ByteArray × Int × ByteArray × Int × (List (ByteArray × Int × Int × Int × Int × Int × Int × Int × Int × Int × Int)) × (List (ByteArray × ByteArray × Int × Int × Int × Int)) × (List (ByteArray × (List ByteArray) × Int)) × List (List (Bool × List ByteArray))) =>
            let e6 := x31.2.2.2.2.2.2.2.2.2.2.length
            (ref05_reader_begins n (ByteArray.mk #[103, 114, 111, 117, 112], ((e6 : Nat) : Int), 4, x31.1, x31.2.1, x31.2.2.1)).bind fun y32 =>
            bif y32.1 then
              (ref05_reader_group n y32.2).bind fun y33 =>
              let e7 := y33.1 :: []
              bif fitB (e6 + e7.length) 24 then
                some (.inl (y33.2.1, y33.2.2.1, y33.2.2.2, x31.2.2.2.1, x31.2.2.2.2.1, x31.2.2.2.2.2.1, x31.2.2.2.2.2.2.1, x31.2.2.2.2.2.2.2.1, x31.2.2.2.2.2.2.2.2.1, x31.2.2.2.2.2.2.2.2.2.1, x31.2.2.2.2.2.2.2.2.2.2 ++ e7))
              else
              none
            else
            some (.inr (y32.2.1, y32.2.2.1, y32.2.2.2, x31.2.2.2))) (z27.1, z27.2.1, z27.2.2.1, z27.2.2.2.1, z27.2.2.2.2.1, z27.2.2.2.2.2.1, z27.2.2.2.2.2.2.1, z27.2.2.2.2.2.2.2.1, z27.2.2.2.2.2.2.2.2.1, z27.2.2.2.2.2.2.2.2.2, [])).bind fun (z34 : (List (Int × ByteArray × Int × Int)) × Int × Int × ByteArray × Int × ByteArray × Int × (List (ByteArray × Int × Int × Int × Int × Int × Int × Int × Int × Int × Int)) × (List (ByteArray × ByteArray × Int × Int × Int × Int)) × (List (ByteArray × (List ByteArray) × Int)) × List (List (Bool × List ByteArray))) =>
            (iterL (Y := ((List (Int × ByteArray × Int × Int)) × Int × Int × ByteArray × Int × ByteArray × Int × (List (ByteArray × Int × Int × Int × Int × Int × Int × Int × Int × Int × Int)) × (List (ByteArray × ByteArray × Int × Int × Int × Int)) × (List (ByteArray × (List ByteArray) × Int)) × (List (List (Bool × List ByteArray))) × List (ByteArray × ByteArray × Int))) n (fun (x40 : (List (Int × ByteArray × Int × Int)) × Int × Int × ByteArray × Int × ByteArray × Int × (List (ByteArray × Int × Int × Int × Int × Int × Int × Int × Int × Int × Int)) × (List (ByteArray × ByteArray × Int × Int × Int × Int)) × (List (ByteArray × (List ByteArray) × Int)) × (List (List (Bool × List ByteArray))) × List (ByteArray × ByteArray × Int)) =>
              let e8 := x40.2.2.2.2.2.2.2.2.2.2.2.length
              (ref05_reader_begins n (ByteArray.mk #[102, 111, 101], ((e8 : Nat) : Int), 64, x40.1, x40.2.1, x40.2.2.1)).bind fun y41 =>
              bif y41.1 then
                bif inB 0 y41.2.1.length then
                  (ref05_reader_name n y41.2).bind fun y42 =>
                  (ref05_reader_name n y42.2).bind fun y43 =>
                  let e9 := (y42.1, y43.1, (atI (0, ByteArray.mk #[], 0, 0) y41.2.1 0).2.2.2) :: []
                  (ref05_reader_want n (ByteArray.mk #[59], y43.2)).bind fun y44 =>
                  bif fitB (e8 + e9.length) 40 then
                    some (.inl (y44.1, y44.2.1, y44.2.2, x40.2.2.2.1, x40.2.2.2.2.1, x40.2.2.2.2.2.1, x40.2.2.2.2.2.2.1, x40.2.2.2.2.2.2.2.1, x40.2.2.2.2.2.2.2.2.1, x40.2.2.2.2.2.2.2.2.2.1, x40.2.2.2.2.2.2.2.2.2.2.1, x40.2.2.2.2.2.2.2.2.2.2.2 ++ e9))
                  else
                  none
                else
                none
              else
              some (.inr (y41.2.1, y41.2.2.1, y41.2.2.2, x40.2.2.2))) (z34.1, z34.2.1, z34.2.2.1, z34.2.2.2.1, z34.2.2.2.2.1, z34.2.2.2.2.2.1, z34.2.2.2.2.2.2.1, z34.2.2.2.2.2.2.2.1, z34.2.2.2.2.2.2.2.2.1, z34.2.2.2.2.2.2.2.2.2.1, z34.2.2.2.2.2.2.2.2.2.2, [])).bind fun (z45 : (List (Int × ByteArray × Int × Int)) × Int × Int × ByteArray × Int × ByteArray × Int × (List (ByteArray × Int × Int × Int × Int × Int × Int × Int × Int × Int × Int)) × (List (ByteArray × ByteArray × Int × Int × Int × Int)) × (List (ByteArray × (List ByteArray) × Int)) × (List (List (Bool × List ByteArray))) × List (ByteArray × ByteArray × Int)) =>
              (ref05_reader_want n (ByteArray.mk #[125], z45.1, z45.2.1, z45.2.2.1)).bind fun y46 =>
              some (z45.2.2.2.2.2.1, z45.2.2.2.2.2.2.2.1, z45.2.2.2.2.2.2.2.2.1, z45.2.2.2.2.2.2.2.2.2.1, z45.2.2.2.2.2.2.2.2.2.2.1, z45.2.2.2.2.2.2.2.2.2.2.2, z45.2.2.2.2.2.2.1, y46)
  else
  none
def p_ref05_reader_node : Plan := .two (.leaf) (.two (.leaf) (.two (.leaf) (.two (.leaf) (.two (.one (.loop ⟨slotsOf 112 [(0, .c (.box 1000000 0)), (2, .c (.box 2 0)), (3, .c (.box 3 0))], [(1000000, 99, [.hole (.sl 107), .hole (.int .i64), .hole (.int .i64)]), (2, 39, [.hole (.str), .nil, .nil, .nil, .nil, .nil, .hole (.int .i64)]), (3, 39, [.hole (.str), .row 29, .nil, .nil, .nil, .nil, .hole (.int .i64)])], [(29, 44)]⟩ [(.exit 0, ⟨slotsOf 112 [(0, .c (.box 1000000 0)), (2, .c (.box 2 0)), (3, .c (.box 3 0))], [(1000000, 99, [.hole (.sl 107), .hole (.int .i64), .hole (.int .i64)]), (2, 39, [.hole (.str), .nil, .nil, .nil, .nil, .nil, .hole (.int .i64)]), (3, 39, [.hole (.str), .row 29, .nil, .nil, .nil, .nil, .hole (.int .i64)])], [(29, 44)]⟩)] (.leaf))) (.two (.one (.loop ⟨slotsOf 112 [(0, .c (.box 1000000 0)), (2, .c (.box 2 0)), (3, .c (.box 3 0))], [(1000000, 99, [.hole (.sl 107), .hole (.int .i64), .hole (.int .i64)]), (2, 39, [.hole (.str), .nil, .nil, .nil, .nil, .nil, .hole (.int .i64)]), (3, 39, [.hole (.str), .row 29, .row 41, .nil, .nil, .nil, .hole (.int .i64)])], [(29, 44), (41, 78)]⟩ [(.exit 2, ⟨slotsOf 112 [(0, .c (.box 1000000 0)), (2, .c (.box 2 0)), (3, .c (.box 3 0))], [(1000000, 99, [.hole (.sl 107), .hole (.int .i64), .hole (.int .i64)]), (2, 39, [.hole (.str), .nil, .nil, .nil, .nil, .nil, .hole (.int .i64)]), (3, 39, [.hole (.str), .row 29, .row 41, .nil, .nil, .nil, .hole (.int .i64)])], [(29, 44), (41, 78)]⟩)] (.leaf))) (.two (.one (.loop ⟨slotsOf 112 [(0, .c (.box 1000000 0)), (2, .c (.box 2 0)), (3, .c (.box 3 0))], [(1000000, 99, [.hole (.sl 107), .hole (.int .i64), .hole (.int .i64)]), (2, 39, [.hole (.str), .nil, .nil, .nil, .nil, .nil, .hole (.int .i64)]), (3, 39, [.hole (.str), .row 29, .row 41, .row 68, .nil, .nil, .hole (.int .i64)])], [(29, 44), (41, 78), (68, 42)]⟩ [(.exit 4, ⟨slotsOf 112 [(0, .c (.box 1000000 0)), (2, .c (.box 2 0)), (3, .c (.box 3 0))], [(1000000, 99, [.hole (.sl 107), .hole (.int .i64), .hole (.int .i64)]), (2, 39, [.hole (.str), .nil, .nil, .nil, .nil, .nil, .hole (.int .i64)]), (3, 39, [.hole (.str), .row 29, .row 41, .row 68, .nil, .nil, .hole (.int .i64)])], [(29, 44), (41, 78), (68, 42)]⟩)] (.leaf))) (.two (.one (.loop ⟨slotsOf 112 [(0, .c (.box 1000000 0)), (2, .c (.box 2 0)), (3, .c (.box 3 0))], [(1000000, 99, [.hole (.sl 107), .hole (.int .i64), .hole (.int .i64)]), (2, 39, [.hole (.str), .nil, .nil, .nil, .nil, .nil, .hole (.int .i64)]), (3, 39, [.hole (.str), .row 29, .row 41, .row 68, .row 80, .nil, .hole (.int .i64)])], [(29, 44), (41, 78), (68, 42), (80, 67)]⟩ [(.exit 6, ⟨slotsOf 112 [(0, .c (.box 1000000 0)), (2, .c (.box 2 0)), (3, .c (.box 3 0))], [(1000000, 99, [.hole (.sl 107), .hole (.int .i64), .hole (.int .i64)]), (2, 39, [.hole (.str), .nil, .nil, .nil, .nil, .nil, .hole (.int .i64)]), (3, 39, [.hole (.str), .row 29, .row 41, .row 68, .row 80, .nil, .hole (.int .i64)])], [(29, 44), (41, 78), (68, 42), (80, 67)]⟩)] (.leaf))) (.two (.one (.loop ⟨slotsOf 112 [(0, .c (.box 1000000 0)), (2, .c (.box 2 0)), (3, .c (.box 3 0))], [(1000000, 99, [.hole (.sl 107), .hole (.int .i64), .hole (.int .i64)]), (2, 39, [.hole (.str), .nil, .nil, .nil, .nil, .nil, .hole (.int .i64)]), (3, 39, [.hole (.str), .row 29, .row 41, .row 68, .row 80, .row 107, .hole (.int .i64)])], [(29, 44), (41, 78), (68, 42), (80, 67), (107, 47)]⟩ [(.exit 8, ⟨slotsOf 112 [(0, .c (.box 1000000 0)), (2, .c (.box 2 0)), (3, .c (.box 3 0))], [(1000000, 99, [.hole (.sl 107), .hole (.int .i64), .hole (.int .i64)]), (2, 39, [.hole (.str), .nil, .nil, .nil, .nil, .nil, .hole (.int .i64)]), (3, 39, [.hole (.str), .row 29, .row 41, .row 68, .row 80, .row 107, .hole (.int .i64)])], [(29, 44), (41, 78), (68, 42), (80, 67), (107, 47)]⟩)] (.leaf))) (.leaf)))))))))
noncomputable def c_ref05_reader_node (b n : Nat) : Cx := ⟨Go.Proofs.Try.prog, (Θ b), [23], [(59, ⟨h_ref05_reader_want, o_ref05_reader_want, ref05_reader_want n⟩), (61, ⟨h_ref05_reader_begins, o_ref05_reader_begins, ref05_reader_begins n⟩), (69, ⟨h_ref05_reader_name, o_ref05_reader_name, ref05_reader_name n⟩), (70, ⟨h_ref05_reader_head, o_ref05_reader_head, ref05_reader_head n⟩), (71, ⟨h_ref05_reader_walk, o_ref05_reader_walk, ref05_reader_walk n⟩), (72, ⟨h_ref05_reader_names, o_ref05_reader_names, ref05_reader_names n⟩), (73, ⟨h_ref05_reader_group, o_ref05_reader_group, ref05_reader_group n⟩)], [], [], []⟩
theorem d_ref05_reader_node (b n : Nat) (x : h_ref05_reader_node.X T) : denF (c_ref05_reader_node b n) n Go.Proofs.Try.f62 p_ref05_reader_node h_ref05_reader_node o_ref05_reader_node x = ref05_reader_node n x := by kernel_rfl
theorem s_ref05_reader_node (b n : Nat) : PCalls Go.Proofs.Try.prog (Θ b) 62 ⟨h_ref05_reader_node, o_ref05_reader_node, ref05_reader_node n⟩ :=
  func_ok' (C := c_ref05_reader_node b n) (n := n) (p := p_ref05_reader_node) (ok_of mixed eqsOk ⟨s_ref05_reader_want b n, s_ref05_reader_begins b n, s_ref05_reader_name b n, s_ref05_reader_head b n, s_ref05_reader_walk b n, s_ref05_reader_names b n, s_ref05_reader_group b n, trivial⟩ trivial trivial) Go.Proofs.Try.func62 (by kernel_rfl) (by kernel_rfl) (d_ref05_reader_node b n) (by kernel_rfl)
end Go.Proofs.Ytbcejiobmeglgaa.Fn
