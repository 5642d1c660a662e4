/- Functions of the program, each as a plain function, and that the machine does what it says. -/
import Derived.Test.YtakkhnoelnpfdaaFnA0
namespace Go.Proofs.Ytakkhnoelnpfdaa.Fn
set_option linter.unusedVariables false
set_option maxRecDepth 100000
open Go Go.RowKit Go.Den
/-- slices.ContainsFunc[[]carrefour/api.Slot,carrefour/api.Slot] -/
def h_slices_ContainsFunc_2 : Shape := ⟨slotsOf 2 [(0, .c (.hole (.sl 121))), (1, .c (.fn 131 []))], [], []⟩
def o_slices_ContainsFunc_2 : List (Ex × Shape) := [(.ret, ⟨slotsOf 1 [(0, .c (.hole (.bool)))], [], []⟩)]
def slices_ContainsFunc_2 (n : Nat) (x0 : List (ByteArray × Int × Int × Int × List (ByteArray × Int × Int))) : Option (Bool) :=
  (slices_IndexFunc_2 n x0).bind fun y1 =>
  some (decide (0 ≤ y1))
def p_slices_ContainsFunc_2 : Plan := .leaf
noncomputable def c_slices_ContainsFunc_2 (n : Nat) : Cx := ⟨Go.Proofs.Try.prog, Θ, [219, 74], [(154, ⟨h_slices_IndexFunc_2, o_slices_IndexFunc_2, slices_IndexFunc_2 n⟩)], [], []⟩
theorem d_slices_ContainsFunc_2 (n : Nat) (x : h_slices_ContainsFunc_2.X T) : denF (c_slices_ContainsFunc_2 n) n Go.Proofs.Try.f130 p_slices_ContainsFunc_2 h_slices_ContainsFunc_2 o_slices_ContainsFunc_2 x = slices_ContainsFunc_2 n x := by kernel_rfl
theorem s_slices_ContainsFunc_2 (n : Nat) : PCalls Go.Proofs.Try.prog Θ 130 ⟨h_slices_ContainsFunc_2, o_slices_ContainsFunc_2, slices_ContainsFunc_2 n⟩ :=
  func_ok' (C := c_slices_ContainsFunc_2 n) (n := n) (p := p_slices_ContainsFunc_2) (ok_of mixed eqsOk ⟨s_slices_IndexFunc_2 n, trivial⟩ trivial trivial) Go.Proofs.Try.func130 (by kernel_rfl) (by kernel_rfl) (d_slices_ContainsFunc_2 n) (by kernel_rfl)

/-- carrefour/times.sound -/
def h_times_sound : Shape := ⟨slotsOf 1 [(0, .agg [.hole (.str), .hole (.int .i64), .hole (.sl 71), .hole (.int .i64), .hole (.int .i64)])], [], []⟩
def o_times_sound : List (Ex × Shape) := [(.ret, ⟨slotsOf 1 [(0, .c (.hole (.bool)))], [], []⟩)]
def times_sound (n : Nat) (x0 : ByteArray × Int × (List (List (List (ByteArray × Int × Int × Int × List (ByteArray × Int × Int))))) × Int × Int) : Option (Bool) :=
  let e0 := ((x0.2.2.1.length : Nat) : Int)
  bif decide (4 < e0) then
    some false
  else
  (iterL (Y := (Bool) ⊕ (Unit)) n (fun (x1 : (List (List (List (ByteArray × Int × Int × Int × List (ByteArray × Int × Int))))) × Int × Int) =>
    let e1 := atI [] x1.1 x1.2.2
    let e2 := ((e1.length : Nat) : Int)
    bif decide (x1.2.2 < x1.2.1) then
      bif inB x1.2.2 x1.1.length then
        bif decide (2 < e2) then
          some (.inr (.inl false))
        else
        (iterL (Y := (Bool) ⊕ ((List (List (List (ByteArray × Int × Int × Int × List (ByteArray × Int × Int))))) × Int × Int)) n (fun (x2 : (List (List (List (ByteArray × Int × Int × Int × List (ByteArray × Int × Int))))) × Int × Int × (List (List (ByteArray × Int × Int × Int × List (ByteArray × Int × Int)))) × Int × Int) =>
          let e3 := atI [] x2.2.2.2.1 x2.2.2.2.2.2
          bif decide (x2.2.2.2.2.2 < x2.2.2.2.2.1) then
            bif inB x2.2.2.2.2.2 x2.2.2.2.1.length then
              letJ (fun (x4 : (List (List (List (ByteArray × Int × Int × Int × List (ByteArray × Int × Int))))) × Int × Int × (List (List (ByteArray × Int × Int × Int × List (ByteArray × Int × Int)))) × Int × Int × Bool) =>
                bif x4.2.2.2.2.2.2 then
                  some (.inr (.inl false))
                else
                some (.inl (x4.1, x4.2.1, x4.2.2.1, x4.2.2.2.1, x4.2.2.2.2.1, wrap64 (x4.2.2.2.2.2.1 + 1)))) fun J5 =>
              bif decide (4 < ((e3.length : Nat) : Int)) then
                J5 (x2.1, x2.2.1, x2.2.2.1, x2.2.2.2.1, x2.2.2.2.2.1, x2.2.2.2.2.2, true)
              else
              (slices_ContainsFunc_2 n e3).bind fun y3 =>
              J5 (x2.1, x2.2.1, x2.2.2.1, x2.2.2.2.1, x2.2.2.2.2.1, x2.2.2.2.2.2, y3)
            else
            none
          else
          some (.inr (.inr (x2.1, x2.2.1, x2.2.2.1)))) (x1.1, x1.2.1, x1.2.2, e1, e2, 0)).bind (Sum.elim (fun (z6 : Bool) =>
          some (.inr (.inl z6))) (fun (z7 : (List (List (List (ByteArray × Int × Int × Int × List (ByteArray × Int × Int))))) × Int × Int) =>
          some (.inl (z7.1, z7.2.1, wrap64 (z7.2.2 + 1)))))
      else
      none
    else
    some (.inr (.inr ()))) (x0.2.2.1, e0, 0)).bind (Sum.elim (fun (z8 : Bool) =>
    some z8) (fun (z9 : Unit) =>
    some true))
def p_times_sound : Plan := .two (.leaf) (.two (.leaf) (.two (.two (.leaf) (.one (.loop ⟨slotsOf 38 [(12, .c (.hole (.sl 71))), (13, .c (.hole (.int .i64))), (14, .c (.hole (.int .i64)))], [], []⟩ [(.ret, ⟨slotsOf 38 [(2, .c (.hole (.bool)))], [], []⟩), (.exit 0, ⟨slotsOf 38 [], [], []⟩)] (.two (.leaf) (.two (.leaf) (.two (.one (.two (.leaf) (.two (.leaf) (.two (.leaf) (.one (.loop ⟨slotsOf 38 [(12, .c (.hole (.sl 71))), (13, .c (.hole (.int .i64))), (14, .c (.hole (.int .i64))), (23, .c (.hole (.sl 122))), (24, .c (.hole (.int .i64))), (25, .c (.hole (.int .i64)))], [], []⟩ [(.ret, ⟨slotsOf 38 [(2, .c (.hole (.bool)))], [], []⟩), (.exit 2, ⟨slotsOf 38 [(12, .c (.hole (.sl 71))), (13, .c (.hole (.int .i64))), (14, .c (.hole (.int .i64)))], [], []⟩)] (.two (.leaf) (.two (.leaf) (.two (.one (.two (.leaf) (.two (.join ⟨slotsOf 38 [(12, .c (.hole (.sl 71))), (13, .c (.hole (.int .i64))), (14, .c (.hole (.int .i64))), (23, .c (.hole (.sl 122))), (24, .c (.hole (.int .i64))), (25, .c (.hole (.int .i64))), (35, .c (.hole (.bool)))], [], []⟩ (.leaf)) (.leaf)))) (.leaf)))))))))) (.leaf))))))) (.leaf)))
noncomputable def c_times_sound (n : Nat) : Cx := ⟨Go.Proofs.Try.prog, Θ, [219, 74], [(130, ⟨h_slices_ContainsFunc_2, o_slices_ContainsFunc_2, slices_ContainsFunc_2 n⟩)], [], []⟩
theorem d_times_sound (n : Nat) (x : h_times_sound.X T) : denF (c_times_sound n) n Go.Proofs.Try.f91 p_times_sound h_times_sound o_times_sound x = times_sound n x := by kernel_rfl
theorem s_times_sound (n : Nat) : PCalls Go.Proofs.Try.prog Θ 91 ⟨h_times_sound, o_times_sound, times_sound n⟩ :=
  func_ok' (C := c_times_sound n) (n := n) (p := p_times_sound) (ok_of mixed eqsOk ⟨s_slices_ContainsFunc_2 n, trivial⟩ trivial trivial) Go.Proofs.Try.func91 (by kernel_rfl) (by kernel_rfl) (d_times_sound n) (by kernel_rfl)

/-- slices.Clone[[]string,string] -/
def h_slices_Clone_1 : Shape := ⟨slotsOf 1 [(0, .c (.hole (.sl 9)))], [], []⟩
def o_slices_Clone_1 : List (Ex × Shape) := [(.ret, ⟨slotsOf 1 [(0, .c (.row 0))], [], [(0, 9)]⟩)]
noncomputable def slices_Clone_1 (n : Nat) (x0 : List ByteArray) : Option (List ByteArray) :=
  let e0 := fitB x0.length 16
  bif List.isEmpty x0 then
    both (
      some []) (
      bif e0 then
        some x0
      else
      none)
  else
    bif e0 then
      some x0
    else
    none
def p_slices_Clone_1 : Plan := .leaf
noncomputable def c_slices_Clone_1 (n : Nat) : Cx := ⟨Go.Proofs.Try.prog, Θ, [219, 74], [], [], []⟩
theorem d_slices_Clone_1 (n : Nat) (x : h_slices_Clone_1.X T) : denF (c_slices_Clone_1 n) n Go.Proofs.Try.f113 p_slices_Clone_1 h_slices_Clone_1 o_slices_Clone_1 x = slices_Clone_1 n x := by kernel_rfl
theorem s_slices_Clone_1 (n : Nat) : PCalls Go.Proofs.Try.prog Θ 113 ⟨h_slices_Clone_1, o_slices_Clone_1, slices_Clone_1 n⟩ :=
  func_ok' (C := c_slices_Clone_1 n) (n := n) (p := p_slices_Clone_1) (ok_of mixed eqsOk trivial trivial trivial) Go.Proofs.Try.func113 (by kernel_rfl) (by kernel_rfl) (d_slices_Clone_1 n) (by kernel_rfl)

/-- slices.Index[[]string,string] -/
def h_slices_Index : Shape := ⟨slotsOf 2 [(0, .c (.hole (.sl 9))), (1, .c (.hole (.str)))], [], []⟩
def o_slices_Index : List (Ex × Shape) := [(.ret, ⟨slotsOf 1 [(0, .c (.hole (.int .i64)))], [], []⟩)]
def slices_Index (n : Nat) (x0 : (List ByteArray) × ByteArray) : Option (Int) :=
  (iterL (Y := (Int) ⊕ (Unit)) n (fun (x1 : (List ByteArray) × ByteArray × Int × Int) =>
    bif decide (x1.2.2.2 < x1.2.2.1) then
      bif inB x1.2.2.2 x1.1.length then
        bif strEq x1.2.1 (atI (ByteArray.mk #[]) x1.1 x1.2.2.2) then
          some (.inr (.inl x1.2.2.2))
        else
        some (.inl (x1.1, x1.2.1, x1.2.2.1, wrap64 (x1.2.2.2 + 1)))
      else
      none
    else
    some (.inr (.inr ()))) (x0.1, x0.2, ((x0.1.length : Nat) : Int), 0)).bind (Sum.elim (fun (z2 : Int) =>
    some z2) (fun (z3 : Unit) =>
    some (-1)))
def p_slices_Index : Plan := .two (.leaf) (.two (.two (.leaf) (.one (.loop ⟨slotsOf 19 [(0, .c (.hole (.sl 9))), (1, .c (.hole (.str))), (7, .c (.hole (.int .i64))), (8, .c (.hole (.int .i64)))], [], []⟩ [(.ret, ⟨slotsOf 19 [(4, .c (.hole (.int .i64)))], [], []⟩), (.exit 0, ⟨slotsOf 19 [], [], []⟩)] (.leaf)))) (.leaf))
noncomputable def c_slices_Index (n : Nat) : Cx := ⟨Go.Proofs.Try.prog, Θ, [219, 74], [], [], []⟩
theorem d_slices_Index (n : Nat) (x : h_slices_Index.X T) : denF (c_slices_Index n) n Go.Proofs.Try.f109 p_slices_Index h_slices_Index o_slices_Index x = slices_Index n x := by kernel_rfl
theorem s_slices_Index (n : Nat) : PCalls Go.Proofs.Try.prog Θ 109 ⟨h_slices_Index, o_slices_Index, slices_Index n⟩ :=
  func_ok' (C := c_slices_Index n) (n := n) (p := p_slices_Index) (ok_of mixed eqsOk trivial trivial trivial) Go.Proofs.Try.func109 (by kernel_rfl) (by kernel_rfl) (d_slices_Index n) (by kernel_rfl)

/-- carrefour/times.walks$1 -/
def h_times_walks_1 : Shape := ⟨slotsOf 2 [(0, .c (.hole (.str))), (1, .agg [.hole (.str), .hole (.int .i64), .hole (.int .i64)])], [], []⟩
def o_times_walks_1 : List (Ex × Shape) := [(.ret, ⟨slotsOf 1 [(0, .c (.hole (.bool)))], [], []⟩)]
def times_walks_1 (n : Nat) (x0 : ByteArray × ByteArray × Int × Int) : Option (Bool) :=
  some (strEq x0.1 x0.2.1)
def p_times_walks_1 : Plan := .leaf
noncomputable def c_times_walks_1 (n : Nat) : Cx := ⟨Go.Proofs.Try.prog, Θ, [219, 74], [], [], []⟩
theorem d_times_walks_1 (n : Nat) (x : h_times_walks_1.X T) : denF (c_times_walks_1 n) n Go.Proofs.Try.f166 p_times_walks_1 h_times_walks_1 o_times_walks_1 x = times_walks_1 n x := by kernel_rfl
theorem s_times_walks_1 (n : Nat) : PCalls Go.Proofs.Try.prog Θ 166 ⟨h_times_walks_1, o_times_walks_1, times_walks_1 n⟩ :=
  func_ok' (C := c_times_walks_1 n) (n := n) (p := p_times_walks_1) (ok_of mixed eqsOk trivial trivial trivial) Go.Proofs.Try.func166 (by kernel_rfl) (by kernel_rfl) (d_times_walks_1 n) (by kernel_rfl)

/-- slices.EqualFunc[[]string,[]carrefour/api.Walk,string,carrefour/api.Walk] -/
def h_slices_EqualFunc : Shape := ⟨slotsOf 3 [(0, .c (.hole (.sl 9))), (1, .c (.hole (.sl 143))), (2, .c (.fn 166 []))], [], []⟩
def o_slices_EqualFunc : List (Ex × Shape) := [(.ret, ⟨slotsOf 1 [(0, .c (.hole (.bool)))], [], []⟩)]
def slices_EqualFunc (n : Nat) (x0 : (List ByteArray) × List (ByteArray × Int × Int)) : Option (Bool) :=
  let e0 := ((x0.1.length : Nat) : Int)
  bif !(e0 == ((x0.2.length : Nat) : Int)) then
    some false
  else
  (iterL (Y := (Bool) ⊕ (Unit)) n (fun (x1 : (List (ByteArray × Int × Int)) × (List ByteArray) × Int × Int) =>
    bif decide (x1.2.2.2 < x1.2.2.1) then
      bif inB x1.2.2.2 x1.2.1.length then
        bif inB x1.2.2.2 x1.1.length then
          (times_walks_1 n (atI (ByteArray.mk #[]) x1.2.1 x1.2.2.2, atI (ByteArray.mk #[], 0, 0) x1.1 x1.2.2.2)).bind fun y2 =>
          bif !y2 then
            some (.inr (.inl false))
          else
          some (.inl (x1.1, x1.2.1, x1.2.2.1, wrap64 (x1.2.2.2 + 1)))
        else
        none
      else
      none
    else
    some (.inr (.inr ()))) (x0.2, x0.1, e0, 0)).bind (Sum.elim (fun (z3 : Bool) =>
    some z3) (fun (z4 : Unit) =>
    some true))
def p_slices_EqualFunc : Plan := .two (.leaf) (.two (.leaf) (.two (.two (.leaf) (.one (.loop ⟨slotsOf 32 [(1, .c (.hole (.sl 143))), (2, .c (.fn 166 [])), (15, .c (.hole (.sl 9))), (16, .c (.hole (.int .i64))), (17, .c (.hole (.int .i64)))], [], []⟩ [(.ret, ⟨slotsOf 32 [(6, .c (.hole (.bool)))], [], []⟩), (.exit 0, ⟨slotsOf 32 [], [], []⟩)] (.leaf)))) (.leaf)))
noncomputable def c_slices_EqualFunc (n : Nat) : Cx := ⟨Go.Proofs.Try.prog, Θ, [219, 74], [(166, ⟨h_times_walks_1, o_times_walks_1, times_walks_1 n⟩)], [], []⟩
theorem d_slices_EqualFunc (n : Nat) (x : h_slices_EqualFunc.X T) : denF (c_slices_EqualFunc n) n Go.Proofs.Try.f165 p_slices_EqualFunc h_slices_EqualFunc o_slices_EqualFunc x = slices_EqualFunc n x := by kernel_rfl
theorem s_slices_EqualFunc (n : Nat) : PCalls Go.Proofs.Try.prog Θ 165 ⟨h_slices_EqualFunc, o_slices_EqualFunc, slices_EqualFunc n⟩ :=
  func_ok' (C := c_slices_EqualFunc n) (n := n) (p := p_slices_EqualFunc) (ok_of mixed eqsOk ⟨s_times_walks_1 n, trivial⟩ trivial trivial) Go.Proofs.Try.func165 (by kernel_rfl) (by kernel_rfl) (d_slices_EqualFunc n) (by kernel_rfl)

/-- carrefour/times.walks -/
def h_times_walks : Shape := ⟨slotsOf 2 [(0, .agg [.hole (.str), .hole (.sl 44), .hole (.sl 138), .hole (.sl 42), .hole (.sl 103), .hole (.sl 47), .hole (.int .i64)]), (1, .agg [.hole (.str), .hole (.int .i64), .hole (.int .i64), .hole (.int .i64), .hole (.sl 143)])], [], []⟩
def o_times_walks : List (Ex × Shape) := [(.ret, ⟨slotsOf 1 [(0, .c (.hole (.bool)))], [], []⟩)]
def times_walks (n : Nat) (x0 : ByteArray × (List (ByteArray × Int × Int × Int × Int × Int × Int × Int × Int × Int × Int)) × (List (ByteArray × ByteArray × Int × Int × Int × Int)) × (List (ByteArray × (List ByteArray) × Int)) × (List (List (Bool × List ByteArray))) × (List (ByteArray × ByteArray × Int)) × Int × ByteArray × Int × Int × Int × List (ByteArray × Int × Int)) : Option (Bool) :=
  (iterL (Y := (ByteArray × Int × Int × Int × (List (ByteArray × Int × Int)) × List ByteArray)) n (fun (x2 : (List (ByteArray × ByteArray × Int × Int × Int × Int)) × Int × Int × ByteArray × Int × Int × Int × (List (ByteArray × Int × Int)) × List ByteArray) =>
    let e0 := atI (ByteArray.mk #[], ByteArray.mk #[], 0, 0, 0, 0) x2.1 x2.2.2.1
    let e1 := e0.1 :: []
    let e2 := wrap64 (x2.2.2.1 + 1)
    bif decide (x2.2.2.1 < x2.2.1) then
      bif inB x2.2.2.1 x2.1.length then
        bif strEq e0.2.1 x2.2.2.2.1 then
          bif fitB (x2.2.2.2.2.2.2.2.2.length + e1.length) 16 then
            some (.inl (x2.1, x2.2.1, e2, x2.2.2.2.1, x2.2.2.2.2.1, x2.2.2.2.2.2.1, x2.2.2.2.2.2.2.1, x2.2.2.2.2.2.2.2.1, x2.2.2.2.2.2.2.2.2 ++ e1))
          else
          none
        else
        some (.inl (x2.1, x2.2.1, e2, x2.2.2.2))
      else
      none
    else
    some (.inr x2.2.2.2)) (x0.2.2.1, ((x0.2.2.1.length : Nat) : Int), 0, x0.2.2.2.2.2.2.2.1, x0.2.2.2.2.2.2.2.2.1, x0.2.2.2.2.2.2.2.2.2.1, x0.2.2.2.2.2.2.2.2.2.2.1, x0.2.2.2.2.2.2.2.2.2.2.2, [])).bind fun (z3 : ByteArray × Int × Int × Int × (List (ByteArray × Int × Int)) × List ByteArray) =>
    (slices_EqualFunc n (z3.2.2.2.2.2, z3.2.2.2.2.1)).bind fun y4 =>
    some y4
def p_times_walks : Plan := .two (.leaf) (.two (.leaf) (.two (.two (.leaf) (.one (.loop ⟨slotsOf 30 [(3, .c (.box 3 0)), (5, .c (.row 24)), (9, .c (.hole (.sl 138))), (10, .c (.hole (.int .i64))), (11, .c (.hole (.int .i64)))], [(3, 121, [.hole (.str), .hole (.int .i64), .hole (.int .i64), .hole (.int .i64), .hole (.sl 143)])], [(24, 9)]⟩ [(.exit 0, ⟨slotsOf 30 [(3, .c (.box 3 0)), (5, .c (.row 24))], [(3, 121, [.hole (.str), .hole (.int .i64), .hole (.int .i64), .hole (.int .i64), .hole (.sl 143)])], [(24, 9)]⟩)] (.leaf)))) (.leaf)))
noncomputable def c_times_walks (n : Nat) : Cx := ⟨Go.Proofs.Try.prog, Θ, [219, 74], [(165, ⟨h_slices_EqualFunc, o_slices_EqualFunc, slices_EqualFunc n⟩)], [], []⟩
theorem d_times_walks (n : Nat) (x : h_times_walks.X T) : denF (c_times_walks n) n Go.Proofs.Try.f144 p_times_walks h_times_walks o_times_walks x = times_walks n x := by kernel_rfl
theorem s_times_walks (n : Nat) : PCalls Go.Proofs.Try.prog Θ 144 ⟨h_times_walks, o_times_walks, times_walks n⟩ :=
  func_ok' (C := c_times_walks n) (n := n) (p := p_times_walks) (ok_of mixed eqsOk ⟨s_slices_EqualFunc n, trivial⟩ trivial trivial) Go.Proofs.Try.func144 (by kernel_rfl) (by kernel_rfl) (d_times_walks n) (by kernel_rfl)

/-- carrefour/times.ring -/
def h_times_ring : Shape := ⟨slotsOf 3 [(0, .agg [.hole (.str), .hole (.sl 44), .hole (.sl 138), .hole (.sl 42), .hole (.sl 103), .hole (.sl 47), .hole (.int .i64)]), (1, .agg [.hole (.bool), .hole (.sl 9)]), (2, .c (.hole (.sl 121)))], [], []⟩
def o_times_ring : List (Ex × Shape) := [(.ret, ⟨slotsOf 1 [(0, .c (.hole (.bool)))], [], []⟩)]
noncomputable def times_ring (n : Nat) (x0 : ByteArray × (List (ByteArray × Int × Int × Int × Int × Int × Int × Int × Int × Int × Int)) × (List (ByteArray × ByteArray × Int × Int × Int × Int)) × (List (ByteArray × (List ByteArray) × Int)) × (List (List (Bool × List ByteArray))) × (List (ByteArray × ByteArray × Int)) × Int × Bool × (List ByteArray) × List (ByteArray × Int × Int × Int × List (ByteArray × Int × Int))) : Option (Bool) :=
  (slices_Clone_1 n x0.2.2.2.2.2.2.2.2.1).bind fun y1 =>
  (iterL (Y := (Bool) ⊕ ((List (ByteArray × Int × Int × Int × List (ByteArray × Int × Int))) × Bool × List ByteArray)) n (fun (x2 : (List (ByteArray × Int × Int × Int × List (ByteArray × Int × Int))) × (List (ByteArray × Int × Int × Int × List (ByteArray × Int × Int))) × Int × Int × ByteArray × (List (ByteArray × Int × Int × Int × Int × Int × Int × Int × Int × Int × Int)) × (List (ByteArray × ByteArray × Int × Int × Int × Int)) × (List (ByteArray × (List ByteArray) × Int)) × (List (List (Bool × List ByteArray))) × (List (ByteArray × ByteArray × Int)) × Int × Bool × (List ByteArray) × List ByteArray) =>
    let e0 := atI (ByteArray.mk #[], 0, 0, 0, []) x2.2.1 x2.2.2.2.1
    let e1 := e0.1
    let e2 := e0.2
    let e3 := e0.2.1
    let e4 := e0.2.2
    let e5 := e0.2.2.1
    let e6 := e0.2.2.2
    let e7 := e0.2.2.2.1
    bif decide (x2.2.2.2.1 < x2.2.2.1) then
      bif inB x2.2.2.2.1 x2.2.1.length then
        (slices_Index n (x2.2.2.2.2.2.2.2.2.2.2.2.2.2, e1)).bind fun y3 =>
        letJ (fun (x5 : (List (ByteArray × Int × Int × Int × List (ByteArray × Int × Int))) × (List (ByteArray × Int × Int × Int × List (ByteArray × Int × Int))) × Int × Int × Bool × ByteArray × (List (ByteArray × Int × Int × Int × Int × Int × Int × Int × Int × Int × Int)) × (List (ByteArray × ByteArray × Int × Int × Int × Int)) × (List (ByteArray × (List ByteArray) × Int)) × (List (List (Bool × List ByteArray))) × (List (ByteArray × ByteArray × Int)) × Int × Bool × (List ByteArray) × ByteArray × Int × Int × Int × (List (ByteArray × Int × Int)) × List ByteArray) =>
          bif x5.2.2.2.2.1 then
            some (.inr (.inl false))
          else
          (slices_DeleteFunc n x5.2.2.2.2.2.2.2.2.2.2.2.2.2.2).bind fun y7 =>
          some (.inl (x5.1, x5.2.1, x5.2.2.1, wrap64 (x5.2.2.2.1 + 1), x5.2.2.2.2.2.1, x5.2.2.2.2.2.2.1, x5.2.2.2.2.2.2.2.1, x5.2.2.2.2.2.2.2.2.1, x5.2.2.2.2.2.2.2.2.2.1, x5.2.2.2.2.2.2.2.2.2.2.1, x5.2.2.2.2.2.2.2.2.2.2.2.1, x5.2.2.2.2.2.2.2.2.2.2.2.2.1, x5.2.2.2.2.2.2.2.2.2.2.2.2.2.1, y7.2.2.2.2.2))) fun J6 =>
        bif decide (y3 < 0) then
          J6 (x2.1, x2.2.1, x2.2.2.1, x2.2.2.2.1, true, x2.2.2.2.2.1, x2.2.2.2.2.2.1, x2.2.2.2.2.2.2.1, x2.2.2.2.2.2.2.2.1, x2.2.2.2.2.2.2.2.2.1, x2.2.2.2.2.2.2.2.2.2.1, x2.2.2.2.2.2.2.2.2.2.2.1, x2.2.2.2.2.2.2.2.2.2.2.2.1, x2.2.2.2.2.2.2.2.2.2.2.2.2.1, e1, e3, e5, e7, e0.2.2.2.2, x2.2.2.2.2.2.2.2.2.2.2.2.2.2)
        else
        bif decide (e3 ≤ wrap64 (e5 + e7)) then
          J6 (x2.1, x2.2.1, x2.2.2.1, x2.2.2.2.1, true, x2.2.2.2.2.1, x2.2.2.2.2.2.1, x2.2.2.2.2.2.2.1, x2.2.2.2.2.2.2.2.1, x2.2.2.2.2.2.2.2.2.1, x2.2.2.2.2.2.2.2.2.2.1, x2.2.2.2.2.2.2.2.2.2.2.1, x2.2.2.2.2.2.2.2.2.2.2.2.1, x2.2.2.2.2.2.2.2.2.2.2.2.2.1, e1, e3, e5, e7, e0.2.2.2.2, x2.2.2.2.2.2.2.2.2.2.2.2.2.2)
        else
        (times_walks n (x2.2.2.2.2.1, x2.2.2.2.2.2.1, x2.2.2.2.2.2.2.1, x2.2.2.2.2.2.2.2.1, x2.2.2.2.2.2.2.2.2.1, x2.2.2.2.2.2.2.2.2.2.1, x2.2.2.2.2.2.2.2.2.2.2.1, e0)).bind fun y4 =>
        J6 (x2.1, x2.2.1, x2.2.2.1, x2.2.2.2.1, !y4, x2.2.2.2.2.1, x2.2.2.2.2.2.1, x2.2.2.2.2.2.2.1, x2.2.2.2.2.2.2.2.1, x2.2.2.2.2.2.2.2.2.1, x2.2.2.2.2.2.2.2.2.2.1, x2.2.2.2.2.2.2.2.2.2.2.1, x2.2.2.2.2.2.2.2.2.2.2.2.1, x2.2.2.2.2.2.2.2.2.2.2.2.2.1, e1, e3, e5, e7, e0.2.2.2.2, x2.2.2.2.2.2.2.2.2.2.2.2.2.2)
      else
      none
    else
    some (.inr (.inr (x2.1, x2.2.2.2.2.2.2.2.2.2.2.2.1, x2.2.2.2.2.2.2.2.2.2.2.2.2.1)))) (x0.2.2.2.2.2.2.2.2.2, x0.2.2.2.2.2.2.2.2.2, ((x0.2.2.2.2.2.2.2.2.2.length : Nat) : Int), 0, x0.1, x0.2.1, x0.2.2.1, x0.2.2.2.1, x0.2.2.2.2.1, x0.2.2.2.2.2.1, x0.2.2.2.2.2.2.1, x0.2.2.2.2.2.2.2.1, x0.2.2.2.2.2.2.2.2.1, y1)).bind (Sum.elim (fun (z8 : Bool) =>
    some z8) (fun (z9 : (List (ByteArray × Int × Int × Int × List (ByteArray × Int × Int))) × Bool × List ByteArray) =>
    some (((z9.1.length : Nat) : Int) == ((z9.2.2.length : Nat) : Int))))
def p_times_ring : Plan := .two (.leaf) (.two (.leaf) (.two (.two (.leaf) (.one (.loop ⟨slotsOf 52 [(2, .c (.hole (.sl 121))), (3, .c (.box 3 0)), (4, .c (.box 4 0)), (7, .c (.row 11300)), (14, .c (.hole (.sl 121))), (15, .c (.hole (.int .i64))), (16, .c (.hole (.int .i64)))], [(3, 39, [.hole (.str), .hole (.sl 44), .hole (.sl 138), .hole (.sl 42), .hole (.sl 103), .hole (.sl 47), .hole (.int .i64)]), (4, 105, [.hole (.bool), .hole (.sl 9)])], [(11300, 9)]⟩ [(.ret, ⟨slotsOf 52 [(6, .c (.hole (.bool)))], [], []⟩), (.exit 0, ⟨slotsOf 52 [(2, .c (.hole (.sl 121))), (4, .c (.box 4 0))], [(4, 105, [.hole (.bool), .hole (.sl 9)])], []⟩)] (.two (.leaf) (.two (.leaf) (.two (.one (.two (.leaf) (.two (.leaf) (.two (.two (.join ⟨slotsOf 52 [(2, .c (.hole (.sl 121))), (3, .c (.box 3 0)), (4, .c (.box 4 0)), (7, .c (.row 11300)), (9, .c (.box 9 0)), (14, .c (.hole (.sl 121))), (15, .c (.hole (.int .i64))), (16, .c (.hole (.int .i64))), (41, .c (.hole (.bool)))], [(3, 39, [.hole (.str), .hole (.sl 44), .hole (.sl 138), .hole (.sl 42), .hole (.sl 103), .hole (.sl 47), .hole (.int .i64)]), (4, 105, [.hole (.bool), .hole (.sl 9)]), (9, 121, [.hole (.str), .hole (.int .i64), .hole (.int .i64), .hole (.int .i64), .hole (.sl 143)])], [(11300, 9)]⟩ (.leaf)) (.leaf)) (.leaf))))) (.leaf))))))) (.leaf)))
noncomputable def c_times_ring (n : Nat) : Cx := ⟨Go.Proofs.Try.prog, Θ, [219, 74], [(145, ⟨h_slices_DeleteFunc, o_slices_DeleteFunc, slices_DeleteFunc n⟩), (113, ⟨h_slices_Clone_1, o_slices_Clone_1, slices_Clone_1 n⟩), (109, ⟨h_slices_Index, o_slices_Index, slices_Index n⟩), (144, ⟨h_times_walks, o_times_walks, times_walks n⟩)], [], []⟩
theorem d_times_ring (n : Nat) (x : h_times_ring.X T) : denF (c_times_ring n) n Go.Proofs.Try.f110 p_times_ring h_times_ring o_times_ring x = times_ring n x := by kernel_rfl
theorem s_times_ring (n : Nat) : PCalls Go.Proofs.Try.prog Θ 110 ⟨h_times_ring, o_times_ring, times_ring n⟩ :=
  func_ok' (C := c_times_ring n) (n := n) (p := p_times_ring) (ok_of mixed eqsOk ⟨s_slices_DeleteFunc n, s_slices_Clone_1 n, s_slices_Index n, s_times_walks n, trivial⟩ trivial trivial) Go.Proofs.Try.func110 (by kernel_rfl) (by kernel_rfl) (d_times_ring n) (by kernel_rfl)

/-- carrefour/times.long -/
def h_times_long : Shape := ⟨slotsOf 1 [(0, .agg [.hole (.sl 122)])], [], []⟩
def o_times_long : List (Ex × Shape) := [(.ret, ⟨slotsOf 1 [(0, .c (.hole (.int .i64)))], [], []⟩)]
def times_long (n : Nat) (x0 : List (List (ByteArray × Int × Int × Int × List (ByteArray × Int × Int)))) : Option (Int) :=
  (iterL (Y := (Int)) n (fun (x1 : Int × (List (List (ByteArray × Int × Int × Int × List (ByteArray × Int × Int)))) × Int × Int) =>
    let e0 := atI [] x1.2.1 x1.2.2.2
    bif decide (x1.2.2.2 < x1.2.2.1) then
      bif inB x1.2.2.2 x1.2.1.length then
        (iterL (Y := (Int × Int × (List (List (ByteArray × Int × Int × Int × List (ByteArray × Int × Int)))) × Int × Int)) n (fun (x2 : Int × Int × (List (List (ByteArray × Int × Int × Int × List (ByteArray × Int × Int)))) × Int × Int × (List (ByteArray × Int × Int × Int × List (ByteArray × Int × Int))) × Int × Int) =>
          bif decide (x2.2.2.2.2.2.2.2 < x2.2.2.2.2.2.2.1) then
            bif inB x2.2.2.2.2.2.2.2 x2.2.2.2.2.2.1.length then
              some (.inl (x2.1, wrap64 (x2.2.1 + (atI (ByteArray.mk #[], 0, 0, 0, []) x2.2.2.2.2.2.1 x2.2.2.2.2.2.2.2).2.1), x2.2.2.1, x2.2.2.2.1, x2.2.2.2.2.1, x2.2.2.2.2.2.1, x2.2.2.2.2.2.2.1, wrap64 (x2.2.2.2.2.2.2.2 + 1)))
            else
            none
          else
          some (.inr (x2.1, x2.2.1, x2.2.2.1, x2.2.2.2.1, x2.2.2.2.2.1))) (x1.1, 0, x1.2.1, x1.2.2.1, x1.2.2.2, e0, ((e0.length : Nat) : Int), 0)).bind fun (z3 : Int × Int × (List (List (ByteArray × Int × Int × Int × List (ByteArray × Int × Int)))) × Int × Int) =>
          some (.inl (mx z3.1 z3.2.1, z3.2.2.1, z3.2.2.2.1, wrap64 (z3.2.2.2.2 + 1)))
      else
      none
    else
    some (.inr x1.1)) (0, x0, ((x0.length : Nat) : Int), 0)).bind fun (z4 : Int) =>
    some z4
def p_times_long : Plan := .two (.leaf) (.two (.leaf) (.two (.two (.leaf) (.one (.loop ⟨slotsOf 32 [(3, .c (.hole (.int .i64))), (10, .c (.hole (.sl 122))), (11, .c (.hole (.int .i64))), (12, .c (.hole (.int .i64)))], [], []⟩ [(.exit 0, ⟨slotsOf 32 [(3, .c (.hole (.int .i64)))], [], []⟩)] (.two (.leaf) (.two (.leaf) (.two (.one (.two (.leaf) (.two (.leaf) (.two (.two (.leaf) (.one (.loop ⟨slotsOf 32 [(3, .c (.hole (.int .i64))), (6, .c (.hole (.int .i64))), (10, .c (.hole (.sl 122))), (11, .c (.hole (.int .i64))), (12, .c (.hole (.int .i64))), (16, .c (.hole (.sl 121))), (17, .c (.hole (.int .i64))), (18, .c (.hole (.int .i64)))], [], []⟩ [(.exit 2, ⟨slotsOf 32 [(3, .c (.hole (.int .i64))), (6, .c (.hole (.int .i64))), (10, .c (.hole (.sl 122))), (11, .c (.hole (.int .i64))), (12, .c (.hole (.int .i64)))], [], []⟩)] (.leaf)))) (.leaf))))) (.leaf))))))) (.leaf)))
noncomputable def c_times_long (n : Nat) : Cx := ⟨Go.Proofs.Try.prog, Θ, [219, 74], [], [], []⟩
theorem d_times_long (n : Nat) (x : h_times_long.X T) : denF (c_times_long n) n Go.Proofs.Try.f92 p_times_long h_times_long o_times_long x = times_long n x := by kernel_rfl
theorem s_times_long (n : Nat) : PCalls Go.Proofs.Try.prog Θ 92 ⟨h_times_long, o_times_long, times_long n⟩ :=
  func_ok' (C := c_times_long n) (n := n) (p := p_times_long) (ok_of mixed eqsOk trivial trivial trivial) Go.Proofs.Try.func92 (by kernel_rfl) (by kernel_rfl) (d_times_long n) (by kernel_rfl)

/-- carrefour/times.Length -/
def h_times_Length : Shape := ⟨slotsOf 1 [(0, .agg [.hole (.str), .hole (.int .i64), .hole (.sl 71), .hole (.int .i64), .hole (.int .i64)])], [], []⟩
def o_times_Length : List (Ex × Shape) := [(.ret, ⟨slotsOf 1 [(0, .c (.hole (.int .i64)))], [], []⟩)]
def times_Length (n : Nat) (x0 : ByteArray × Int × (List (List (List (ByteArray × Int × Int × Int × List (ByteArray × Int × Int))))) × Int × Int) : Option (Int) :=
  (times_sound n x0).bind fun y1 =>
  bif !y1 then
    some 0
  else
  (iterL (Y := (Int)) n (fun (x2 : Int × (List (List (List (ByteArray × Int × Int × Int × List (ByteArray × Int × Int))))) × Int × Int) =>
    bif decide (x2.2.2.2 < x2.2.2.1) then
      bif inB x2.2.2.2 x2.2.1.length then
        (times_long n (atI [] x2.2.1 x2.2.2.2)).bind fun y3 =>
        some (.inl (wrap64 (x2.1 + y3), x2.2.1, x2.2.2.1, wrap64 (x2.2.2.2 + 1)))
      else
      none
    else
    some (.inr x2.1)) (0, x0.2.2.1, ((x0.2.2.1.length : Nat) : Int), 0)).bind fun (z4 : Int) =>
    some z4
def p_times_Length : Plan := .two (.leaf) (.two (.leaf) (.two (.leaf) (.two (.two (.leaf) (.one (.loop ⟨slotsOf 22 [(3, .c (.hole (.int .i64))), (10, .c (.hole (.sl 71))), (11, .c (.hole (.int .i64))), (12, .c (.hole (.int .i64)))], [], []⟩ [(.exit 0, ⟨slotsOf 22 [(3, .c (.hole (.int .i64)))], [], []⟩)] (.leaf)))) (.leaf))))
noncomputable def c_times_Length (n : Nat) : Cx := ⟨Go.Proofs.Try.prog, Θ, [219, 74], [(91, ⟨h_times_sound, o_times_sound, times_sound n⟩), (92, ⟨h_times_long, o_times_long, times_long n⟩)], [], []⟩
theorem d_times_Length (n : Nat) (x : h_times_Length.X T) : denF (c_times_Length n) n Go.Proofs.Try.f40 p_times_Length h_times_Length o_times_Length x = times_Length n x := by kernel_rfl
theorem s_times_Length (n : Nat) : PCalls Go.Proofs.Try.prog Θ 40 ⟨h_times_Length, o_times_Length, times_Length n⟩ :=
  func_ok' (C := c_times_Length n) (n := n) (p := p_times_Length) (ok_of mixed eqsOk ⟨s_times_sound n, s_times_long n, trivial⟩ trivial trivial) Go.Proofs.Try.func40 (by kernel_rfl) (by kernel_rfl) (d_times_Length n) (by kernel_rfl)

/-- carrefour/times.Fits -/
def h_times_Fits : Shape := ⟨slotsOf 2 [(0, .agg [.hole (.str), .hole (.sl 44), .hole (.sl 138), .hole (.sl 42), .hole (.sl 103), .hole (.sl 47), .hole (.int .i64)]), (1, .agg [.hole (.str), .hole (.int .i64), .hole (.sl 71), .hole (.int .i64), .hole (.int .i64)])], [], []⟩
def o_times_Fits : List (Ex × Shape) := [(.ret, ⟨slotsOf 1 [(0, .c (.hole (.bool)))], [], []⟩)]
noncomputable def times_Fits (n : Nat) (x0 : ByteArray × (List (ByteArray × Int × Int × Int × Int × Int × Int × Int × Int × Int × Int)) × (List (ByteArray × ByteArray × Int × Int × Int × Int)) × (List (ByteArray × (List ByteArray) × Int)) × (List (List (Bool × List ByteArray))) × (List (ByteArray × ByteArray × Int)) × Int × ByteArray × Int × (List (List (List (ByteArray × Int × Int × Int × List (ByteArray × Int × Int))))) × Int × Int) : Option (Bool) :=
  letJ (fun (x2 : Bool × ByteArray × (List (ByteArray × Int × Int × Int × Int × Int × Int × Int × Int × Int × Int)) × (List (ByteArray × ByteArray × Int × Int × Int × Int)) × (List (ByteArray × (List ByteArray) × Int)) × (List (List (Bool × List ByteArray))) × (List (ByteArray × ByteArray × Int)) × Int × ByteArray × Int × (List (List (List (ByteArray × Int × Int × Int × List (ByteArray × Int × Int))))) × Int × Int) =>
    bif x2.1 then
      some false
    else
    (iterL (Y := (Bool) ⊕ (ByteArray × Int × (List (List (List (ByteArray × Int × Int × Int × List (ByteArray × Int × Int))))) × Int × Int)) n (fun (x4 : (List (List (List (ByteArray × Int × Int × Int × List (ByteArray × Int × Int))))) × Int × Int × ByteArray × (List (ByteArray × Int × Int × Int × Int × Int × Int × Int × Int × Int × Int)) × (List (ByteArray × ByteArray × Int × Int × Int × Int)) × (List (ByteArray × (List ByteArray) × Int)) × (List (List (Bool × List ByteArray))) × (List (ByteArray × ByteArray × Int)) × Int × ByteArray × Int × (List (List (List (ByteArray × Int × Int × Int × List (ByteArray × Int × Int))))) × Int × Int) =>
      let e0 := atI [] x4.1 x4.2.2.1
      let e1 := ((e0.length : Nat) : Int)
      bif decide (x4.2.2.1 < x4.2.1) then
        bif inB x4.2.2.1 x4.1.length then
          bif inB x4.2.2.1 x4.2.2.2.2.2.2.2.1.length then
            bif !(e1 == ((List.length (atI [] x4.2.2.2.2.2.2.2.1 x4.2.2.1) : Nat) : Int)) then
              some (.inr (.inl false))
            else
            (iterL (Y := (Bool) ⊕ ((List (List (List (ByteArray × Int × Int × Int × List (ByteArray × Int × Int))))) × Int × Int × ByteArray × (List (ByteArray × Int × Int × Int × Int × Int × Int × Int × Int × Int × Int)) × (List (ByteArray × ByteArray × Int × Int × Int × Int)) × (List (ByteArray × (List ByteArray) × Int)) × (List (List (Bool × List ByteArray))) × (List (ByteArray × ByteArray × Int)) × Int × ByteArray × Int × (List (List (List (ByteArray × Int × Int × Int × List (ByteArray × Int × Int))))) × Int × Int)) n (fun (x5 : Int × (List (List (List (ByteArray × Int × Int × Int × List (ByteArray × Int × Int))))) × Int × Int × (List (List (ByteArray × Int × Int × Int × List (ByteArray × Int × Int)))) × Int × Int × ByteArray × (List (ByteArray × Int × Int × Int × Int × Int × Int × Int × Int × Int × Int)) × (List (ByteArray × ByteArray × Int × Int × Int × Int)) × (List (ByteArray × (List ByteArray) × Int)) × (List (List (Bool × List ByteArray))) × (List (ByteArray × ByteArray × Int)) × Int × ByteArray × Int × (List (List (List (ByteArray × Int × Int × Int × List (ByteArray × Int × Int))))) × Int × Int) =>
              let e2 := atI [] x5.2.2.2.2.2.2.2.2.2.2.2.1 x5.1
              let e3 := atI (false, []) e2 x5.2.2.2.2.2.2.1
              bif decide (x5.2.2.2.2.2.2.1 < x5.2.2.2.2.2.1) then
                bif inB x5.2.2.2.2.2.2.1 x5.2.2.2.2.1.length then
                  bif inB x5.1 x5.2.2.2.2.2.2.2.2.2.2.2.1.length then
                    bif inB x5.2.2.2.2.2.2.1 e2.length then
                      (times_ring n (x5.2.2.2.2.2.2.2.1, x5.2.2.2.2.2.2.2.2.1, x5.2.2.2.2.2.2.2.2.2.1, x5.2.2.2.2.2.2.2.2.2.2.1, x5.2.2.2.2.2.2.2.2.2.2.2.1, x5.2.2.2.2.2.2.2.2.2.2.2.2.1, x5.2.2.2.2.2.2.2.2.2.2.2.2.2.1, e3.1, e3.2, atI [] x5.2.2.2.2.1 x5.2.2.2.2.2.2.1)).bind fun y6 =>
                      bif !y6 then
                        some (.inr (.inl false))
                      else
                      some (.inl (x5.1, x5.2.1, x5.2.2.1, x5.2.2.2.1, x5.2.2.2.2.1, x5.2.2.2.2.2.1, wrap64 (x5.2.2.2.2.2.2.1 + 1), x5.2.2.2.2.2.2.2))
                    else
                    none
                  else
                  none
                else
                none
              else
              some (.inr (.inr (x5.2.1, x5.2.2.1, x5.2.2.2.1, x5.2.2.2.2.2.2.2)))) (x4.2.2.1, x4.1, x4.2.1, x4.2.2.1, e0, e1, 0, x4.2.2.2)).bind (Sum.elim (fun (z7 : Bool) =>
              some (.inr (.inl z7))) (fun (z8 : (List (List (List (ByteArray × Int × Int × Int × List (ByteArray × Int × Int))))) × Int × Int × ByteArray × (List (ByteArray × Int × Int × Int × Int × Int × Int × Int × Int × Int × Int)) × (List (ByteArray × ByteArray × Int × Int × Int × Int)) × (List (ByteArray × (List ByteArray) × Int)) × (List (List (Bool × List ByteArray))) × (List (ByteArray × ByteArray × Int)) × Int × ByteArray × Int × (List (List (List (ByteArray × Int × Int × Int × List (ByteArray × Int × Int))))) × Int × Int) =>
              some (.inl (z8.1, z8.2.1, wrap64 (z8.2.2.1 + 1), z8.2.2.2))))
          else
          none
        else
        none
      else
      some (.inr (.inr x4.2.2.2.2.2.2.2.2.2.2))) (x2.2.2.2.2.2.2.2.2.2.2.1, ((x2.2.2.2.2.2.2.2.2.2.2.1.length : Nat) : Int), 0, x2.2)).bind (Sum.elim (fun (z9 : Bool) =>
      some z9) (fun (z10 : ByteArray × Int × (List (List (List (ByteArray × Int × Int × Int × List (ByteArray × Int × Int))))) × Int × Int) =>
      (times_Length n z10).bind fun y11 =>
      bif decide (1 ≤ y11) then
        some (decide (y11 ≤ 6000))
      else
      some false))) fun J3 =>
  (times_sound n x0.2.2.2.2.2.2.2).bind fun y1 =>
  bif !y1 then
    J3 (true, x0)
  else
  J3 (!(((x0.2.2.2.2.2.2.2.2.2.1.length : Nat) : Int) == ((x0.2.2.2.2.1.length : Nat) : Int)), x0)
def p_times_Fits : Plan := .two (.leaf) (.two (.two (.join ⟨slotsOf 72 [(2, .c (.box 2 0)), (3, .c (.box 3 0)), (21, .c (.hole (.bool)))], [(2, 39, [.hole (.str), .hole (.sl 44), .hole (.sl 138), .hole (.sl 42), .hole (.sl 103), .hole (.sl 47), .hole (.int .i64)]), (3, 52, [.hole (.str), .hole (.int .i64), .hole (.sl 71), .hole (.int .i64), .hole (.int .i64)])], []⟩ (.leaf)) (.leaf)) (.two (.two (.leaf) (.one (.loop ⟨slotsOf 72 [(2, .c (.box 2 0)), (3, .c (.box 3 0)), (23, .c (.hole (.sl 71))), (24, .c (.hole (.int .i64))), (25, .c (.hole (.int .i64)))], [(2, 39, [.hole (.str), .hole (.sl 44), .hole (.sl 138), .hole (.sl 42), .hole (.sl 103), .hole (.sl 47), .hole (.int .i64)]), (3, 52, [.hole (.str), .hole (.int .i64), .hole (.sl 71), .hole (.int .i64), .hole (.int .i64)])], []⟩ [(.ret, ⟨slotsOf 72 [(4, .c (.hole (.bool)))], [], []⟩), (.exit 0, ⟨slotsOf 72 [(3, .c (.box 3 0))], [(3, 52, [.hole (.str), .hole (.int .i64), .hole (.sl 71), .hole (.int .i64), .hole (.int .i64)])], []⟩)] (.two (.leaf) (.two (.leaf) (.two (.one (.two (.leaf) (.two (.leaf) (.two (.leaf) (.one (.loop ⟨slotsOf 72 [(2, .c (.box 2 0)), (3, .c (.box 3 0)), (5, .c (.hole (.int .i64))), (23, .c (.hole (.sl 71))), (24, .c (.hole (.int .i64))), (25, .c (.hole (.int .i64))), (42, .c (.hole (.sl 122))), (43, .c (.hole (.int .i64))), (44, .c (.hole (.int .i64)))], [(2, 39, [.hole (.str), .hole (.sl 44), .hole (.sl 138), .hole (.sl 42), .hole (.sl 103), .hole (.sl 47), .hole (.int .i64)]), (3, 52, [.hole (.str), .hole (.int .i64), .hole (.sl 71), .hole (.int .i64), .hole (.int .i64)])], []⟩ [(.ret, ⟨slotsOf 72 [(4, .c (.hole (.bool)))], [], []⟩), (.exit 2, ⟨slotsOf 72 [(2, .c (.box 2 0)), (3, .c (.box 3 0)), (23, .c (.hole (.sl 71))), (24, .c (.hole (.int .i64))), (25, .c (.hole (.int .i64)))], [(2, 39, [.hole (.str), .hole (.sl 44), .hole (.sl 138), .hole (.sl 42), .hole (.sl 103), .hole (.sl 47), .hole (.int .i64)]), (3, 52, [.hole (.str), .hole (.int .i64), .hole (.sl 71), .hole (.int .i64), .hole (.int .i64)])], []⟩)] (.leaf))))))) (.leaf))))))) (.leaf)))
noncomputable def c_times_Fits (n : Nat) : Cx := ⟨Go.Proofs.Try.prog, Θ, [219, 74], [(91, ⟨h_times_sound, o_times_sound, times_sound n⟩), (110, ⟨h_times_ring, o_times_ring, times_ring n⟩), (40, ⟨h_times_Length, o_times_Length, times_Length n⟩)], [], []⟩
theorem d_times_Fits (n : Nat) (x : h_times_Fits.X T) : denF (c_times_Fits n) n Go.Proofs.Try.f67 p_times_Fits h_times_Fits o_times_Fits x = times_Fits n x := by kernel_rfl
theorem s_times_Fits (n : Nat) : PCalls Go.Proofs.Try.prog Θ 67 ⟨h_times_Fits, o_times_Fits, times_Fits n⟩ :=
  func_ok' (C := c_times_Fits n) (n := n) (p := p_times_Fits) (ok_of mixed eqsOk ⟨s_times_sound n, s_times_ring n, s_times_Length n, trivial⟩ trivial trivial) Go.Proofs.Try.func67 (by kernel_rfl) (by kernel_rfl) (d_times_Fits n) (by kernel_rfl)

/-- carrefour/times.newClock -/
def h_times_newClock : Shape := ⟨slotsOf 1 [(0, .agg [.hole (.str), .hole (.int .i64), .hole (.sl 71), .hole (.int .i64), .hole (.int .i64)])], [], []⟩
def o_times_newClock : List (Ex × Shape) := [(.ret, ⟨slotsOf 1 [(0, .agg [.hole (.int .i64), .hole (.int .i64)])], [], []⟩)]
def times_newClock (n : Nat) (x0 : ByteArray × Int × (List (List (List (ByteArray × Int × Int × Int × List (ByteArray × Int × Int))))) × Int × Int) : Option (Int × Int) :=
  (times_Length n x0).bind fun y1 =>
  (circle_Norm n (y1, x0.2.1, 1)).bind fun y2 =>
  bif !(y1 == 0) then
    some (y1, Int.tmod y2.1 y1)
  else
  none
def p_times_newClock : Plan := .leaf
noncomputable def c_times_newClock (n : Nat) : Cx := ⟨Go.Proofs.Try.prog, Θ, [219, 74], [(81, ⟨h_circle_Norm, o_circle_Norm, circle_Norm n⟩), (40, ⟨h_times_Length, o_times_Length, times_Length n⟩)], [], []⟩
theorem d_times_newClock (n : Nat) (x : h_times_newClock.X T) : denF (c_times_newClock n) n Go.Proofs.Try.f88 p_times_newClock h_times_newClock o_times_newClock x = times_newClock n x := by kernel_rfl
theorem s_times_newClock (n : Nat) : PCalls Go.Proofs.Try.prog Θ 88 ⟨h_times_newClock, o_times_newClock, times_newClock n⟩ :=
  func_ok' (C := c_times_newClock n) (n := n) (p := p_times_newClock) (ok_of mixed eqsOk ⟨s_circle_Norm n, s_times_Length n, trivial⟩ trivial trivial) Go.Proofs.Try.func88 (by kernel_rfl) (by kernel_rfl) (d_times_newClock n) (by kernel_rfl)

/-- carrefour/times.slots -/
def h_times_slots : Shape := ⟨slotsOf 1 [(0, .agg [.hole (.str), .hole (.int .i64), .hole (.sl 71), .hole (.int .i64), .hole (.int .i64)])], [], []⟩
def o_times_slots : List (Ex × Shape) := [(.ret, ⟨slotsOf 1 [(0, .c (.fn 129 [0]))], [(0, 52, [.hole (.str), .hole (.int .i64), .hole (.sl 71), .hole (.int .i64), .hole (.int .i64)])], []⟩)]
def times_slots (n : Nat) (x0 : ByteArray × Int × (List (List (List (ByteArray × Int × Int × Int × List (ByteArray × Int × Int))))) × Int × Int) : Option (ByteArray × Int × (List (List (List (ByteArray × Int × Int × Int × List (ByteArray × Int × Int))))) × Int × Int) :=
  some x0
def p_times_slots : Plan := .leaf
noncomputable def c_times_slots (n : Nat) : Cx := ⟨Go.Proofs.Try.prog, Θ, [219, 74], [], [], []⟩
theorem d_times_slots (n : Nat) (x : h_times_slots.X T) : denF (c_times_slots n) n Go.Proofs.Try.f89 p_times_slots h_times_slots o_times_slots x = times_slots n x := by kernel_rfl
theorem s_times_slots (n : Nat) : PCalls Go.Proofs.Try.prog Θ 89 ⟨h_times_slots, o_times_slots, times_slots n⟩ :=
  func_ok' (C := c_times_slots n) (n := n) (p := p_times_slots) (ok_of mixed eqsOk trivial trivial trivial) Go.Proofs.Try.func89 (by kernel_rfl) (by kernel_rfl) (d_times_slots n) (by kernel_rfl)

/-- (carrefour/times.clock).arc -/
def h_times_clock_arc : Shape := ⟨slotsOf 3 [(0, .agg [.hole (.int .i64), .hole (.int .i64)]), (1, .c (.hole (.int .i64))), (2, .c (.hole (.int .i64)))], [], []⟩
def o_times_clock_arc : List (Ex × Shape) := [(.ret, ⟨slotsOf 1 [(0, .agg [.hole (.int .i64), .hole (.int .i64)])], [], []⟩)]
def times_clock_arc (n : Nat) (x0 : Int × Int × Int × Int) : Option (Int × Int) :=
  (circle_Norm n (x0.1, wrap64 (x0.2.1 + x0.2.2.1), x0.2.2.2)).bind fun y1 =>
  some y1
def p_times_clock_arc : Plan := .leaf
noncomputable def c_times_clock_arc (n : Nat) : Cx := ⟨Go.Proofs.Try.prog, Θ, [219, 74], [(81, ⟨h_circle_Norm, o_circle_Norm, circle_Norm n⟩)], [], []⟩
theorem d_times_clock_arc (n : Nat) (x : h_times_clock_arc.X T) : denF (c_times_clock_arc n) n Go.Proofs.Try.f90 p_times_clock_arc h_times_clock_arc o_times_clock_arc x = times_clock_arc n x := by kernel_rfl
theorem s_times_clock_arc (n : Nat) : PCalls Go.Proofs.Try.prog Θ 90 ⟨h_times_clock_arc, o_times_clock_arc, times_clock_arc n⟩ :=
  func_ok' (C := c_times_clock_arc n) (n := n) (p := p_times_clock_arc) (ok_of mixed eqsOk ⟨s_circle_Norm n, trivial⟩ trivial trivial) Go.Proofs.Try.func90 (by kernel_rfl) (by kernel_rfl) (d_times_clock_arc n) (by kernel_rfl)

/-- carrefour/times.Heads_round -/
def h_times_Heads_round : Shape := ⟨slotsOf 4 [(0, .agg [.hole (.str), .hole (.int .i64), .hole (.int .i64), .hole (.int .i64), .hole (.sl 143)]), (1, .c (.hole (.int .i64))), (2, .c (.box 1000000 0)), (3, .c (.box 1000001 0))], [(1000000, 150, [.hole (.int .i64), .hole (.int .i64)]), (1000001, 152, [.row 1000000])], [(1000000, 1000305)]⟩
def o_times_Heads_round : List (Ex × Shape) := [(.ret, ⟨slotsOf 1 [(0, .c (.hole (.bool)))], [(1000000, 150, [.hole (.int .i64), .hole (.int .i64)]), (1000001, 152, [.row 1000000])], [(1000000, 1000305)]⟩)]
noncomputable def R_390 : Rng := rng Go.Proofs.Try.f39 0 [6, 7]
def yok_390 : Prop := Θ.Y 390 = some R_390
def times_Heads_round (n : Nat) (x0 : ByteArray × Int × Int × Int × (List (ByteArray × Int × Int)) × Int × Int × Int × List (ByteArray × ByteArray × Int × Int × Int × Int)) : Option (Bool × Int × Int × List (ByteArray × ByteArray × Int × Int × Int × Int)) :=
  let e0 := wrap64 ((wrap64 (x0.2.1 - x0.2.2.1)) - x0.2.2.2.1)
  bif mhas x0.1 x0.2.2.2.2.2.2.2.2 then
    some (true, x0.2.2.2.2.2.2)
  else
  (times_clock_arc n (x0.2.2.2.2.2.2.1, x0.2.2.2.2.2.2.2.1, x0.2.2.2.2.2.1, e0)).bind fun y1 =>
  (times_clock_arc n (x0.2.2.2.2.2.2.1, x0.2.2.2.2.2.2.2.1, wrap64 (x0.2.2.2.2.2.1 + e0), x0.2.2.1)).bind fun y2 =>
  some (true, x0.2.2.2.2.2.2.1, x0.2.2.2.2.2.2.2.1, mput x0.1 (x0.1, ByteArray.mk #[], y1.1, y1.2, y2) x0.2.2.2.2.2.2.2.2)
def p_times_Heads_round : Plan := .leaf
noncomputable def c_times_Heads_round (n : Nat) : Cx := ⟨Go.Proofs.Try.prog, Θ, [219, 74], [(90, ⟨h_times_clock_arc, o_times_clock_arc, times_clock_arc n⟩)], [], []⟩
theorem d_times_Heads_round (n : Nat) (x : h_times_Heads_round.X T) : denY (c_times_Heads_round n) n R_390 p_times_Heads_round h_times_Heads_round o_times_Heads_round x = times_Heads_round n x := by kernel_rfl
theorem yokT_390 : yok_390 := by unfold yok_390; kernel_rfl
theorem s_times_Heads_round (n : Nat) : PYields Go.Proofs.Try.prog Θ 390 ⟨h_times_Heads_round, o_times_Heads_round, times_Heads_round n⟩ :=
  yield_ok (C := c_times_Heads_round n) (n := n) (R := R_390) (p := p_times_Heads_round) (ok_of mixed eqsOk ⟨s_times_clock_arc n, trivial⟩ trivial trivial) yokT_390 (by kernel_rfl) (by kernel_rfl) (by kernel_rfl) (by kernel_rfl) (d_times_Heads_round n)

/-- carrefour/times.slots$1 -/
def h_times_slots_1 : Shape := ⟨slotsOf 2 [(0, .yld 390 [.c (.box 1000000 0), .c (.box 1000001 0)]), (1, .c (.box 1000002 0))], [(1000000, 150, [.hole (.int .i64), .hole (.int .i64)]), (1000001, 152, [.row 1000000]), (1000002, 52, [.hole (.str), .hole (.int .i64), .hole (.sl 71), .hole (.int .i64), .hole (.int .i64)])], [(1000000, 1000305)]⟩
def o_times_slots_1 : List (Ex × Shape) := [(.ret, ⟨slotsOf 0 [], [(1000000, 150, [.hole (.int .i64), .hole (.int .i64)]), (1000001, 152, [.row 1000000]), (1000002, 52, [.hole (.str), .hole (.int .i64), .hole (.sl 71), .hole (.int .i64), .hole (.int .i64)])], [(1000000, 1000305)]⟩)]
def times_slots_1 (n : Nat) (x0 : Int × Int × ByteArray × Int × (List (List (List (ByteArray × Int × Int × Int × List (ByteArray × Int × Int))))) × Int × Int × List (ByteArray × ByteArray × Int × Int × Int × Int)) : Option (Int × Int × ByteArray × Int × (List (List (List (ByteArray × Int × Int × Int × List (ByteArray × Int × Int))))) × Int × Int × List (ByteArray × ByteArray × Int × Int × Int × Int)) :=
  (iterL (Y := (Int × Int × ByteArray × Int × (List (List (List (ByteArray × Int × Int × Int × List (ByteArray × Int × Int))))) × Int × Int × List (ByteArray × ByteArray × Int × Int × Int × Int)) ⊕ (Int × Int × ByteArray × Int × (List (List (List (ByteArray × Int × Int × Int × List (ByteArray × Int × Int))))) × Int × Int × List (ByteArray × ByteArray × Int × Int × Int × Int))) n (fun (x1 : Int × (List (List (List (ByteArray × Int × Int × Int × List (ByteArray × Int × Int))))) × Int × Int × Int × Int × ByteArray × Int × (List (List (List (ByteArray × Int × Int × Int × List (ByteArray × Int × Int))))) × Int × Int × List (ByteArray × ByteArray × Int × Int × Int × Int)) =>
    let e0 := atI [] x1.2.1 x1.2.2.2.1
    bif decide (x1.2.2.2.1 < x1.2.2.1) then
      bif inB x1.2.2.2.1 x1.2.1.length then
        (iterL (Y := (Int × Int × ByteArray × Int × (List (List (List (ByteArray × Int × Int × Int × List (ByteArray × Int × Int))))) × Int × Int × List (ByteArray × ByteArray × Int × Int × Int × Int)) ⊕ (Int × (List (List (List (ByteArray × Int × Int × Int × List (ByteArray × Int × Int))))) × Int × Int × Int × Int × ByteArray × Int × (List (List (List (ByteArray × Int × Int × Int × List (ByteArray × Int × Int))))) × Int × Int × (List (List (ByteArray × Int × Int × Int × List (ByteArray × Int × Int)))) × List (ByteArray × ByteArray × Int × Int × Int × Int))) n (fun (x2 : Int × (List (List (List (ByteArray × Int × Int × Int × List (ByteArray × Int × Int))))) × Int × Int × (List (List (ByteArray × Int × Int × Int × List (ByteArray × Int × Int)))) × Int × Int × Int × Int × ByteArray × Int × (List (List (List (ByteArray × Int × Int × Int × List (ByteArray × Int × Int))))) × Int × Int × (List (List (ByteArray × Int × Int × Int × List (ByteArray × Int × Int)))) × List (ByteArray × ByteArray × Int × Int × Int × Int)) =>
          let e1 := atI [] x2.2.2.2.2.1 x2.2.2.2.2.2.2.1
          bif decide (x2.2.2.2.2.2.2.1 < x2.2.2.2.2.2.1) then
            bif inB x2.2.2.2.2.2.2.1 x2.2.2.2.2.1.length then
              (iterL (Y := (Int × Int × ByteArray × Int × (List (List (List (ByteArray × Int × Int × Int × List (ByteArray × Int × Int))))) × Int × Int × List (ByteArray × ByteArray × Int × Int × Int × Int)) ⊕ (Int × (List (List (List (ByteArray × Int × Int × Int × List (ByteArray × Int × Int))))) × Int × Int × (List (List (ByteArray × Int × Int × Int × List (ByteArray × Int × Int)))) × Int × Int × Int × Int × ByteArray × Int × (List (List (List (ByteArray × Int × Int × Int × List (ByteArray × Int × Int))))) × Int × Int × (List (List (ByteArray × Int × Int × Int × List (ByteArray × Int × Int)))) × List (ByteArray × ByteArray × Int × Int × Int × Int))) n (fun (x3 : Int × Int × (List (List (List (ByteArray × Int × Int × Int × List (ByteArray × Int × Int))))) × Int × Int × (List (List (ByteArray × Int × Int × Int × List (ByteArray × Int × Int)))) × Int × Int × (List (ByteArray × Int × Int × Int × List (ByteArray × Int × Int))) × Int × Int × Int × Int × ByteArray × Int × (List (List (List (ByteArray × Int × Int × Int × List (ByteArray × Int × Int))))) × Int × Int × (List (List (ByteArray × Int × Int × Int × List (ByteArray × Int × Int)))) × List (ByteArray × ByteArray × Int × Int × Int × Int)) =>
                let e2 := atI (ByteArray.mk #[], 0, 0, 0, []) x3.2.2.2.2.2.2.2.2.1 x3.2.2.2.2.2.2.2.2.2.2.1
                let e3 := e2.2
                let e4 := e2.2.1
                let e5 := e2.2.2
                let e6 := e2.2.2.2
                bif decide (x3.2.2.2.2.2.2.2.2.2.2.1 < x3.2.2.2.2.2.2.2.2.2.1) then
                  bif inB x3.2.2.2.2.2.2.2.2.2.2.1 x3.2.2.2.2.2.2.2.2.1.length then
                    (times_Heads_round n (e2.1, e4, e2.2.2.1, e2.2.2.2.1, e2.2.2.2.2, x3.2.1, x3.2.2.2.2.2.2.2.2.2.2.2.1, x3.2.2.2.2.2.2.2.2.2.2.2.2.1, x3.2.2.2.2.2.2.2.2.2.2.2.2.2.2.2.2.2.2.2)).bind fun y4 =>
                    bif !y4.1 then
                      some (.inr (.inl (y4.2.1, y4.2.2.1, x3.2.2.2.2.2.2.2.2.2.2.2.2.2.1, x3.2.2.2.2.2.2.2.2.2.2.2.2.2.2.1, x3.2.2.2.2.2.2.2.2.2.2.2.2.2.2.2.1, x3.2.2.2.2.2.2.2.2.2.2.2.2.2.2.2.2.1, x3.2.2.2.2.2.2.2.2.2.2.2.2.2.2.2.2.2.1, y4.2.2.2)))
                    else
                    some (.inl (x3.1, wrap64 (x3.2.1 + e4), x3.2.2.1, x3.2.2.2.1, x3.2.2.2.2.1, x3.2.2.2.2.2.1, x3.2.2.2.2.2.2.1, x3.2.2.2.2.2.2.2.1, x3.2.2.2.2.2.2.2.2.1, x3.2.2.2.2.2.2.2.2.2.1, wrap64 (x3.2.2.2.2.2.2.2.2.2.2.1 + 1), y4.2.1, y4.2.2.1, x3.2.2.2.2.2.2.2.2.2.2.2.2.2.1, x3.2.2.2.2.2.2.2.2.2.2.2.2.2.2.1, x3.2.2.2.2.2.2.2.2.2.2.2.2.2.2.2.1, x3.2.2.2.2.2.2.2.2.2.2.2.2.2.2.2.2.1, x3.2.2.2.2.2.2.2.2.2.2.2.2.2.2.2.2.2.1, x3.2.2.2.2.2.2.2.2.2.2.2.2.2.2.2.2.2.2.1, y4.2.2.2))
                  else
                  none
                else
                some (.inr (.inr (x3.1, x3.2.2.1, x3.2.2.2.1, x3.2.2.2.2.1, x3.2.2.2.2.2.1, x3.2.2.2.2.2.2.1, x3.2.2.2.2.2.2.2.1, x3.2.2.2.2.2.2.2.2.2.2.2)))) (x2.1, x2.1, x2.2.1, x2.2.2.1, x2.2.2.2.1, x2.2.2.2.2.1, x2.2.2.2.2.2.1, x2.2.2.2.2.2.2.1, e1, ((e1.length : Nat) : Int), 0, x2.2.2.2.2.2.2.2)).bind (Sum.elim (fun (z5 : Int × Int × ByteArray × Int × (List (List (List (ByteArray × Int × Int × Int × List (ByteArray × Int × Int))))) × Int × Int × List (ByteArray × ByteArray × Int × Int × Int × Int)) =>
                some (.inr (.inl z5))) (fun (z6 : Int × (List (List (List (ByteArray × Int × Int × Int × List (ByteArray × Int × Int))))) × Int × Int × (List (List (ByteArray × Int × Int × Int × List (ByteArray × Int × Int)))) × Int × Int × Int × Int × ByteArray × Int × (List (List (List (ByteArray × Int × Int × Int × List (ByteArray × Int × Int))))) × Int × Int × (List (List (ByteArray × Int × Int × Int × List (ByteArray × Int × Int)))) × List (ByteArray × ByteArray × Int × Int × Int × Int)) =>
                some (.inl (z6.1, z6.2.1, z6.2.2.1, z6.2.2.2.1, z6.2.2.2.2.1, z6.2.2.2.2.2.1, wrap64 (z6.2.2.2.2.2.2.1 + 1), z6.2.2.2.2.2.2.2))))
            else
            none
          else
          some (.inr (.inr (x2.1, x2.2.1, x2.2.2.1, x2.2.2.2.1, x2.2.2.2.2.2.2.2)))) (x1.1, x1.2.1, x1.2.2.1, x1.2.2.2.1, e0, ((e0.length : Nat) : Int), 0, x1.2.2.2.2.1, x1.2.2.2.2.2.1, x1.2.2.2.2.2.2.1, x1.2.2.2.2.2.2.2.1, x1.2.2.2.2.2.2.2.2.1, x1.2.2.2.2.2.2.2.2.2.1, x1.2.2.2.2.2.2.2.2.2.2.1, e0, x1.2.2.2.2.2.2.2.2.2.2.2)).bind (Sum.elim (fun (z7 : Int × Int × ByteArray × Int × (List (List (List (ByteArray × Int × Int × Int × List (ByteArray × Int × Int))))) × Int × Int × List (ByteArray × ByteArray × Int × Int × Int × Int)) =>
          some (.inr (.inl z7))) (fun (z8 : Int × (List (List (List (ByteArray × Int × Int × Int × List (ByteArray × Int × Int))))) × Int × Int × Int × Int × ByteArray × Int × (List (List (List (ByteArray × Int × Int × Int × List (ByteArray × Int × Int))))) × Int × Int × (List (List (ByteArray × Int × Int × Int × List (ByteArray × Int × Int)))) × List (ByteArray × ByteArray × Int × Int × Int × Int)) =>
          (times_long n z8.2.2.2.2.2.2.2.2.2.2.2.1).bind fun y9 =>
          some (.inl (wrap64 (z8.1 + y9), z8.2.1, z8.2.2.1, wrap64 (z8.2.2.2.1 + 1), z8.2.2.2.2.1, z8.2.2.2.2.2.1, z8.2.2.2.2.2.2.1, z8.2.2.2.2.2.2.2.1, z8.2.2.2.2.2.2.2.2.1, z8.2.2.2.2.2.2.2.2.2.1, z8.2.2.2.2.2.2.2.2.2.2.1, z8.2.2.2.2.2.2.2.2.2.2.2.2))))
      else
      none
    else
    some (.inr (.inr x1.2.2.2.2))) (0, x0.2.2.2.2.1, ((x0.2.2.2.2.1.length : Nat) : Int), 0, x0)).bind (Sum.elim (fun (z10 : Int × Int × ByteArray × Int × (List (List (List (ByteArray × Int × Int × Int × List (ByteArray × Int × Int))))) × Int × Int × List (ByteArray × ByteArray × Int × Int × Int × Int)) =>
    some z10) (fun (z11 : Int × Int × ByteArray × Int × (List (List (List (ByteArray × Int × Int × Int × List (ByteArray × Int × Int))))) × Int × Int × List (ByteArray × ByteArray × Int × Int × Int × Int)) =>
    some z11))
def p_times_slots_1 : Plan := .two (.leaf) (.two (.leaf) (.one (.loop ⟨slotsOf 48 [(0, .yld 390 [.c (.box 1000000 0), .c (.box 1000001 0)]), (3, .c (.hole (.int .i64))), (12, .c (.hole (.sl 71))), (13, .c (.hole (.int .i64))), (14, .c (.hole (.int .i64)))], [(1000000, 150, [.hole (.int .i64), .hole (.int .i64)]), (1000001, 152, [.row 1000000]), (1000002, 52, [.hole (.str), .hole (.int .i64), .hole (.sl 71), .hole (.int .i64), .hole (.int .i64)])], [(1000000, 1000305)]⟩ [(.ret, ⟨slotsOf 48 [], [(1000000, 150, [.hole (.int .i64), .hole (.int .i64)]), (1000001, 152, [.row 1000000]), (1000002, 52, [.hole (.str), .hole (.int .i64), .hole (.sl 71), .hole (.int .i64), .hole (.int .i64)])], [(1000000, 1000305)]⟩), (.exit 0, ⟨slotsOf 48 [], [(1000000, 150, [.hole (.int .i64), .hole (.int .i64)]), (1000001, 152, [.row 1000000]), (1000002, 52, [.hole (.str), .hole (.int .i64), .hole (.sl 71), .hole (.int .i64), .hole (.int .i64)])], [(1000000, 1000305)]⟩)] (.two (.leaf) (.two (.leaf) (.two (.one (.two (.leaf) (.two (.two (.leaf) (.one (.loop ⟨slotsOf 48 [(0, .yld 390 [.c (.box 1000000 0), .c (.box 1000001 0)]), (3, .c (.hole (.int .i64))), (5, .c (.box 5 0)), (12, .c (.hole (.sl 71))), (13, .c (.hole (.int .i64))), (14, .c (.hole (.int .i64))), (19, .c (.hole (.sl 122))), (20, .c (.hole (.int .i64))), (21, .c (.hole (.int .i64)))], [(1000000, 150, [.hole (.int .i64), .hole (.int .i64)]), (1000001, 152, [.row 1000000]), (1000002, 52, [.hole (.str), .hole (.int .i64), .hole (.sl 71), .hole (.int .i64), .hole (.int .i64)]), (5, 71, [.hole (.sl 122)])], [(1000000, 1000305)]⟩ [(.ret, ⟨slotsOf 48 [], [(1000000, 150, [.hole (.int .i64), .hole (.int .i64)]), (1000001, 152, [.row 1000000]), (1000002, 52, [.hole (.str), .hole (.int .i64), .hole (.sl 71), .hole (.int .i64), .hole (.int .i64)])], [(1000000, 1000305)]⟩), (.exit 2, ⟨slotsOf 48 [(0, .yld 390 [.c (.box 1000000 0), .c (.box 1000001 0)]), (3, .c (.hole (.int .i64))), (5, .c (.box 5 0)), (12, .c (.hole (.sl 71))), (13, .c (.hole (.int .i64))), (14, .c (.hole (.int .i64)))], [(1000000, 150, [.hole (.int .i64), .hole (.int .i64)]), (1000001, 152, [.row 1000000]), (1000002, 52, [.hole (.str), .hole (.int .i64), .hole (.sl 71), .hole (.int .i64), .hole (.int .i64)]), (5, 71, [.hole (.sl 122)])], [(1000000, 1000305)]⟩)] (.two (.leaf) (.two (.leaf) (.two (.one (.two (.leaf) (.two (.leaf) (.two (.leaf) (.one (.loop ⟨slotsOf 48 [(0, .yld 390 [.c (.box 1000000 0), .c (.box 1000001 0)]), (3, .c (.hole (.int .i64))), (5, .c (.box 5 0)), (8, .c (.hole (.int .i64))), (12, .c (.hole (.sl 71))), (13, .c (.hole (.int .i64))), (14, .c (.hole (.int .i64))), (19, .c (.hole (.sl 122))), (20, .c (.hole (.int .i64))), (21, .c (.hole (.int .i64))), (26, .c (.hole (.sl 121))), (27, .c (.hole (.int .i64))), (28, .c (.hole (.int .i64)))], [(1000000, 150, [.hole (.int .i64), .hole (.int .i64)]), (1000001, 152, [.row 1000000]), (1000002, 52, [.hole (.str), .hole (.int .i64), .hole (.sl 71), .hole (.int .i64), .hole (.int .i64)]), (5, 71, [.hole (.sl 122)])], [(1000000, 1000305)]⟩ [(.ret, ⟨slotsOf 48 [], [(1000000, 150, [.hole (.int .i64), .hole (.int .i64)]), (1000001, 152, [.row 1000000]), (1000002, 52, [.hole (.str), .hole (.int .i64), .hole (.sl 71), .hole (.int .i64), .hole (.int .i64)])], [(1000000, 1000305)]⟩), (.exit 4, ⟨slotsOf 48 [(0, .yld 390 [.c (.box 1000000 0), .c (.box 1000001 0)]), (3, .c (.hole (.int .i64))), (5, .c (.box 5 0)), (12, .c (.hole (.sl 71))), (13, .c (.hole (.int .i64))), (14, .c (.hole (.int .i64))), (19, .c (.hole (.sl 122))), (20, .c (.hole (.int .i64))), (21, .c (.hole (.int .i64)))], [(1000000, 150, [.hole (.int .i64), .hole (.int .i64)]), (1000001, 152, [.row 1000000]), (1000002, 52, [.hole (.str), .hole (.int .i64), .hole (.sl 71), .hole (.int .i64), .hole (.int .i64)]), (5, 71, [.hole (.sl 122)])], [(1000000, 1000305)]⟩)] (.leaf))))))) (.leaf))))))) (.leaf)))) (.leaf)))))))
noncomputable def c_times_slots_1 (n : Nat) : Cx := ⟨Go.Proofs.Try.prog, Θ, [219, 74], [(92, ⟨h_times_long, o_times_long, times_long n⟩)], [(390, ⟨h_times_Heads_round, o_times_Heads_round, times_Heads_round n⟩)], []⟩
theorem d_times_slots_1 (n : Nat) (x : h_times_slots_1.X T) : denF (c_times_slots_1 n) n Go.Proofs.Try.f129 p_times_slots_1 h_times_slots_1 o_times_slots_1 x = times_slots_1 n x := by kernel_rfl
theorem s_times_slots_1 (n : Nat) : PCalls Go.Proofs.Try.prog Θ 129 ⟨h_times_slots_1, o_times_slots_1, times_slots_1 n⟩ :=
  func_ok' (C := c_times_slots_1 n) (n := n) (p := p_times_slots_1) (ok_of mixed eqsOk ⟨s_times_long n, trivial⟩ ⟨s_times_Heads_round n, trivial⟩ trivial) Go.Proofs.Try.func129 (by kernel_rfl) (by kernel_rfl) (d_times_slots_1 n) (by kernel_rfl)

/-- slices.Contains[[]string,string] -/
def h_slices_Contains : Shape := ⟨slotsOf 2 [(0, .c (.hole (.sl 9))), (1, .c (.hole (.str)))], [], []⟩
def o_slices_Contains : List (Ex × Shape) := [(.ret, ⟨slotsOf 1 [(0, .c (.hole (.bool)))], [], []⟩)]
def slices_Contains (n : Nat) (x0 : (List ByteArray) × ByteArray) : Option (Bool) :=
  (slices_Index n x0).bind fun y1 =>
  some (decide (0 ≤ y1))
def p_slices_Contains : Plan := .leaf
noncomputable def c_slices_Contains (n : Nat) : Cx := ⟨Go.Proofs.Try.prog, Θ, [219, 74], [(109, ⟨h_slices_Index, o_slices_Index, slices_Index n⟩)], [], []⟩
theorem d_slices_Contains (n : Nat) (x : h_slices_Contains.X T) : denF (c_slices_Contains n) n Go.Proofs.Try.f58 p_slices_Contains h_slices_Contains o_slices_Contains x = slices_Contains n x := by kernel_rfl
theorem s_slices_Contains (n : Nat) : PCalls Go.Proofs.Try.prog Θ 58 ⟨h_slices_Contains, o_slices_Contains, slices_Contains n⟩ :=
  func_ok' (C := c_slices_Contains n) (n := n) (p := p_slices_Contains) (ok_of mixed eqsOk ⟨s_slices_Index n, trivial⟩ trivial trivial) Go.Proofs.Try.func58 (by kernel_rfl) (by kernel_rfl) (d_slices_Contains n) (by kernel_rfl)

/-- carrefour/valid.Home$1 -/
def h_valid_Home_1 : Shape := ⟨slotsOf 2 [(0, .agg [.hole (.str), .hole (.sl 9), .hole (.int .i64)]), (1, .c (.box 1000000 0))], [(1000000, 9, [.hole (.str)])], []⟩
def o_valid_Home_1 : List (Ex × Shape) := [(.ret, ⟨slotsOf 1 [(0, .c (.hole (.bool)))], [(1000000, 9, [.hole (.str)])], []⟩)]
def valid_Home_1 (n : Nat) (x0 : ByteArray × (List ByteArray) × Int × ByteArray) : Option (Bool × ByteArray) :=
  (slices_Contains n (x0.2.1, x0.2.2.2)).bind fun y1 =>
  some (y1, x0.2.2.2)
def p_valid_Home_1 : Plan := .leaf
noncomputable def c_valid_Home_1 (n : Nat) : Cx := ⟨Go.Proofs.Try.prog, Θ, [219, 74], [(58, ⟨h_slices_Contains, o_slices_Contains, slices_Contains n⟩)], [], []⟩
theorem d_valid_Home_1 (n : Nat) (x : h_valid_Home_1.X T) : denF (c_valid_Home_1 n) n Go.Proofs.Try.f57 p_valid_Home_1 h_valid_Home_1 o_valid_Home_1 x = valid_Home_1 n x := by kernel_rfl
theorem s_valid_Home_1 (n : Nat) : PCalls Go.Proofs.Try.prog Θ 57 ⟨h_valid_Home_1, o_valid_Home_1, valid_Home_1 n⟩ :=
  func_ok' (C := c_valid_Home_1 n) (n := n) (p := p_valid_Home_1) (ok_of mixed eqsOk ⟨s_slices_Contains n, trivial⟩ trivial trivial) Go.Proofs.Try.func57 (by kernel_rfl) (by kernel_rfl) (d_valid_Home_1 n) (by kernel_rfl)

end Go.Proofs.Ytakkhnoelnpfdaa.Fn
