/- Functions of the program, each as a plain function, and that the machine does what it says. -/
import Derived.Test.YtakkhnoelnpfdaaGreatFnA2
namespace Go.Proofs.YtakkhnoelnpfdaaGreat.Fn
set_option linter.unusedVariables false
set_option maxRecDepth 100000
open Go Go.RowKit Go.Den
/-- carrefour/times.long -/
def h_times_long : Shape := ⟨slotsOf 1 [(0, .agg [.hole (.sl 82)])], [], []⟩
def o_times_long : List (Ex × Shape) := [(.ret, ⟨slotsOf 1 [(0, .c (.hole (.int .i64)))], [], []⟩)]
def times_long (n : Nat) (x0 : List (List (ByteArray × Int × Int × Int × List (ByteArray × Int × Int)))) : Option (Int) :=
  (iterL (Y := (Int)) n (fun (x1 : Int × (List (List (ByteArray × Int × Int × Int × List (ByteArray × Int × Int)))) × Int × Int) =>
    let e0 := atI [] x1.2.1 x1.2.2.2
    bif decide (x1.2.2.2 < x1.2.2.1) then
      bif inB x1.2.2.2 x1.2.1.length then
        (iterL (Y := (Int × Int × (List (List (ByteArray × Int × Int × Int × List (ByteArray × Int × Int)))) × Int × Int)) n (fun (x2 : Int × Int × (List (List (ByteArray × Int × Int × Int × List (ByteArray × Int × Int)))) × Int × Int × (List (ByteArray × Int × Int × Int × List (ByteArray × Int × Int))) × Int × Int) =>
          bif decide (x2.2.2.2.2.2.2.2 < x2.2.2.2.2.2.2.1) then
            bif inB x2.2.2.2.2.2.2.2 x2.2.2.2.2.2.1.length then
              some (.inl (x2.1, wrap64 (x2.2.1 + (atI (ByteArray.mk #[], 0, 0, 0, []) x2.2.2.2.2.2.1 x2.2.2.2.2.2.2.2).2.1), x2.2.2.1, x2.2.2.2.1, x2.2.2.2.2.1, x2.2.2.2.2.2.1, x2.2.2.2.2.2.2.1, wrap64 (x2.2.2.2.2.2.2.2 + 1)))
            else
            none
          else
          some (.inr (x2.1, x2.2.1, x2.2.2.1, x2.2.2.2.1, x2.2.2.2.2.1))) (x1.1, 0, x1.2.1, x1.2.2.1, x1.2.2.2, e0, ((e0.length : Nat) : Int), 0)).bind fun (z3 : Int × Int × (List (List (ByteArray × Int × Int × Int × List (ByteArray × Int × Int)))) × Int × Int) =>
          some (.inl (mx z3.1 z3.2.1, z3.2.2.1, z3.2.2.2.1, wrap64 (z3.2.2.2.2 + 1)))
      else
      none
    else
    some (.inr x1.1)) (0, x0, ((x0.length : Nat) : Int), 0)).bind fun (z4 : Int) =>
    some z4
def p_times_long : Plan := .two (.leaf) (.two (.leaf) (.two (.two (.leaf) (.one (.loop ⟨slotsOf 32 [(3, .c (.hole (.int .i64))), (10, .c (.hole (.sl 82))), (11, .c (.hole (.int .i64))), (12, .c (.hole (.int .i64)))], [], []⟩ [(.exit 0, ⟨slotsOf 32 [(3, .c (.hole (.int .i64)))], [], []⟩)] (.two (.leaf) (.two (.leaf) (.two (.one (.two (.leaf) (.two (.leaf) (.two (.two (.leaf) (.one (.loop ⟨slotsOf 32 [(3, .c (.hole (.int .i64))), (6, .c (.hole (.int .i64))), (10, .c (.hole (.sl 82))), (11, .c (.hole (.int .i64))), (12, .c (.hole (.int .i64))), (16, .c (.hole (.sl 62))), (17, .c (.hole (.int .i64))), (18, .c (.hole (.int .i64)))], [], []⟩ [(.exit 2, ⟨slotsOf 32 [(3, .c (.hole (.int .i64))), (6, .c (.hole (.int .i64))), (10, .c (.hole (.sl 82))), (11, .c (.hole (.int .i64))), (12, .c (.hole (.int .i64)))], [], []⟩)] (.leaf)))) (.leaf))))) (.leaf))))))) (.leaf)))
noncomputable def c_times_long (n : Nat) : Cx := ⟨Go.Proofs.Tryz.prog, Θ, [191, 57], [], [], []⟩
theorem d_times_long (n : Nat) (x : h_times_long.X T) : denF (c_times_long n) n Go.Proofs.Tryz.f46 p_times_long h_times_long o_times_long x = times_long n x := by kernel_rfl
theorem s_times_long (n : Nat) : PCalls Go.Proofs.Tryz.prog Θ 46 ⟨h_times_long, o_times_long, times_long n⟩ :=
  func_ok' (C := c_times_long n) (n := n) (p := p_times_long) (ok_of mixed eqsOk trivial trivial trivial) Go.Proofs.Tryz.func46 (by kernel_rfl) (by kernel_rfl) (d_times_long n) (by kernel_rfl)

/-- carrefour/times.Length -/
def h_times_Length : Shape := ⟨slotsOf 1 [(0, .agg [.hole (.str), .hole (.int .i64), .hole (.sl 85), .hole (.int .i64), .hole (.int .i64)])], [], []⟩
def o_times_Length : List (Ex × Shape) := [(.ret, ⟨slotsOf 1 [(0, .c (.hole (.int .i64)))], [], []⟩)]
def times_Length (n : Nat) (x0 : ByteArray × Int × (List (List (List (ByteArray × Int × Int × Int × List (ByteArray × Int × Int))))) × Int × Int) : Option (Int) :=
  (times_sound n x0).bind fun y1 =>
  bif !y1 then
    some 0
  else
  (iterL (Y := (Int)) n (fun (x2 : Int × (List (List (List (ByteArray × Int × Int × Int × List (ByteArray × Int × Int))))) × Int × Int) =>
    bif decide (x2.2.2.2 < x2.2.2.1) then
      bif inB x2.2.2.2 x2.2.1.length then
        (times_long n (atI [] x2.2.1 x2.2.2.2)).bind fun y3 =>
        some (.inl (wrap64 (x2.1 + y3), x2.2.1, x2.2.2.1, wrap64 (x2.2.2.2 + 1)))
      else
      none
    else
    some (.inr x2.1)) (0, x0.2.2.1, ((x0.2.2.1.length : Nat) : Int), 0)).bind fun (z4 : Int) =>
    some z4
def p_times_Length : Plan := .two (.leaf) (.two (.leaf) (.two (.leaf) (.two (.two (.leaf) (.one (.loop ⟨slotsOf 22 [(3, .c (.hole (.int .i64))), (10, .c (.hole (.sl 85))), (11, .c (.hole (.int .i64))), (12, .c (.hole (.int .i64)))], [], []⟩ [(.exit 0, ⟨slotsOf 22 [(3, .c (.hole (.int .i64)))], [], []⟩)] (.leaf)))) (.leaf))))
noncomputable def c_times_Length (n : Nat) : Cx := ⟨Go.Proofs.Tryz.prog, Θ, [191, 57], [(45, ⟨h_times_sound, o_times_sound, times_sound n⟩), (46, ⟨h_times_long, o_times_long, times_long n⟩)], [], []⟩
theorem d_times_Length (n : Nat) (x : h_times_Length.X T) : denF (c_times_Length n) n Go.Proofs.Tryz.f13 p_times_Length h_times_Length o_times_Length x = times_Length n x := by kernel_rfl
theorem s_times_Length (n : Nat) : PCalls Go.Proofs.Tryz.prog Θ 13 ⟨h_times_Length, o_times_Length, times_Length n⟩ :=
  func_ok' (C := c_times_Length n) (n := n) (p := p_times_Length) (ok_of mixed eqsOk ⟨s_times_sound n, s_times_long n, trivial⟩ trivial trivial) Go.Proofs.Tryz.func13 (by kernel_rfl) (by kernel_rfl) (d_times_Length n) (by kernel_rfl)

/-- carrefour/times.Fits -/
def h_times_Fits : Shape := ⟨slotsOf 2 [(0, .agg [.hole (.str), .hole (.sl 72), .hole (.sl 66), .hole (.sl 111), .hole (.sl 125), .hole (.sl 163), .hole (.int .i64)]), (1, .agg [.hole (.str), .hole (.int .i64), .hole (.sl 85), .hole (.int .i64), .hole (.int .i64)])], [], []⟩
def o_times_Fits : List (Ex × Shape) := [(.ret, ⟨slotsOf 1 [(0, .c (.hole (.bool)))], [], []⟩)]
noncomputable def times_Fits (n : Nat) (x0 : ByteArray × (List (ByteArray × Int × Int × Int × Int × Int × Int × Int × Int × Int × Int)) × (List (ByteArray × ByteArray × Int × Int × Int × Int)) × (List (ByteArray × (List ByteArray) × Int)) × (List (List (Bool × List ByteArray))) × (List (ByteArray × ByteArray × Int)) × Int × ByteArray × Int × (List (List (List (ByteArray × Int × Int × Int × List (ByteArray × Int × Int))))) × Int × Int) : Option (Bool) :=
  letJ (fun (x2 : Bool × ByteArray × (List (ByteArray × Int × Int × Int × Int × Int × Int × Int × Int × Int × Int)) × (List (ByteArray × ByteArray × Int × Int × Int × Int)) × (List (ByteArray × (List ByteArray) × Int)) × (List (List (Bool × List ByteArray))) × (List (ByteArray × ByteArray × Int)) × Int × ByteArray × Int × (List (List (List (ByteArray × Int × Int × Int × List (ByteArray × Int × Int))))) × Int × Int) =>
    bif x2.1 then
      some false
    else
    (iterL (Y := (Bool) ⊕ (ByteArray × Int × (List (List (List (ByteArray × Int × Int × Int × List (ByteArray × Int × Int))))) × Int × Int)) n (fun (x4 : (List (List (List (ByteArray × Int × Int × Int × List (ByteArray × Int × Int))))) × Int × Int × ByteArray × (List (ByteArray × Int × Int × Int × Int × Int × Int × Int × Int × Int × Int)) × (List (ByteArray × ByteArray × Int × Int × Int × Int)) × (List (ByteArray × (List ByteArray) × Int)) × (List (List (Bool × List ByteArray))) × (List (ByteArray × ByteArray × Int)) × Int × ByteArray × Int × (List (List (List (ByteArray × Int × Int × Int × List (ByteArray × Int × Int))))) × Int × Int) =>
      let e0 := atI [] x4.1 x4.2.2.1
      let e1 := ((e0.length : Nat) : Int)
      bif decide (x4.2.2.1 < x4.2.1) then
        bif inB x4.2.2.1 x4.1.length then
          bif inB x4.2.2.1 x4.2.2.2.2.2.2.2.1.length then
            bif !(e1 == ((List.length (atI [] x4.2.2.2.2.2.2.2.1 x4.2.2.1) : Nat) : Int)) then
              some (.inr (.inl false))
            else
            (iterL (Y := (Bool) ⊕ ((List (List (List (ByteArray × Int × Int × Int × List (ByteArray × Int × Int))))) × Int × Int × ByteArray × (List (ByteArray × Int × Int × Int × Int × Int × Int × Int × Int × Int × Int)) × (List (ByteArray × ByteArray × Int × Int × Int × Int)) × (List (ByteArray × (List ByteArray) × Int)) × (List (List (Bool × List ByteArray))) × (List (ByteArray × ByteArray × Int)) × Int × ByteArray × Int × (List (List (List (ByteArray × Int × Int × Int × List (ByteArray × Int × Int))))) × Int × Int)) n (fun (x5 : Int × (List (List (List (ByteArray × Int × Int × Int × List (ByteArray × Int × Int))))) × Int × Int × (List (List (ByteArray × Int × Int × Int × List (ByteArray × Int × Int)))) × Int × Int × ByteArray × (List (ByteArray × Int × Int × Int × Int × Int × Int × Int × Int × Int × Int)) × (List (ByteArray × ByteArray × Int × Int × Int × Int)) × (List (ByteArray × (List ByteArray) × Int)) × (List (List (Bool × List ByteArray))) × (List (ByteArray × ByteArray × Int)) × Int × ByteArray × Int × (List (List (List (ByteArray × Int × Int × Int × List (ByteArray × Int × Int))))) × Int × Int) =>
              let e2 := atI [] x5.2.2.2.2.2.2.2.2.2.2.2.1 x5.1
              let e3 := atI (false, []) e2 x5.2.2.2.2.2.2.1
              bif decide (x5.2.2.2.2.2.2.1 < x5.2.2.2.2.2.1) then
                bif inB x5.2.2.2.2.2.2.1 x5.2.2.2.2.1.length then
                  bif inB x5.1 x5.2.2.2.2.2.2.2.2.2.2.2.1.length then
                    bif inB x5.2.2.2.2.2.2.1 e2.length then
                      (times_ring n (x5.2.2.2.2.2.2.2.1, x5.2.2.2.2.2.2.2.2.1, x5.2.2.2.2.2.2.2.2.2.1, x5.2.2.2.2.2.2.2.2.2.2.1, x5.2.2.2.2.2.2.2.2.2.2.2.1, x5.2.2.2.2.2.2.2.2.2.2.2.2.1, x5.2.2.2.2.2.2.2.2.2.2.2.2.2.1, e3.1, e3.2, atI [] x5.2.2.2.2.1 x5.2.2.2.2.2.2.1)).bind fun y6 =>
                      bif !y6 then
                        some (.inr (.inl false))
                      else
                      some (.inl (x5.1, x5.2.1, x5.2.2.1, x5.2.2.2.1, x5.2.2.2.2.1, x5.2.2.2.2.2.1, wrap64 (x5.2.2.2.2.2.2.1 + 1), x5.2.2.2.2.2.2.2))
                    else
                    none
                  else
                  none
                else
                none
              else
              some (.inr (.inr (x5.2.1, x5.2.2.1, x5.2.2.2.1, x5.2.2.2.2.2.2.2)))) (x4.2.2.1, x4.1, x4.2.1, x4.2.2.1, e0, e1, 0, x4.2.2.2)).bind (Sum.elim (fun (z7 : Bool) =>
              some (.inr (.inl z7))) (fun (z8 : (List (List (List (ByteArray × Int × Int × Int × List (ByteArray × Int × Int))))) × Int × Int × ByteArray × (List (ByteArray × Int × Int × Int × Int × Int × Int × Int × Int × Int × Int)) × (List (ByteArray × ByteArray × Int × Int × Int × Int)) × (List (ByteArray × (List ByteArray) × Int)) × (List (List (Bool × List ByteArray))) × (List (ByteArray × ByteArray × Int)) × Int × ByteArray × Int × (List (List (List (ByteArray × Int × Int × Int × List (ByteArray × Int × Int))))) × Int × Int) =>
              some (.inl (z8.1, z8.2.1, wrap64 (z8.2.2.1 + 1), z8.2.2.2))))
          else
          none
        else
        none
      else
      some (.inr (.inr x4.2.2.2.2.2.2.2.2.2.2))) (x2.2.2.2.2.2.2.2.2.2.2.1, ((x2.2.2.2.2.2.2.2.2.2.2.1.length : Nat) : Int), 0, x2.2)).bind (Sum.elim (fun (z9 : Bool) =>
      some z9) (fun (z10 : ByteArray × Int × (List (List (List (ByteArray × Int × Int × Int × List (ByteArray × Int × Int))))) × Int × Int) =>
      (times_Length n z10).bind fun y11 =>
      bif decide (1 ≤ y11) then
        some (decide (y11 ≤ 6000))
      else
      some false))) fun J3 =>
  (times_sound n x0.2.2.2.2.2.2.2).bind fun y1 =>
  bif !y1 then
    J3 (true, x0)
  else
  J3 (!(((x0.2.2.2.2.2.2.2.2.2.1.length : Nat) : Int) == ((x0.2.2.2.2.1.length : Nat) : Int)), x0)
def p_times_Fits : Plan := .two (.leaf) (.two (.two (.join ⟨slotsOf 72 [(2, .c (.box 2 0)), (3, .c (.box 3 0)), (21, .c (.hole (.bool)))], [(2, 28, [.hole (.str), .hole (.sl 72), .hole (.sl 66), .hole (.sl 111), .hole (.sl 125), .hole (.sl 163), .hole (.int .i64)]), (3, 33, [.hole (.str), .hole (.int .i64), .hole (.sl 85), .hole (.int .i64), .hole (.int .i64)])], []⟩ (.leaf)) (.leaf)) (.two (.two (.leaf) (.one (.loop ⟨slotsOf 72 [(2, .c (.box 2 0)), (3, .c (.box 3 0)), (23, .c (.hole (.sl 85))), (24, .c (.hole (.int .i64))), (25, .c (.hole (.int .i64)))], [(2, 28, [.hole (.str), .hole (.sl 72), .hole (.sl 66), .hole (.sl 111), .hole (.sl 125), .hole (.sl 163), .hole (.int .i64)]), (3, 33, [.hole (.str), .hole (.int .i64), .hole (.sl 85), .hole (.int .i64), .hole (.int .i64)])], []⟩ [(.ret, ⟨slotsOf 72 [(4, .c (.hole (.bool)))], [], []⟩), (.exit 0, ⟨slotsOf 72 [(3, .c (.box 3 0))], [(3, 33, [.hole (.str), .hole (.int .i64), .hole (.sl 85), .hole (.int .i64), .hole (.int .i64)])], []⟩)] (.two (.leaf) (.two (.leaf) (.two (.one (.two (.leaf) (.two (.leaf) (.two (.leaf) (.one (.loop ⟨slotsOf 72 [(2, .c (.box 2 0)), (3, .c (.box 3 0)), (5, .c (.hole (.int .i64))), (23, .c (.hole (.sl 85))), (24, .c (.hole (.int .i64))), (25, .c (.hole (.int .i64))), (42, .c (.hole (.sl 82))), (43, .c (.hole (.int .i64))), (44, .c (.hole (.int .i64)))], [(2, 28, [.hole (.str), .hole (.sl 72), .hole (.sl 66), .hole (.sl 111), .hole (.sl 125), .hole (.sl 163), .hole (.int .i64)]), (3, 33, [.hole (.str), .hole (.int .i64), .hole (.sl 85), .hole (.int .i64), .hole (.int .i64)])], []⟩ [(.ret, ⟨slotsOf 72 [(4, .c (.hole (.bool)))], [], []⟩), (.exit 2, ⟨slotsOf 72 [(2, .c (.box 2 0)), (3, .c (.box 3 0)), (23, .c (.hole (.sl 85))), (24, .c (.hole (.int .i64))), (25, .c (.hole (.int .i64)))], [(2, 28, [.hole (.str), .hole (.sl 72), .hole (.sl 66), .hole (.sl 111), .hole (.sl 125), .hole (.sl 163), .hole (.int .i64)]), (3, 33, [.hole (.str), .hole (.int .i64), .hole (.sl 85), .hole (.int .i64), .hole (.int .i64)])], []⟩)] (.leaf))))))) (.leaf))))))) (.leaf)))
noncomputable def c_times_Fits (n : Nat) : Cx := ⟨Go.Proofs.Tryz.prog, Θ, [191, 57], [(45, ⟨h_times_sound, o_times_sound, times_sound n⟩), (67, ⟨h_times_ring, o_times_ring, times_ring n⟩), (13, ⟨h_times_Length, o_times_Length, times_Length n⟩)], [], []⟩
theorem d_times_Fits (n : Nat) (x : h_times_Fits.X T) : denF (c_times_Fits n) n Go.Proofs.Tryz.f32 p_times_Fits h_times_Fits o_times_Fits x = times_Fits n x := by kernel_rfl
theorem s_times_Fits (n : Nat) : PCalls Go.Proofs.Tryz.prog Θ 32 ⟨h_times_Fits, o_times_Fits, times_Fits n⟩ :=
  func_ok' (C := c_times_Fits n) (n := n) (p := p_times_Fits) (ok_of mixed eqsOk ⟨s_times_sound n, s_times_ring n, s_times_Length n, trivial⟩ trivial trivial) Go.Proofs.Tryz.func32 (by kernel_rfl) (by kernel_rfl) (d_times_Fits n) (by kernel_rfl)

/-- carrefour/circle.cycle -/
def h_circle_cycle : Shape := ⟨slotsOf 1 [(0, .c (.hole (.int .i64)))], [], []⟩
def o_circle_cycle : List (Ex × Shape) := [(.ret, ⟨slotsOf 1 [(0, .c (.hole (.bool)))], [], []⟩)]
def circle_cycle (n : Nat) (x0 : Int) : Option (Bool) :=
  bif decide (1 ≤ x0) then
    some (decide (x0 ≤ 6000))
  else
  some false
def p_circle_cycle : Plan := .leaf
noncomputable def c_circle_cycle (n : Nat) : Cx := ⟨Go.Proofs.Tryz.prog, Θ, [191, 57], [], [], []⟩
theorem d_circle_cycle (n : Nat) (x : h_circle_cycle.X T) : denF (c_circle_cycle n) n Go.Proofs.Tryz.f103 p_circle_cycle h_circle_cycle o_circle_cycle x = circle_cycle n x := by kernel_rfl
theorem s_circle_cycle (n : Nat) : PCalls Go.Proofs.Tryz.prog Θ 103 ⟨h_circle_cycle, o_circle_cycle, circle_cycle n⟩ :=
  func_ok' (C := c_circle_cycle n) (n := n) (p := p_circle_cycle) (ok_of mixed eqsOk trivial trivial trivial) Go.Proofs.Tryz.func103 (by kernel_rfl) (by kernel_rfl) (d_circle_cycle n) (by kernel_rfl)

/-- carrefour/whole.Mod -/
def h_whole_Mod : Shape := ⟨slotsOf 2 [(0, .c (.hole (.int .i64))), (1, .c (.hole (.int .i64)))], [], []⟩
def o_whole_Mod : List (Ex × Shape) := [(.ret, ⟨slotsOf 2 [(0, .c (.hole (.int .i64))), (1, .c (.hole (.int .i64)))], [], []⟩)]
def whole_Mod (n : Nat) (x0 : Int × Int) : Option (Int × Int) :=
  let e0 := Int.tmod x0.1 x0.2
  bif decide (x0.2 < 1) then
    some (0, 1)
  else
  bif !(x0.2 == 0) then
    bif decide (e0 < 0) then
      some (wrap64 (e0 + x0.2), 0)
    else
    some (e0, 0)
  else
  none
def p_whole_Mod : Plan := .leaf
noncomputable def c_whole_Mod (n : Nat) : Cx := ⟨Go.Proofs.Tryz.prog, Θ, [191, 57], [], [], []⟩
theorem d_whole_Mod (n : Nat) (x : h_whole_Mod.X T) : denF (c_whole_Mod n) n Go.Proofs.Tryz.f115 p_whole_Mod h_whole_Mod o_whole_Mod x = whole_Mod n x := by kernel_rfl
theorem s_whole_Mod (n : Nat) : PCalls Go.Proofs.Tryz.prog Θ 115 ⟨h_whole_Mod, o_whole_Mod, whole_Mod n⟩ :=
  func_ok' (C := c_whole_Mod n) (n := n) (p := p_whole_Mod) (ok_of mixed eqsOk trivial trivial trivial) Go.Proofs.Tryz.func115 (by kernel_rfl) (by kernel_rfl) (d_whole_Mod n) (by kernel_rfl)

/-- carrefour/circle.modulo -/
def h_circle_modulo : Shape := ⟨slotsOf 2 [(0, .c (.hole (.int .i64))), (1, .c (.hole (.int .i64)))], [], []⟩
def o_circle_modulo : List (Ex × Shape) := [(.ret, ⟨slotsOf 1 [(0, .c (.hole (.int .i64)))], [], []⟩)]
def circle_modulo (n : Nat) (x0 : Int × Int) : Option (Int) :=
  (whole_Mod n x0).bind fun y1 =>
  some y1.1
def p_circle_modulo : Plan := .leaf
noncomputable def c_circle_modulo (n : Nat) : Cx := ⟨Go.Proofs.Tryz.prog, Θ, [191, 57], [(115, ⟨h_whole_Mod, o_whole_Mod, whole_Mod n⟩)], [], []⟩
theorem d_circle_modulo (n : Nat) (x : h_circle_modulo.X T) : denF (c_circle_modulo n) n Go.Proofs.Tryz.f104 p_circle_modulo h_circle_modulo o_circle_modulo x = circle_modulo n x := by kernel_rfl
theorem s_circle_modulo (n : Nat) : PCalls Go.Proofs.Tryz.prog Θ 104 ⟨h_circle_modulo, o_circle_modulo, circle_modulo n⟩ :=
  func_ok' (C := c_circle_modulo n) (n := n) (p := p_circle_modulo) (ok_of mixed eqsOk ⟨s_whole_Mod n, trivial⟩ trivial trivial) Go.Proofs.Tryz.func104 (by kernel_rfl) (by kernel_rfl) (d_circle_modulo n) (by kernel_rfl)

/-- carrefour/circle.Norm -/
def h_circle_Norm : Shape := ⟨slotsOf 2 [(0, .c (.hole (.int .i64))), (1, .agg [.hole (.int .i64), .hole (.int .i64)])], [], []⟩
def o_circle_Norm : List (Ex × Shape) := [(.ret, ⟨slotsOf 1 [(0, .agg [.hole (.int .i64), .hole (.int .i64)])], [], []⟩)]
def circle_Norm (n : Nat) (x0 : Int × Int × Int) : Option (Int × Int) :=
  letJ (fun (x2 : Int × Bool × Int × Int × Int × Int) =>
    bif x2.2.1 then
      some (0, 0)
    else
    bif decide (x2.1 ≤ x2.2.2.2.1) then
      some (0, x2.1)
    else
    (circle_modulo n (x2.2.2.1, x2.1)).bind fun y4 =>
    some (y4, x2.2.2.2.1)) fun J3 =>
  (circle_cycle n x0.1).bind fun y1 =>
  bif !y1 then
    J3 (x0.1, true, x0.2.1, x0.2.2, 0, 0)
  else
  J3 (x0.1, decide (x0.2.2 < 1), x0.2.1, x0.2.2, 0, 0)
def p_circle_Norm : Plan := .two (.leaf) (.two (.one (.two (.join ⟨slotsOf 29 [(0, .c (.hole (.int .i64))), (3, .c (.box 3 0)), (4, .c (.box 4 0)), (5, .c (.hole (.bool)))], [(3, 57, [.hole (.int .i64), .hole (.int .i64)]), (4, 57, [.hole (.int .i64), .hole (.int .i64)])], []⟩ (.leaf)) (.leaf))) (.leaf))
noncomputable def c_circle_Norm (n : Nat) : Cx := ⟨Go.Proofs.Tryz.prog, Θ, [191, 57], [(103, ⟨h_circle_cycle, o_circle_cycle, circle_cycle n⟩), (104, ⟨h_circle_modulo, o_circle_modulo, circle_modulo n⟩)], [], []⟩
theorem d_circle_Norm (n : Nat) (x : h_circle_Norm.X T) : denF (c_circle_Norm n) n Go.Proofs.Tryz.f77 p_circle_Norm h_circle_Norm o_circle_Norm x = circle_Norm n x := by kernel_rfl
theorem s_circle_Norm (n : Nat) : PCalls Go.Proofs.Tryz.prog Θ 77 ⟨h_circle_Norm, o_circle_Norm, circle_Norm n⟩ :=
  func_ok' (C := c_circle_Norm n) (n := n) (p := p_circle_Norm) (ok_of mixed eqsOk ⟨s_circle_cycle n, s_circle_modulo n, trivial⟩ trivial trivial) Go.Proofs.Tryz.func77 (by kernel_rfl) (by kernel_rfl) (d_circle_Norm n) (by kernel_rfl)

/-- carrefour/times.newClock -/
def h_times_newClock : Shape := ⟨slotsOf 1 [(0, .agg [.hole (.str), .hole (.int .i64), .hole (.sl 85), .hole (.int .i64), .hole (.int .i64)])], [], []⟩
def o_times_newClock : List (Ex × Shape) := [(.ret, ⟨slotsOf 1 [(0, .agg [.hole (.int .i64), .hole (.int .i64)])], [], []⟩)]
def times_newClock (n : Nat) (x0 : ByteArray × Int × (List (List (List (ByteArray × Int × Int × Int × List (ByteArray × Int × Int))))) × Int × Int) : Option (Int × Int) :=
  (times_Length n x0).bind fun y1 =>
  (circle_Norm n (y1, x0.2.1, 1)).bind fun y2 =>
  bif !(y1 == 0) then
    some (y1, Int.tmod y2.1 y1)
  else
  none
def p_times_newClock : Plan := .leaf
noncomputable def c_times_newClock (n : Nat) : Cx := ⟨Go.Proofs.Tryz.prog, Θ, [191, 57], [(13, ⟨h_times_Length, o_times_Length, times_Length n⟩), (77, ⟨h_circle_Norm, o_circle_Norm, circle_Norm n⟩)], [], []⟩
theorem d_times_newClock (n : Nat) (x : h_times_newClock.X T) : denF (c_times_newClock n) n Go.Proofs.Tryz.f38 p_times_newClock h_times_newClock o_times_newClock x = times_newClock n x := by kernel_rfl
theorem s_times_newClock (n : Nat) : PCalls Go.Proofs.Tryz.prog Θ 38 ⟨h_times_newClock, o_times_newClock, times_newClock n⟩ :=
  func_ok' (C := c_times_newClock n) (n := n) (p := p_times_newClock) (ok_of mixed eqsOk ⟨s_times_Length n, s_circle_Norm n, trivial⟩ trivial trivial) Go.Proofs.Tryz.func38 (by kernel_rfl) (by kernel_rfl) (d_times_newClock n) (by kernel_rfl)

/-- carrefour/times.slots -/
def h_times_slots : Shape := ⟨slotsOf 1 [(0, .agg [.hole (.str), .hole (.int .i64), .hole (.sl 85), .hole (.int .i64), .hole (.int .i64)])], [], []⟩
def o_times_slots : List (Ex × Shape) := [(.ret, ⟨slotsOf 1 [(0, .c (.fn 78 [0]))], [(0, 33, [.hole (.str), .hole (.int .i64), .hole (.sl 85), .hole (.int .i64), .hole (.int .i64)])], []⟩)]
def times_slots (n : Nat) (x0 : ByteArray × Int × (List (List (List (ByteArray × Int × Int × Int × List (ByteArray × Int × Int))))) × Int × Int) : Option (ByteArray × Int × (List (List (List (ByteArray × Int × Int × Int × List (ByteArray × Int × Int))))) × Int × Int) :=
  some x0
def p_times_slots : Plan := .leaf
noncomputable def c_times_slots (n : Nat) : Cx := ⟨Go.Proofs.Tryz.prog, Θ, [191, 57], [], [], []⟩
theorem d_times_slots (n : Nat) (x : h_times_slots.X T) : denF (c_times_slots n) n Go.Proofs.Tryz.f39 p_times_slots h_times_slots o_times_slots x = times_slots n x := by kernel_rfl
theorem s_times_slots (n : Nat) : PCalls Go.Proofs.Tryz.prog Θ 39 ⟨h_times_slots, o_times_slots, times_slots n⟩ :=
  func_ok' (C := c_times_slots n) (n := n) (p := p_times_slots) (ok_of mixed eqsOk trivial trivial trivial) Go.Proofs.Tryz.func39 (by kernel_rfl) (by kernel_rfl) (d_times_slots n) (by kernel_rfl)

/-- (carrefour/times.clock).arc -/
def h_times_clock_arc : Shape := ⟨slotsOf 3 [(0, .agg [.hole (.int .i64), .hole (.int .i64)]), (1, .c (.hole (.int .i64))), (2, .c (.hole (.int .i64)))], [], []⟩
def o_times_clock_arc : List (Ex × Shape) := [(.ret, ⟨slotsOf 1 [(0, .agg [.hole (.int .i64), .hole (.int .i64)])], [], []⟩)]
def times_clock_arc (n : Nat) (x0 : Int × Int × Int × Int) : Option (Int × Int) :=
  (circle_Norm n (x0.1, wrap64 (x0.2.1 + x0.2.2.1), x0.2.2.2)).bind fun y1 =>
  some y1
def p_times_clock_arc : Plan := .leaf
noncomputable def c_times_clock_arc (n : Nat) : Cx := ⟨Go.Proofs.Tryz.prog, Θ, [191, 57], [(77, ⟨h_circle_Norm, o_circle_Norm, circle_Norm n⟩)], [], []⟩
theorem d_times_clock_arc (n : Nat) (x : h_times_clock_arc.X T) : denF (c_times_clock_arc n) n Go.Proofs.Tryz.f40 p_times_clock_arc h_times_clock_arc o_times_clock_arc x = times_clock_arc n x := by kernel_rfl
theorem s_times_clock_arc (n : Nat) : PCalls Go.Proofs.Tryz.prog Θ 40 ⟨h_times_clock_arc, o_times_clock_arc, times_clock_arc n⟩ :=
  func_ok' (C := c_times_clock_arc n) (n := n) (p := p_times_clock_arc) (ok_of mixed eqsOk ⟨s_circle_Norm n, trivial⟩ trivial trivial) Go.Proofs.Tryz.func40 (by kernel_rfl) (by kernel_rfl) (d_times_clock_arc n) (by kernel_rfl)

/-- carrefour/times.Heads_round -/
def h_times_Heads_round : Shape := ⟨slotsOf 4 [(0, .agg [.hole (.str), .hole (.int .i64), .hole (.int .i64), .hole (.int .i64), .hole (.sl 133)]), (1, .c (.hole (.int .i64))), (2, .c (.box 1000000 0)), (3, .c (.box 1000001 0))], [(1000000, 102, [.hole (.int .i64), .hole (.int .i64)]), (1000001, 104, [.row 1000000])], [(1000000, 1000209)]⟩
def o_times_Heads_round : List (Ex × Shape) := [(.ret, ⟨slotsOf 1 [(0, .c (.hole (.bool)))], [(1000000, 102, [.hole (.int .i64), .hole (.int .i64)]), (1000001, 104, [.row 1000000])], [(1000000, 1000209)]⟩)]
noncomputable def R_100 : Rng := rng Go.Proofs.Tryz.f10 0 [6, 7]
def yok_100 : Prop := Θ.Y 100 = some R_100
def times_Heads_round (n : Nat) (x0 : ByteArray × Int × Int × Int × (List (ByteArray × Int × Int)) × Int × Int × Int × List (ByteArray × ByteArray × Int × Int × Int × Int)) : Option (Bool × Int × Int × List (ByteArray × ByteArray × Int × Int × Int × Int)) :=
  let e0 := wrap64 ((wrap64 (x0.2.1 - x0.2.2.1)) - x0.2.2.2.1)
  bif mhas x0.1 x0.2.2.2.2.2.2.2.2 then
    some (true, x0.2.2.2.2.2.2)
  else
  (times_clock_arc n (x0.2.2.2.2.2.2.1, x0.2.2.2.2.2.2.2.1, x0.2.2.2.2.2.1, e0)).bind fun y1 =>
  (times_clock_arc n (x0.2.2.2.2.2.2.1, x0.2.2.2.2.2.2.2.1, wrap64 (x0.2.2.2.2.2.1 + e0), x0.2.2.1)).bind fun y2 =>
  some (true, x0.2.2.2.2.2.2.1, x0.2.2.2.2.2.2.2.1, mput x0.1 (x0.1, ByteArray.mk #[], y1.1, y1.2, y2) x0.2.2.2.2.2.2.2.2)
def p_times_Heads_round : Plan := .leaf
noncomputable def c_times_Heads_round (n : Nat) : Cx := ⟨Go.Proofs.Tryz.prog, Θ, [191, 57], [(40, ⟨h_times_clock_arc, o_times_clock_arc, times_clock_arc n⟩)], [], []⟩
theorem d_times_Heads_round (n : Nat) (x : h_times_Heads_round.X T) : denY (c_times_Heads_round n) n R_100 p_times_Heads_round h_times_Heads_round o_times_Heads_round x = times_Heads_round n x := by kernel_rfl
theorem yokT_100 : yok_100 := by unfold yok_100; kernel_rfl
theorem s_times_Heads_round (n : Nat) : PYields Go.Proofs.Tryz.prog Θ 100 ⟨h_times_Heads_round, o_times_Heads_round, times_Heads_round n⟩ :=
  yield_ok (C := c_times_Heads_round n) (n := n) (R := R_100) (p := p_times_Heads_round) (ok_of mixed eqsOk ⟨s_times_clock_arc n, trivial⟩ trivial trivial) yokT_100 (by kernel_rfl) (by kernel_rfl) (by kernel_rfl) (by kernel_rfl) (d_times_Heads_round n)

/-- carrefour/times.slots$1 -/
def h_times_slots_1 : Shape := ⟨slotsOf 2 [(0, .yld 100 [.c (.box 1000000 0), .c (.box 1000001 0)]), (1, .c (.box 1000002 0))], [(1000000, 102, [.hole (.int .i64), .hole (.int .i64)]), (1000001, 104, [.row 1000000]), (1000002, 33, [.hole (.str), .hole (.int .i64), .hole (.sl 85), .hole (.int .i64), .hole (.int .i64)])], [(1000000, 1000209)]⟩
def o_times_slots_1 : List (Ex × Shape) := [(.ret, ⟨slotsOf 0 [], [(1000000, 102, [.hole (.int .i64), .hole (.int .i64)]), (1000001, 104, [.row 1000000]), (1000002, 33, [.hole (.str), .hole (.int .i64), .hole (.sl 85), .hole (.int .i64), .hole (.int .i64)])], [(1000000, 1000209)]⟩)]
def times_slots_1 (n : Nat) (x0 : Int × Int × ByteArray × Int × (List (List (List (ByteArray × Int × Int × Int × List (ByteArray × Int × Int))))) × Int × Int × List (ByteArray × ByteArray × Int × Int × Int × Int)) : Option (Int × Int × ByteArray × Int × (List (List (List (ByteArray × Int × Int × Int × List (ByteArray × Int × Int))))) × Int × Int × List (ByteArray × ByteArray × Int × Int × Int × Int)) :=
  (iterL (Y := (Int × Int × ByteArray × Int × (List (List (List (ByteArray × Int × Int × Int × List (ByteArray × Int × Int))))) × Int × Int × List (ByteArray × ByteArray × Int × Int × Int × Int)) ⊕ (Int × Int × ByteArray × Int × (List (List (List (ByteArray × Int × Int × Int × List (ByteArray × Int × Int))))) × Int × Int × List (ByteArray × ByteArray × Int × Int × Int × Int))) n (fun (x1 : Int × (List (List (List (ByteArray × Int × Int × Int × List (ByteArray × Int × Int))))) × Int × Int × Int × Int × ByteArray × Int × (List (List (List (ByteArray × Int × Int × Int × List (ByteArray × Int × Int))))) × Int × Int × List (ByteArray × ByteArray × Int × Int × Int × Int)) =>
    let e0 := atI [] x1.2.1 x1.2.2.2.1
    bif decide (x1.2.2.2.1 < x1.2.2.1) then
      bif inB x1.2.2.2.1 x1.2.1.length then
        (iterL (Y := (Int × Int × ByteArray × Int × (List (List (List (ByteArray × Int × Int × Int × List (ByteArray × Int × Int))))) × Int × Int × List (ByteArray × ByteArray × Int × Int × Int × Int)) ⊕ (Int × (List (List (List (ByteArray × Int × Int × Int × List (ByteArray × Int × Int))))) × Int × Int × Int × Int × ByteArray × Int × (List (List (List (ByteArray × Int × Int × Int × List (ByteArray × Int × Int))))) × Int × Int × (List (List (ByteArray × Int × Int × Int × List (ByteArray × Int × Int)))) × List (ByteArray × ByteArray × Int × Int × Int × Int))) n (fun (x2 : Int × (List (List (List (ByteArray × Int × Int × Int × List (ByteArray × Int × Int))))) × Int × Int × (List (List (ByteArray × Int × Int × Int × List (ByteArray × Int × Int)))) × Int × Int × Int × Int × ByteArray × Int × (List (List (List (ByteArray × Int × Int × Int × List (ByteArray × Int × Int))))) × Int × Int × (List (List (ByteArray × Int × Int × Int × List (ByteArray × Int × Int)))) × List (ByteArray × ByteArray × Int × Int × Int × Int)) =>
          let e1 := atI [] x2.2.2.2.2.1 x2.2.2.2.2.2.2.1
          bif decide (x2.2.2.2.2.2.2.1 < x2.2.2.2.2.2.1) then
            bif inB x2.2.2.2.2.2.2.1 x2.2.2.2.2.1.length then
              (iterL (Y := (Int × Int × ByteArray × Int × (List (List (List (ByteArray × Int × Int × Int × List (ByteArray × Int × Int))))) × Int × Int × List (ByteArray × ByteArray × Int × Int × Int × Int)) ⊕ (Int × (List (List (List (ByteArray × Int × Int × Int × List (ByteArray × Int × Int))))) × Int × Int × (List (List (ByteArray × Int × Int × Int × List (ByteArray × Int × Int)))) × Int × Int × Int × Int × ByteArray × Int × (List (List (List (ByteArray × Int × Int × Int × List (ByteArray × Int × Int))))) × Int × Int × (List (List (ByteArray × Int × Int × Int × List (ByteArray × Int × Int)))) × List (ByteArray × ByteArray × Int × Int × Int × Int))) n (fun (x3 : Int × Int × (List (List (List (ByteArray × Int × Int × Int × List (ByteArray × Int × Int))))) × Int × Int × (List (List (ByteArray × Int × Int × Int × List (ByteArray × Int × Int)))) × Int × Int × (List (ByteArray × Int × Int × Int × List (ByteArray × Int × Int))) × Int × Int × Int × Int × ByteArray × Int × (List (List (List (ByteArray × Int × Int × Int × List (ByteArray × Int × Int))))) × Int × Int × (List (List (ByteArray × Int × Int × Int × List (ByteArray × Int × Int)))) × List (ByteArray × ByteArray × Int × Int × Int × Int)) =>
                let e2 := atI (ByteArray.mk #[], 0, 0, 0, []) x3.2.2.2.2.2.2.2.2.1 x3.2.2.2.2.2.2.2.2.2.2.1
                let e3 := e2.2
                let e4 := e2.2.1
                let e5 := e2.2.2
                let e6 := e2.2.2.2
                bif decide (x3.2.2.2.2.2.2.2.2.2.2.1 < x3.2.2.2.2.2.2.2.2.2.1) then
                  bif inB x3.2.2.2.2.2.2.2.2.2.2.1 x3.2.2.2.2.2.2.2.2.1.length then
                    (times_Heads_round n (e2.1, e4, e2.2.2.1, e2.2.2.2.1, e2.2.2.2.2, x3.2.1, x3.2.2.2.2.2.2.2.2.2.2.2.1, x3.2.2.2.2.2.2.2.2.2.2.2.2.1, x3.2.2.2.2.2.2.2.2.2.2.2.2.2.2.2.2.2.2.2)).bind fun y4 =>
                    bif !y4.1 then
                      some (.inr (.inl (y4.2.1, y4.2.2.1, x3.2.2.2.2.2.2.2.2.2.2.2.2.2.1, x3.2.2.2.2.2.2.2.2.2.2.2.2.2.2.1, x3.2.2.2.2.2.2.2.2.2.2.2.2.2.2.2.1, x3.2.2.2.2.2.2.2.2.2.2.2.2.2.2.2.2.1, x3.2.2.2.2.2.2.2.2.2.2.2.2.2.2.2.2.2.1, y4.2.2.2)))
                    else
                    some (.inl (x3.1, wrap64 (x3.2.1 + e4), x3.2.2.1, x3.2.2.2.1, x3.2.2.2.2.1, x3.2.2.2.2.2.1, x3.2.2.2.2.2.2.1, x3.2.2.2.2.2.2.2.1, x3.2.2.2.2.2.2.2.2.1, x3.2.2.2.2.2.2.2.2.2.1, wrap64 (x3.2.2.2.2.2.2.2.2.2.2.1 + 1), y4.2.1, y4.2.2.1, x3.2.2.2.2.2.2.2.2.2.2.2.2.2.1, x3.2.2.2.2.2.2.2.2.2.2.2.2.2.2.1, x3.2.2.2.2.2.2.2.2.2.2.2.2.2.2.2.1, x3.2.2.2.2.2.2.2.2.2.2.2.2.2.2.2.2.1, x3.2.2.2.2.2.2.2.2.2.2.2.2.2.2.2.2.2.1, x3.2.2.2.2.2.2.2.2.2.2.2.2.2.2.2.2.2.2.1, y4.2.2.2))
                  else
                  none
                else
                some (.inr (.inr (x3.1, x3.2.2.1, x3.2.2.2.1, x3.2.2.2.2.1, x3.2.2.2.2.2.1, x3.2.2.2.2.2.2.1, x3.2.2.2.2.2.2.2.1, x3.2.2.2.2.2.2.2.2.2.2.2)))) (x2.1, x2.1, x2.2.1, x2.2.2.1, x2.2.2.2.1, x2.2.2.2.2.1, x2.2.2.2.2.2.1, x2.2.2.2.2.2.2.1, e1, ((e1.length : Nat) : Int), 0, x2.2.2.2.2.2.2.2)).bind (Sum.elim (fun (z5 : Int × Int × ByteArray × Int × (List (List (List (ByteArray × Int × Int × Int × List (ByteArray × Int × Int))))) × Int × Int × List (ByteArray × ByteArray × Int × Int × Int × Int)) =>
                some (.inr (.inl z5))) (fun (z6 : Int × (List (List (List (ByteArray × Int × Int × Int × List (ByteArray × Int × Int))))) × Int × Int × (List (List (ByteArray × Int × Int × Int × List (ByteArray × Int × Int)))) × Int × Int × Int × Int × ByteArray × Int × (List (List (List (ByteArray × Int × Int × Int × List (ByteArray × Int × Int))))) × Int × Int × (List (List (ByteArray × Int × Int × Int × List (ByteArray × Int × Int)))) × List (ByteArray × ByteArray × Int × Int × Int × Int)) =>
                some (.inl (z6.1, z6.2.1, z6.2.2.1, z6.2.2.2.1, z6.2.2.2.2.1, z6.2.2.2.2.2.1, wrap64 (z6.2.2.2.2.2.2.1 + 1), z6.2.2.2.2.2.2.2))))
            else
            none
          else
          some (.inr (.inr (x2.1, x2.2.1, x2.2.2.1, x2.2.2.2.1, x2.2.2.2.2.2.2.2)))) (x1.1, x1.2.1, x1.2.2.1, x1.2.2.2.1, e0, ((e0.length : Nat) : Int), 0, x1.2.2.2.2.1, x1.2.2.2.2.2.1, x1.2.2.2.2.2.2.1, x1.2.2.2.2.2.2.2.1, x1.2.2.2.2.2.2.2.2.1, x1.2.2.2.2.2.2.2.2.2.1, x1.2.2.2.2.2.2.2.2.2.2.1, e0, x1.2.2.2.2.2.2.2.2.2.2.2)).bind (Sum.elim (fun (z7 : Int × Int × ByteArray × Int × (List (List (List (ByteArray × Int × Int × Int × List (ByteArray × Int × Int))))) × Int × Int × List (ByteArray × ByteArray × Int × Int × Int × Int)) =>
          some (.inr (.inl z7))) (fun (z8 : Int × (List (List (List (ByteArray × Int × Int × Int × List (ByteArray × Int × Int))))) × Int × Int × Int × Int × ByteArray × Int × (List (List (List (ByteArray × Int × Int × Int × List (ByteArray × Int × Int))))) × Int × Int × (List (List (ByteArray × Int × Int × Int × List (ByteArray × Int × Int)))) × List (ByteArray × ByteArray × Int × Int × Int × Int)) =>
          (times_long n z8.2.2.2.2.2.2.2.2.2.2.2.1).bind fun y9 =>
          some (.inl (wrap64 (z8.1 + y9), z8.2.1, z8.2.2.1, wrap64 (z8.2.2.2.1 + 1), z8.2.2.2.2.1, z8.2.2.2.2.2.1, z8.2.2.2.2.2.2.1, z8.2.2.2.2.2.2.2.1, z8.2.2.2.2.2.2.2.2.1, z8.2.2.2.2.2.2.2.2.2.1, z8.2.2.2.2.2.2.2.2.2.2.1, z8.2.2.2.2.2.2.2.2.2.2.2.2))))
      else
      none
    else
    some (.inr (.inr x1.2.2.2.2))) (0, x0.2.2.2.2.1, ((x0.2.2.2.2.1.length : Nat) : Int), 0, x0)).bind (Sum.elim (fun (z10 : Int × Int × ByteArray × Int × (List (List (List (ByteArray × Int × Int × Int × List (ByteArray × Int × Int))))) × Int × Int × List (ByteArray × ByteArray × Int × Int × Int × Int)) =>
    some z10) (fun (z11 : Int × Int × ByteArray × Int × (List (List (List (ByteArray × Int × Int × Int × List (ByteArray × Int × Int))))) × Int × Int × List (ByteArray × ByteArray × Int × Int × Int × Int)) =>
    some z11))
def p_times_slots_1 : Plan := .two (.leaf) (.two (.leaf) (.one (.loop ⟨slotsOf 48 [(0, .yld 100 [.c (.box 1000000 0), .c (.box 1000001 0)]), (3, .c (.hole (.int .i64))), (12, .c (.hole (.sl 85))), (13, .c (.hole (.int .i64))), (14, .c (.hole (.int .i64)))], [(1000000, 102, [.hole (.int .i64), .hole (.int .i64)]), (1000001, 104, [.row 1000000]), (1000002, 33, [.hole (.str), .hole (.int .i64), .hole (.sl 85), .hole (.int .i64), .hole (.int .i64)])], [(1000000, 1000209)]⟩ [(.ret, ⟨slotsOf 48 [], [(1000000, 102, [.hole (.int .i64), .hole (.int .i64)]), (1000001, 104, [.row 1000000]), (1000002, 33, [.hole (.str), .hole (.int .i64), .hole (.sl 85), .hole (.int .i64), .hole (.int .i64)])], [(1000000, 1000209)]⟩), (.exit 0, ⟨slotsOf 48 [], [(1000000, 102, [.hole (.int .i64), .hole (.int .i64)]), (1000001, 104, [.row 1000000]), (1000002, 33, [.hole (.str), .hole (.int .i64), .hole (.sl 85), .hole (.int .i64), .hole (.int .i64)])], [(1000000, 1000209)]⟩)] (.two (.leaf) (.two (.leaf) (.two (.one (.two (.leaf) (.two (.two (.leaf) (.one (.loop ⟨slotsOf 48 [(0, .yld 100 [.c (.box 1000000 0), .c (.box 1000001 0)]), (3, .c (.hole (.int .i64))), (5, .c (.box 5 0)), (12, .c (.hole (.sl 85))), (13, .c (.hole (.int .i64))), (14, .c (.hole (.int .i64))), (19, .c (.hole (.sl 82))), (20, .c (.hole (.int .i64))), (21, .c (.hole (.int .i64)))], [(1000000, 102, [.hole (.int .i64), .hole (.int .i64)]), (1000001, 104, [.row 1000000]), (1000002, 33, [.hole (.str), .hole (.int .i64), .hole (.sl 85), .hole (.int .i64), .hole (.int .i64)]), (5, 85, [.hole (.sl 82)])], [(1000000, 1000209)]⟩ [(.ret, ⟨slotsOf 48 [], [(1000000, 102, [.hole (.int .i64), .hole (.int .i64)]), (1000001, 104, [.row 1000000]), (1000002, 33, [.hole (.str), .hole (.int .i64), .hole (.sl 85), .hole (.int .i64), .hole (.int .i64)])], [(1000000, 1000209)]⟩), (.exit 2, ⟨slotsOf 48 [(0, .yld 100 [.c (.box 1000000 0), .c (.box 1000001 0)]), (3, .c (.hole (.int .i64))), (5, .c (.box 5 0)), (12, .c (.hole (.sl 85))), (13, .c (.hole (.int .i64))), (14, .c (.hole (.int .i64)))], [(1000000, 102, [.hole (.int .i64), .hole (.int .i64)]), (1000001, 104, [.row 1000000]), (1000002, 33, [.hole (.str), .hole (.int .i64), .hole (.sl 85), .hole (.int .i64), .hole (.int .i64)]), (5, 85, [.hole (.sl 82)])], [(1000000, 1000209)]⟩)] (.two (.leaf) (.two (.leaf) (.two (.one (.two (.leaf) (.two (.leaf) (.two (.leaf) (.one (.loop ⟨slotsOf 48 [(0, .yld 100 [.c (.box 1000000 0), .c (.box 1000001 0)]), (3, .c (.hole (.int .i64))), (5, .c (.box 5 0)), (8, .c (.hole (.int .i64))), (12, .c (.hole (.sl 85))), (13, .c (.hole (.int .i64))), (14, .c (.hole (.int .i64))), (19, .c (.hole (.sl 82))), (20, .c (.hole (.int .i64))), (21, .c (.hole (.int .i64))), (26, .c (.hole (.sl 62))), (27, .c (.hole (.int .i64))), (28, .c (.hole (.int .i64)))], [(1000000, 102, [.hole (.int .i64), .hole (.int .i64)]), (1000001, 104, [.row 1000000]), (1000002, 33, [.hole (.str), .hole (.int .i64), .hole (.sl 85), .hole (.int .i64), .hole (.int .i64)]), (5, 85, [.hole (.sl 82)])], [(1000000, 1000209)]⟩ [(.ret, ⟨slotsOf 48 [], [(1000000, 102, [.hole (.int .i64), .hole (.int .i64)]), (1000001, 104, [.row 1000000]), (1000002, 33, [.hole (.str), .hole (.int .i64), .hole (.sl 85), .hole (.int .i64), .hole (.int .i64)])], [(1000000, 1000209)]⟩), (.exit 4, ⟨slotsOf 48 [(0, .yld 100 [.c (.box 1000000 0), .c (.box 1000001 0)]), (3, .c (.hole (.int .i64))), (5, .c (.box 5 0)), (12, .c (.hole (.sl 85))), (13, .c (.hole (.int .i64))), (14, .c (.hole (.int .i64))), (19, .c (.hole (.sl 82))), (20, .c (.hole (.int .i64))), (21, .c (.hole (.int .i64)))], [(1000000, 102, [.hole (.int .i64), .hole (.int .i64)]), (1000001, 104, [.row 1000000]), (1000002, 33, [.hole (.str), .hole (.int .i64), .hole (.sl 85), .hole (.int .i64), .hole (.int .i64)]), (5, 85, [.hole (.sl 82)])], [(1000000, 1000209)]⟩)] (.leaf))))))) (.leaf))))))) (.leaf)))) (.leaf)))))))
noncomputable def c_times_slots_1 (n : Nat) : Cx := ⟨Go.Proofs.Tryz.prog, Θ, [191, 57], [(46, ⟨h_times_long, o_times_long, times_long n⟩)], [(100, ⟨h_times_Heads_round, o_times_Heads_round, times_Heads_round n⟩)], []⟩
theorem d_times_slots_1 (n : Nat) (x : h_times_slots_1.X T) : denF (c_times_slots_1 n) n Go.Proofs.Tryz.f78 p_times_slots_1 h_times_slots_1 o_times_slots_1 x = times_slots_1 n x := by kernel_rfl
theorem s_times_slots_1 (n : Nat) : PCalls Go.Proofs.Tryz.prog Θ 78 ⟨h_times_slots_1, o_times_slots_1, times_slots_1 n⟩ :=
  func_ok' (C := c_times_slots_1 n) (n := n) (p := p_times_slots_1) (ok_of mixed eqsOk ⟨s_times_long n, trivial⟩ ⟨s_times_Heads_round n, trivial⟩ trivial) Go.Proofs.Tryz.func78 (by kernel_rfl) (by kernel_rfl) (d_times_slots_1 n) (by kernel_rfl)

/-- slices.Contains[[]string,string] -/
def h_slices_Contains_string : Shape := ⟨slotsOf 2 [(0, .c (.hole (.sl 9))), (1, .c (.hole (.str)))], [], []⟩
def o_slices_Contains_string : List (Ex × Shape) := [(.ret, ⟨slotsOf 1 [(0, .c (.hole (.bool)))], [], []⟩)]
def slices_Contains_string (n : Nat) (x0 : (List ByteArray) × ByteArray) : Option (Bool) :=
  (slices_Index_string n x0).bind fun y1 =>
  some (decide (0 ≤ y1))
def p_slices_Contains_string : Plan := .leaf
noncomputable def c_slices_Contains_string (n : Nat) : Cx := ⟨Go.Proofs.Tryz.prog, Θ, [191, 57], [(99, ⟨h_slices_Index_string, o_slices_Index_string, slices_Index_string n⟩)], [], []⟩
theorem d_slices_Contains_string (n : Nat) (x : h_slices_Contains_string.X T) : denF (c_slices_Contains_string n) n Go.Proofs.Tryz.f81 p_slices_Contains_string h_slices_Contains_string o_slices_Contains_string x = slices_Contains_string n x := by kernel_rfl
theorem s_slices_Contains_string (n : Nat) : PCalls Go.Proofs.Tryz.prog Θ 81 ⟨h_slices_Contains_string, o_slices_Contains_string, slices_Contains_string n⟩ :=
  func_ok' (C := c_slices_Contains_string n) (n := n) (p := p_slices_Contains_string) (ok_of mixed eqsOk ⟨s_slices_Index_string n, trivial⟩ trivial trivial) Go.Proofs.Tryz.func81 (by kernel_rfl) (by kernel_rfl) (d_slices_Contains_string n) (by kernel_rfl)

/-- carrefour/valid.Home$1 -/
def h_valid_Home_1 : Shape := ⟨slotsOf 2 [(0, .agg [.hole (.str), .hole (.sl 9), .hole (.int .i64)]), (1, .c (.box 1000000 0))], [(1000000, 9, [.hole (.str)])], []⟩
def o_valid_Home_1 : List (Ex × Shape) := [(.ret, ⟨slotsOf 1 [(0, .c (.hole (.bool)))], [(1000000, 9, [.hole (.str)])], []⟩)]
def valid_Home_1 (n : Nat) (x0 : ByteArray × (List ByteArray) × Int × ByteArray) : Option (Bool × ByteArray) :=
  (slices_Contains_string n (x0.2.1, x0.2.2.2)).bind fun y1 =>
  some (y1, x0.2.2.2)
def p_valid_Home_1 : Plan := .leaf
noncomputable def c_valid_Home_1 (n : Nat) : Cx := ⟨Go.Proofs.Tryz.prog, Θ, [191, 57], [(81, ⟨h_slices_Contains_string, o_slices_Contains_string, slices_Contains_string n⟩)], [], []⟩
theorem d_valid_Home_1 (n : Nat) (x : h_valid_Home_1.X T) : denF (c_valid_Home_1 n) n Go.Proofs.Tryz.f80 p_valid_Home_1 h_valid_Home_1 o_valid_Home_1 x = valid_Home_1 n x := by kernel_rfl
theorem s_valid_Home_1 (n : Nat) : PCalls Go.Proofs.Tryz.prog Θ 80 ⟨h_valid_Home_1, o_valid_Home_1, valid_Home_1 n⟩ :=
  func_ok' (C := c_valid_Home_1 n) (n := n) (p := p_valid_Home_1) (ok_of mixed eqsOk ⟨s_slices_Contains_string n, trivial⟩ trivial trivial) Go.Proofs.Tryz.func80 (by kernel_rfl) (by kernel_rfl) (d_valid_Home_1 n) (by kernel_rfl)

/-- slices.IndexFunc[[]carrefour/api.Phase,carrefour/api.Phase] -/
def h_slices_IndexFunc_valid_Home_1 : Shape := ⟨slotsOf 2 [(0, .c (.hole (.sl 111))), (1, .c (.fn 80 [1000000]))], [(1000000, 9, [.hole (.str)])], []⟩
def o_slices_IndexFunc_valid_Home_1 : List (Ex × Shape) := [(.ret, ⟨slotsOf 1 [(0, .c (.hole (.int .i64)))], [(1000000, 9, [.hole (.str)])], []⟩)]
def slices_IndexFunc_valid_Home_1 (n : Nat) (x0 : (List (ByteArray × (List ByteArray) × Int)) × ByteArray) : Option (Int × ByteArray) :=
  (iterL (Y := (Int × ByteArray) ⊕ (ByteArray)) n (fun (x1 : (List (ByteArray × (List ByteArray) × Int)) × Int × Int × ByteArray) =>
    let e0 := atI (ByteArray.mk #[], [], 0) x1.1 x1.2.2.1
    let e1 := e0.2
    bif decide (x1.2.2.1 < x1.2.1) then
      bif inB x1.2.2.1 x1.1.length then
        (valid_Home_1 n (e0.1, e0.2.1, e0.2.2, x1.2.2.2)).bind fun y2 =>
        bif y2.1 then
          some (.inr (.inl (x1.2.2.1, y2.2)))
        else
        some (.inl (x1.1, x1.2.1, wrap64 (x1.2.2.1 + 1), y2.2))
      else
      none
    else
    some (.inr (.inr x1.2.2.2))) (x0.1, ((x0.1.length : Nat) : Int), 0, x0.2)).bind (Sum.elim (fun (z3 : Int × ByteArray) =>
    some z3) (fun (z4 : ByteArray) =>
    some ((-1), z4)))
def p_slices_IndexFunc_valid_Home_1 : Plan := .two (.leaf) (.two (.two (.leaf) (.one (.loop ⟨slotsOf 19 [(0, .c (.hole (.sl 111))), (1, .c (.fn 80 [1000000])), (7, .c (.hole (.int .i64))), (8, .c (.hole (.int .i64)))], [(1000000, 9, [.hole (.str)])], []⟩ [(.ret, ⟨slotsOf 19 [(4, .c (.hole (.int .i64)))], [(1000000, 9, [.hole (.str)])], []⟩), (.exit 0, ⟨slotsOf 19 [], [(1000000, 9, [.hole (.str)])], []⟩)] (.leaf)))) (.leaf))
noncomputable def c_slices_IndexFunc_valid_Home_1 (n : Nat) : Cx := ⟨Go.Proofs.Tryz.prog, Θ, [191, 57], [(80, ⟨h_valid_Home_1, o_valid_Home_1, valid_Home_1 n⟩)], [], []⟩
theorem d_slices_IndexFunc_valid_Home_1 (n : Nat) (x : h_slices_IndexFunc_valid_Home_1.X T) : denF (c_slices_IndexFunc_valid_Home_1 n) n Go.Proofs.Tryz.f79 p_slices_IndexFunc_valid_Home_1 h_slices_IndexFunc_valid_Home_1 o_slices_IndexFunc_valid_Home_1 x = slices_IndexFunc_valid_Home_1 n x := by kernel_rfl
theorem s_slices_IndexFunc_valid_Home_1 (n : Nat) : PCalls Go.Proofs.Tryz.prog Θ 79 ⟨h_slices_IndexFunc_valid_Home_1, o_slices_IndexFunc_valid_Home_1, slices_IndexFunc_valid_Home_1 n⟩ :=
  func_ok' (C := c_slices_IndexFunc_valid_Home_1 n) (n := n) (p := p_slices_IndexFunc_valid_Home_1) (ok_of mixed eqsOk ⟨s_valid_Home_1 n, trivial⟩ trivial trivial) Go.Proofs.Tryz.func79 (by kernel_rfl) (by kernel_rfl) (d_slices_IndexFunc_valid_Home_1 n) (by kernel_rfl)

/-- carrefour/valid.Home -/
def h_valid_Home : Shape := ⟨slotsOf 2 [(0, .agg [.hole (.str), .hole (.sl 72), .hole (.sl 66), .hole (.sl 111), .hole (.sl 125), .hole (.sl 163), .hole (.int .i64)]), (1, .c (.hole (.str)))], [], []⟩
def o_valid_Home : List (Ex × Shape) := [(.ret, ⟨slotsOf 1 [(0, .c (.hole (.int .i64)))], [], []⟩)]
def valid_Home (n : Nat) (x0 : ByteArray × (List (ByteArray × Int × Int × Int × Int × Int × Int × Int × Int × Int × Int)) × (List (ByteArray × ByteArray × Int × Int × Int × Int)) × (List (ByteArray × (List ByteArray) × Int)) × (List (List (Bool × List ByteArray))) × (List (ByteArray × ByteArray × Int)) × Int × ByteArray) : Option (Int) :=
  (slices_IndexFunc_valid_Home_1 n (x0.2.2.2.1, x0.2.2.2.2.2.2.2)).bind fun y1 =>
  some y1.1
def p_valid_Home : Plan := .leaf
noncomputable def c_valid_Home (n : Nat) : Cx := ⟨Go.Proofs.Tryz.prog, Θ, [191, 57], [(79, ⟨h_slices_IndexFunc_valid_Home_1, o_slices_IndexFunc_valid_Home_1, slices_IndexFunc_valid_Home_1 n⟩)], [], []⟩
theorem d_valid_Home (n : Nat) (x : h_valid_Home.X T) : denF (c_valid_Home n) n Go.Proofs.Tryz.f41 p_valid_Home h_valid_Home o_valid_Home x = valid_Home n x := by kernel_rfl
theorem s_valid_Home (n : Nat) : PCalls Go.Proofs.Tryz.prog Θ 41 ⟨h_valid_Home, o_valid_Home, valid_Home n⟩ :=
  func_ok' (C := c_valid_Home n) (n := n) (p := p_valid_Home) (ok_of mixed eqsOk ⟨s_slices_IndexFunc_valid_Home_1 n, trivial⟩ trivial trivial) Go.Proofs.Tryz.func41 (by kernel_rfl) (by kernel_rfl) (d_valid_Home n) (by kernel_rfl)

/-- carrefour/times.Heads -/
def h_times_Heads : Shape := ⟨slotsOf 2 [(0, .agg [.hole (.str), .hole (.sl 72), .hole (.sl 66), .hole (.sl 111), .hole (.sl 125), .hole (.sl 163), .hole (.int .i64)]), (1, .agg [.hole (.str), .hole (.int .i64), .hole (.sl 85), .hole (.int .i64), .hole (.int .i64)])], [], []⟩
def o_times_Heads : List (Ex × Shape) := [(.ret, ⟨slotsOf 2 [(0, .c (.row 0)), (1, .c (.hole (.int .i64)))], [], [(0, 59)]⟩)]
noncomputable def times_Heads (n : Nat) (x0 : ByteArray × (List (ByteArray × Int × Int × Int × Int × Int × Int × Int × Int × Int × Int)) × (List (ByteArray × ByteArray × Int × Int × Int × Int)) × (List (ByteArray × (List ByteArray) × Int)) × (List (List (Bool × List ByteArray))) × (List (ByteArray × ByteArray × Int)) × Int × ByteArray × Int × (List (List (List (ByteArray × Int × Int × Int × List (ByteArray × Int × Int))))) × Int × Int) : Option (Int × List (ByteArray × Int × Int × Int × Int)) :=
  (times_Fits n x0).bind fun y1 =>
  bif !y1 then
    some (180, [])
  else
  (times_newClock n x0.2.2.2.2.2.2.2).bind fun y2 =>
  (times_slots n x0.2.2.2.2.2.2.2).bind fun y3 =>
  ifY yok_100 (
    (times_slots_1 n (y2.1, y2.2, y3.1, y3.2.1, y3.2.2.1, y3.2.2.2.1, y3.2.2.2.2, [])).bind fun y4 =>
    (iterL (Y := (List (ByteArray × Int × Int × Int × Int))) n (fun (x7 : (List (ByteArray × Int × Int × Int × Int × Int × Int × Int × Int × Int × Int)) × Int × Int × ByteArray × (List (ByteArray × Int × Int × Int × Int × Int × Int × Int × Int × Int × Int)) × (List (ByteArray × ByteArray × Int × Int × Int × Int)) × (List (ByteArray × (List ByteArray) × Int)) × (List (List (Bool × List ByteArray))) × (List (ByteArray × ByteArray × Int)) × Int × (List (ByteArray × Int × Int × Int × Int)) × List (ByteArray × ByteArray × Int × Int × Int × Int)) =>
      bif decide (x7.2.2.1 < x7.2.1) then
        bif inB x7.2.2.1 x7.1.length then
          (valid_Home n (x7.2.2.2.1, x7.2.2.2.2.1, x7.2.2.2.2.2.1, x7.2.2.2.2.2.2.1, x7.2.2.2.2.2.2.2.1, x7.2.2.2.2.2.2.2.2.1, x7.2.2.2.2.2.2.2.2.2.1, (atI (ByteArray.mk #[], 0, 0, 0, 0, 0, 0, 0, 0, 0, 0) x7.1 x7.2.2.1).1)).bind fun y8 =>
          bif decide (0 ≤ y8) then
            bif inB y8 x7.2.2.2.2.2.2.1.length then
              bif fitB (x7.2.2.2.2.2.2.2.2.2.2.1.length + (List.length (((atI (ByteArray.mk #[], 0, 0, 0, 0, 0, 0, 0, 0, 0, 0) x7.1 x7.2.2.1).1, (mfind (atI (ByteArray.mk #[], [], 0) x7.2.2.2.2.2.2.1 y8).1 ((atI (ByteArray.mk #[], [], 0) x7.2.2.2.2.2.2.1 y8).1, ByteArray.mk #[], 0, 0, 0, 0) x7.2.2.2.2.2.2.2.2.2.2.2).2.2) :: []))) 48 then
                some (.inl (x7.1, x7.2.1, wrap64 (x7.2.2.1 + 1), x7.2.2.2.1, x7.2.2.2.2.1, x7.2.2.2.2.2.1, x7.2.2.2.2.2.2.1, x7.2.2.2.2.2.2.2.1, x7.2.2.2.2.2.2.2.2.1, x7.2.2.2.2.2.2.2.2.2.1, x7.2.2.2.2.2.2.2.2.2.2.1 ++ (((atI (ByteArray.mk #[], 0, 0, 0, 0, 0, 0, 0, 0, 0, 0) x7.1 x7.2.2.1).1, (mfind (atI (ByteArray.mk #[], [], 0) x7.2.2.2.2.2.2.1 y8).1 ((atI (ByteArray.mk #[], [], 0) x7.2.2.2.2.2.2.1 y8).1, ByteArray.mk #[], 0, 0, 0, 0) x7.2.2.2.2.2.2.2.2.2.2.2).2.2) :: []), x7.2.2.2.2.2.2.2.2.2.2.2))
              else
              none
            else
            none
          else
            bif fitB (x7.2.2.2.2.2.2.2.2.2.2.1.length + (List.length (((atI (ByteArray.mk #[], 0, 0, 0, 0, 0, 0, 0, 0, 0, 0) x7.1 x7.2.2.1).1, 0, 0, 0, 0) :: []))) 48 then
              some (.inl (x7.1, x7.2.1, wrap64 (x7.2.2.1 + 1), x7.2.2.2.1, x7.2.2.2.2.1, x7.2.2.2.2.2.1, x7.2.2.2.2.2.2.1, x7.2.2.2.2.2.2.2.1, x7.2.2.2.2.2.2.2.2.1, x7.2.2.2.2.2.2.2.2.2.1, x7.2.2.2.2.2.2.2.2.2.2.1 ++ (((atI (ByteArray.mk #[], 0, 0, 0, 0, 0, 0, 0, 0, 0, 0) x7.1 x7.2.2.1).1, 0, 0, 0, 0) :: []), x7.2.2.2.2.2.2.2.2.2.2.2))
            else
            none
        else
        none
      else
      some (.inr x7.2.2.2.2.2.2.2.2.2.2.1)) (x0.2.1, ((x0.2.1.length : Nat) : Int), 0, x0.1, x0.2.1, x0.2.2.1, x0.2.2.2.1, x0.2.2.2.2.1, x0.2.2.2.2.2.1, x0.2.2.2.2.2.2.1, [], y4.2.2.2.2.2.2.2)).bind fun (z9 : List (ByteArray × Int × Int × Int × Int)) =>
      some (0, z9))
def p_times_Heads : Plan := .two (.leaf) (.two (.leaf) (.two (.leaf) (.two (.leaf) (.two (.two (.leaf) (.one (.range 100 [6, 7]))) (.two (.leaf) (.two (.two (.leaf) (.one (.loop ⟨slotsOf 90 [(2, .c (.box 2 0)), (7, .c (.box 7 0)), (13, .c (.row 87)), (61, .c (.hole (.sl 72))), (62, .c (.hole (.int .i64))), (63, .c (.hole (.int .i64)))], [(2, 28, [.hole (.str), .hole (.sl 72), .hole (.sl 66), .hole (.sl 111), .hole (.sl 125), .hole (.sl 163), .hole (.int .i64)]), (7, 104, [.row 24])], [(87, 59), (24, 1000209)]⟩ [(.exit 2, ⟨slotsOf 90 [(13, .c (.row 87))], [], [(87, 59)]⟩)] (.leaf)))) (.leaf)))))))
noncomputable def c_times_Heads (n : Nat) : Cx := ⟨Go.Proofs.Tryz.prog, Θ, [191, 57], [(32, ⟨h_times_Fits, o_times_Fits, times_Fits n⟩), (38, ⟨h_times_newClock, o_times_newClock, times_newClock n⟩), (39, ⟨h_times_slots, o_times_slots, times_slots n⟩), (78, ⟨h_times_slots_1, o_times_slots_1, times_slots_1 n⟩), (41, ⟨h_valid_Home, o_valid_Home, valid_Home n⟩)], [], []⟩
theorem d_times_Heads (n : Nat) (x : h_times_Heads.X T) : denF (c_times_Heads n) n Go.Proofs.Tryz.f10 p_times_Heads h_times_Heads o_times_Heads x = times_Heads n x := by kernel_rfl
theorem s_times_Heads (n : Nat) : PCalls Go.Proofs.Tryz.prog Θ 10 ⟨h_times_Heads, o_times_Heads, times_Heads n⟩ :=
  func_ok' (C := c_times_Heads n) (n := n) (p := p_times_Heads) (ok_of mixed eqsOk ⟨s_times_Fits n, s_times_newClock n, s_times_slots n, s_times_slots_1 n, s_valid_Home n, trivial⟩ trivial trivial) Go.Proofs.Tryz.func10 (by kernel_rfl) (by kernel_rfl) (d_times_Heads n) (by kernel_rfl)

/-- carrefour/circle.cut -/
def h_circle_cut : Shape := ⟨slotsOf 2 [(0, .c (.hole (.int .i64))), (1, .c (.hole (.sl 57)))], [], []⟩
def o_circle_cut : List (Ex × Shape) := [(.ret, ⟨slotsOf 1 [(0, .c (.fn 124 [0, 1]))], [(0, 130, [.hole (.sl 57)]), (1, 2, [.hole (.int .i64)])], []⟩)]
def circle_cut (n : Nat) (x0 : Int × List (Int × Int)) : Option ((List (Int × Int)) × Int) :=
  some (x0.2, x0.1)
def p_circle_cut : Plan := .leaf
noncomputable def c_circle_cut (n : Nat) : Cx := ⟨Go.Proofs.Tryz.prog, Θ, [191, 57], [], [], []⟩
theorem d_circle_cut (n : Nat) (x : h_circle_cut.X T) : denF (c_circle_cut n) n Go.Proofs.Tryz.f119 p_circle_cut h_circle_cut o_circle_cut x = circle_cut n x := by kernel_rfl
theorem s_circle_cut (n : Nat) : PCalls Go.Proofs.Tryz.prog Θ 119 ⟨h_circle_cut, o_circle_cut, circle_cut n⟩ :=
  func_ok' (C := c_circle_cut n) (n := n) (p := p_circle_cut) (ok_of mixed eqsOk trivial trivial trivial) Go.Proofs.Tryz.func119 (by kernel_rfl) (by kernel_rfl) (d_circle_cut n) (by kernel_rfl)

/-- carrefour/circle.pieces_round -/
def h_circle_pieces_round : Shape := ⟨slotsOf 2 [(0, .agg [.hole (.int .i64), .hole (.int .i64)]), (1, .c (.box 1000000 0))], [(1000000, 180, [.row 1000000])], [(1000000, 191)]⟩
def o_circle_pieces_round : List (Ex × Shape) := [(.ret, ⟨slotsOf 1 [(0, .c (.hole (.bool)))], [(1000000, 180, [.row 2000000])], [(2000000, 191)]⟩)]
noncomputable def R_1100 : Rng := rng Go.Proofs.Tryz.f110 0 [5]
def yok_1100 : Prop := Θ.Y 1100 = some R_1100
def circle_pieces_round (n : Nat) (x0 : Int × Int × List (Int × Int)) : Option (Bool × List (Int × Int)) :=
  let e0 := (x0.1, x0.2.1) :: []
  bif fitB (x0.2.2.length + e0.length) 16 then
    some (true, x0.2.2 ++ e0)
  else
  none
def p_circle_pieces_round : Plan := .leaf
noncomputable def c_circle_pieces_round (n : Nat) : Cx := ⟨Go.Proofs.Tryz.prog, Θ, [191, 57], [], [], []⟩
theorem d_circle_pieces_round (n : Nat) (x : h_circle_pieces_round.X T) : denY (c_circle_pieces_round n) n R_1100 p_circle_pieces_round h_circle_pieces_round o_circle_pieces_round x = circle_pieces_round n x := by kernel_rfl
theorem yokT_1100 : yok_1100 := by unfold yok_1100; kernel_rfl
theorem s_circle_pieces_round (n : Nat) : PYields Go.Proofs.Tryz.prog Θ 1100 ⟨h_circle_pieces_round, o_circle_pieces_round, circle_pieces_round n⟩ :=
  yield_ok (C := c_circle_pieces_round n) (n := n) (R := R_1100) (p := p_circle_pieces_round) (ok_of mixed eqsOk trivial trivial trivial) yokT_1100 (by kernel_rfl) (by kernel_rfl) (by kernel_rfl) (by kernel_rfl) (d_circle_pieces_round n)

/-- carrefour/circle.cut$1 -/
def h_circle_cut_1 : Shape := ⟨slotsOf 3 [(0, .yld 1100 [.c (.box 1000000 0)]), (1, .c (.box 1000001 0)), (2, .c (.box 1000002 0))], [(1000000, 180, [.row 1000000]), (1000001, 130, [.hole (.sl 57)]), (1000002, 2, [.hole (.int .i64)])], [(1000000, 191)]⟩
def o_circle_cut_1 : List (Ex × Shape) := [(.ret, ⟨slotsOf 0 [], [(1000000, 180, [.row 2000000]), (1000001, 130, [.hole (.sl 57)]), (1000002, 2, [.hole (.int .i64)])], [(2000000, 191)]⟩)]
def circle_cut_1 (n : Nat) (x0 : (List (Int × Int)) × Int × List (Int × Int)) : Option ((List (Int × Int)) × Int × List (Int × Int)) :=
  (iterL (Y := ((List (Int × Int)) × Int × List (Int × Int)) ⊕ ((List (Int × Int)) × Int × List (Int × Int))) n (fun (x7 : (List (Int × Int)) × Int × Int × (List (Int × Int)) × Int × List (Int × Int)) =>
    bif decide (x7.2.2.1 < x7.2.1) then
      bif inB x7.2.2.1 x7.1.length then
        (circle_Norm n (x7.2.2.2.2.1, atI (0, 0) x7.1 x7.2.2.1)).bind fun y8 =>
        let e0 := wrap64 (y8.1 + y8.2)
        bif y8.2 == 0 then
          some (.inl (x7.1, x7.2.1, wrap64 (x7.2.2.1 + 1), x7.2.2.2))
        else
        letJ (fun (x11 : (List (Int × Int)) × Int × Int × Bool × (List (Int × Int)) × Int × List (Int × Int)) =>
          bif x11.2.2.2.1 then
            some (.inr (.inl x11.2.2.2.2))
          else
          some (.inl (x11.1, x11.2.1, wrap64 (x11.2.2.1 + 1), x11.2.2.2.2))) fun J12 =>
        (circle_pieces_round n (y8.1, mn e0 x7.2.2.2.2.1, x7.2.2.2.2.2)).bind fun y9 =>
        bif !y9.1 then
          J12 (x7.1, x7.2.1, x7.2.2.1, true, x7.2.2.2.1, x7.2.2.2.2.1, y9.2)
        else
        bif decide (x7.2.2.2.2.1 < e0) then
          (circle_pieces_round n (0, wrap64 (e0 - x7.2.2.2.2.1), y9.2)).bind fun y10 =>
          J12 (x7.1, x7.2.1, x7.2.2.1, !y10.1, x7.2.2.2.1, x7.2.2.2.2.1, y10.2)
        else
        J12 (x7.1, x7.2.1, x7.2.2.1, false, x7.2.2.2.1, x7.2.2.2.2.1, y9.2)
      else
      none
    else
    some (.inr (.inr x7.2.2.2))) (x0.1, ((x0.1.length : Nat) : Int), 0, x0)).bind (Sum.elim (fun (z13 : (List (Int × Int)) × Int × List (Int × Int)) =>
    some z13) (fun (z14 : (List (Int × Int)) × Int × List (Int × Int)) =>
    some z14))
def p_circle_cut_1 : Plan := .two (.leaf) (.one (.loop ⟨slotsOf 48 [(0, .yld 1100 [.c (.box 1000000 0)]), (2, .c (.box 1000002 0)), (7, .c (.hole (.sl 57))), (8, .c (.hole (.int .i64))), (9, .c (.hole (.int .i64)))], [(1000000, 180, [.row 2000000]), (1000001, 130, [.hole (.sl 57)]), (1000002, 2, [.hole (.int .i64)])], [(2000000, 191)]⟩ [(.ret, ⟨slotsOf 48 [], [(1000000, 180, [.row 2000000]), (1000001, 130, [.hole (.sl 57)]), (1000002, 2, [.hole (.int .i64)])], [(2000000, 191)]⟩), (.exit 0, ⟨slotsOf 48 [], [(1000000, 180, [.row 2000000]), (1000001, 130, [.hole (.sl 57)]), (1000002, 2, [.hole (.int .i64)])], [(2000000, 191)]⟩)] (.two (.leaf) (.two (.leaf) (.two (.one (.two (.leaf) (.two (.leaf) (.two (.leaf) (.two (.leaf) (.two (.join ⟨slotsOf 48 [(0, .yld 1100 [.c (.box 1000000 0)]), (2, .c (.box 1000002 0)), (7, .c (.hole (.sl 57))), (8, .c (.hole (.int .i64))), (9, .c (.hole (.int .i64))), (46, .c (.hole (.bool)))], [(1000000, 180, [.row 2000000]), (1000001, 130, [.hole (.sl 57)]), (1000002, 2, [.hole (.int .i64)])], [(2000000, 191)]⟩ (.leaf)) (.leaf))))))) (.leaf))))))
noncomputable def c_circle_cut_1 (n : Nat) : Cx := ⟨Go.Proofs.Tryz.prog, Θ, [191, 57], [(77, ⟨h_circle_Norm, o_circle_Norm, circle_Norm n⟩)], [(1100, ⟨h_circle_pieces_round, o_circle_pieces_round, circle_pieces_round n⟩)], []⟩
theorem d_circle_cut_1 (n : Nat) (x : h_circle_cut_1.X T) : denF (c_circle_cut_1 n) n Go.Proofs.Tryz.f124 p_circle_cut_1 h_circle_cut_1 o_circle_cut_1 x = circle_cut_1 n x := by kernel_rfl
theorem s_circle_cut_1 (n : Nat) : PCalls Go.Proofs.Tryz.prog Θ 124 ⟨h_circle_cut_1, o_circle_cut_1, circle_cut_1 n⟩ :=
  func_ok' (C := c_circle_cut_1 n) (n := n) (p := p_circle_cut_1) (ok_of mixed eqsOk ⟨s_circle_Norm n, trivial⟩ ⟨s_circle_pieces_round n, trivial⟩ trivial) Go.Proofs.Tryz.func124 (by kernel_rfl) (by kernel_rfl) (d_circle_cut_1 n) (by kernel_rfl)

/-- carrefour/circle.pieces -/
def h_circle_pieces : Shape := ⟨slotsOf 2 [(0, .c (.hole (.int .i64))), (1, .c (.hole (.sl 57)))], [], []⟩
def o_circle_pieces : List (Ex × Shape) := [(.ret, ⟨slotsOf 1 [(0, .c (.row 0))], [], [(0, 191)]⟩)]
noncomputable def circle_pieces (n : Nat) (x0 : Int × List (Int × Int)) : Option (List (Int × Int)) :=
  (circle_cut n x0).bind fun y1 =>
  ifY yok_1100 (
    (circle_cut_1 n (y1.1, y1.2, [])).bind fun y2 =>
    (slices_SortFunc_circle_pieces_1 n y2.2.2).bind fun y3 =>
    (iterL (Y := (List (Int × Int))) n (fun (x5 : Int × Int × (List (Int × Int)) × List (Int × Int)) =>
      bif decide (x5.2.1 < x5.1) then
        bif inB x5.2.1 x5.2.2.2.length then
          letJ (fun (x6 : Int × Int × Int × Bool × Int × Int × (List (Int × Int)) × List (Int × Int)) =>
            bif x6.2.2.2.1 then
              bif inB (wrap64 (x6.1 - 1)) x6.2.2.2.2.2.2.1.length then
                bif inB (wrap64 (x6.1 - 1)) x6.2.2.2.2.2.2.1.length then
                  some (.inl (x6.2.1, wrap64 (x6.2.2.1 + 1), List.set x6.2.2.2.2.2.2.1 (Int.toNat (wrap64 (x6.1 - 1))) ((atI (0, 0) x6.2.2.2.2.2.2.1 (wrap64 (x6.1 - 1))).1, mx (atI (0, 0) x6.2.2.2.2.2.2.1 (wrap64 (x6.1 - 1))).2 x6.2.2.2.2.2.1), x6.2.2.2.2.2.2.2))
                else
                none
              else
              none
            else
              bif fitB (x6.2.2.2.2.2.2.1.length + (List.length ((x6.2.2.2.2.1, x6.2.2.2.2.2.1) :: []))) 16 then
                some (.inl (x6.2.1, wrap64 (x6.2.2.1 + 1), x6.2.2.2.2.2.2.1 ++ ((x6.2.2.2.2.1, x6.2.2.2.2.2.1) :: []), x6.2.2.2.2.2.2.2))
              else
              none) fun J7 =>
          bif decide (0 < ((x5.2.2.1.length : Nat) : Int)) then
            bif inB (wrap64 (((x5.2.2.1.length : Nat) : Int) - 1)) x5.2.2.1.length then
              J7 (((x5.2.2.1.length : Nat) : Int), x5.1, x5.2.1, decide ((atI (0, 0) x5.2.2.2 x5.2.1).1 ≤ (atI (0, 0) x5.2.2.1 (wrap64 (((x5.2.2.1.length : Nat) : Int) - 1))).2), (atI (0, 0) x5.2.2.2 x5.2.1).1, (atI (0, 0) x5.2.2.2 x5.2.1).2, x5.2.2)
            else
            none
          else
          J7 (((x5.2.2.1.length : Nat) : Int), x5.1, x5.2.1, false, (atI (0, 0) x5.2.2.2 x5.2.1).1, (atI (0, 0) x5.2.2.2 x5.2.1).2, x5.2.2)
        else
        none
      else
      some (.inr x5.2.2.1)) (((y3.length : Nat) : Int), 0, [], y3)).bind fun (z8 : List (Int × Int)) =>
      some z8)
def p_circle_pieces : Plan := .two (.leaf) (.two (.leaf) (.two (.two (.leaf) (.one (.range 1100 [5]))) (.two (.leaf) (.two (.leaf) (.two (.two (.leaf) (.one (.loop ⟨slotsOf 62 [(7, .c (.row 59)), (21, .c (.row 910500)), (22, .c (.hole (.int .i64))), (23, .c (.hole (.int .i64)))], [], [(59, 191), (910500, 191)]⟩ [(.exit 2, ⟨slotsOf 62 [(7, .c (.row 59))], [], [(59, 191)]⟩)] (.two (.leaf) (.two (.leaf) (.two (.one (.two (.leaf) (.two (.two (.leaf) (.two (.join ⟨slotsOf 62 [(7, .c (.row 59)), (9, .c (.box 9 0)), (10, .c (.hole (.int .i64))), (21, .c (.row 910500)), (22, .c (.hole (.int .i64))), (23, .c (.hole (.int .i64))), (41, .c (.hole (.bool)))], [(9, 191, [.hole (.int .i64), .hole (.int .i64)])], [(59, 191), (910500, 191)]⟩ (.leaf)) (.leaf))) (.leaf)))) (.leaf))))))) (.leaf))))))
noncomputable def c_circle_pieces (n : Nat) : Cx := ⟨Go.Proofs.Tryz.prog, Θ, [191, 57], [(120, ⟨h_slices_SortFunc_circle_pieces_1, o_slices_SortFunc_circle_pieces_1, slices_SortFunc_circle_pieces_1 n⟩), (119, ⟨h_circle_cut, o_circle_cut, circle_cut n⟩), (124, ⟨h_circle_cut_1, o_circle_cut_1, circle_cut_1 n⟩)], [], []⟩
theorem d_circle_pieces (n : Nat) (x : h_circle_pieces.X T) : denF (c_circle_pieces n) n Go.Proofs.Tryz.f110 p_circle_pieces h_circle_pieces o_circle_pieces x = circle_pieces n x := by kernel_rfl
theorem s_circle_pieces (n : Nat) : PCalls Go.Proofs.Tryz.prog Θ 110 ⟨h_circle_pieces, o_circle_pieces, circle_pieces n⟩ :=
  func_ok' (C := c_circle_pieces n) (n := n) (p := p_circle_pieces) (ok_of mixed eqsOk ⟨s_slices_SortFunc_circle_pieces_1 n, s_circle_cut n, s_circle_cut_1 n, trivial⟩ trivial trivial) Go.Proofs.Tryz.func110 (by kernel_rfl) (by kernel_rfl) (d_circle_pieces n) (by kernel_rfl)

end Go.Proofs.YtakkhnoelnpfdaaGreat.Fn
