/- Functions of the program, each as a plain function, and that the machine does what it says. -/
import Derived.Test.YtbcejiobmeglgaaFnS2
namespace Go.Proofs.Ytbcejiobmeglgaa.Fn
set_option linter.unusedVariables false
set_option maxRecDepth 100000
open Go Go.RowKit Go.Den
def h_ref05_reader_artery : Shape := ⟨slotsOf 1 [(0, .c (.box 1000000 0))], [(1000000, 99, [.hole (.sl 107), .hole (.int .i64), .hole (.int .i64)])], []⟩
def o_ref05_reader_artery : List (Ex × Shape) := [(.ret, ⟨slotsOf 3 [(0, .c (.hole (.sl 53))), (1, .c (.hole (.int .i64))), (2, .c (.hole (.int .i64)))], [(1000000, 99, [.hole (.sl 107), .hole (.int .i64), .hole (.int .i64)])], []⟩)]
def ref05_reader_artery (n : Nat) (x0 : (List (Int × ByteArray × Int × Int)) × Int × Int) : Option ((List (ByteArray × ByteArray × ByteArray × Int × Int × Int)) × Int × Int × (List (Int × ByteArray × Int × Int)) × Int × Int) :=
  (ref05_reader_want n (ByteArray.mk #[123], x0)).bind fun y1 =>
  (iterL (Y := ((List (Int × ByteArray × Int × Int)) × Int × Int × List (ByteArray × ByteArray × ByteArray × Int × Int × Int))) n (fun (x12 : (List (Int × ByteArray × Int × Int)) × Int × Int × List (ByteArray × ByteArray × ByteArray × Int × Int × Int)) =>
    let e0 := x12.2.2.2.length
    (ref05_reader_begins n (ByteArray.mk #[115, 116, 111, 112], ((e0 : Nat) : Int), 12, x12.1, x12.2.1, x12.2.2.1)).bind fun y13 =>
    bif y13.1 then
      bif inB 0 y13.2.1.length then
        (ref05_reader_name n y13.2).bind fun y14 =>
        (ref05_reader_want n (ByteArray.mk #[111, 117, 116], y14.2)).bind fun y15 =>
        (ref05_reader_name n y15).bind fun y16 =>
        (ref05_reader_want n (ByteArray.mk #[105, 110], y16.2)).bind fun y17 =>
        (ref05_reader_name n y17).bind fun y18 =>
        (ref05_reader_num n (ByteArray.mk #[97, 104, 101, 97, 100], y18.2)).bind fun y19 =>
        (ref05_reader_num n (ByteArray.mk #[98, 97, 99, 107], y19.2)).bind fun y20 =>
        let e1 := (y14.1, y16.1, y18.1, y19.1, y20.1, (atI (0, ByteArray.mk #[], 0, 0) y13.2.1 0).2.2.2) :: []
        (ref05_reader_want n (ByteArray.mk #[59], y20.2)).bind fun y21 =>
        bif fitB (e0 + e1.length) 72 then
          some (.inl (y21.1, y21.2.1, y21.2.2, x12.2.2.2 ++ e1))
        else
        none
      else
      none
    else
    some (.inr (y13.2.1, y13.2.2.1, y13.2.2.2, x12.2.2.2))) (y1.1, y1.2.1, y1.2.2, [])).bind fun (z22 : (List (Int × ByteArray × Int × Int)) × Int × Int × List (ByteArray × ByteArray × ByteArray × Int × Int × Int)) =>
    (ref05_reader_num n (ByteArray.mk #[119, 101, 105, 103, 104, 116, 115], z22.1, z22.2.1, z22.2.2.1)).bind fun y23 =>
    (ref05_reader_num n (ByteArray.mk #[], y23.2)).bind fun y24 =>
    (ref05_reader_want n (ByteArray.mk #[59], y24.2)).bind fun y25 =>
    (ref05_reader_want n (ByteArray.mk #[125], y25)).bind fun y26 =>
    some (z22.2.2.2, y23.1, y24.1, y26)
def p_ref05_reader_artery : Plan := .two (.leaf) (.two (.leaf) (.two (.leaf) (.two (.one (.loop ⟨slotsOf 59 [(0, .c (.box 1000000 0)), (5, .c (.row 47))], [(1000000, 99, [.hole (.sl 107), .hole (.int .i64), .hole (.int .i64)])], [(47, 53)]⟩ [(.exit 0, ⟨slotsOf 59 [(0, .c (.box 1000000 0)), (5, .c (.row 47))], [(1000000, 99, [.hole (.sl 107), .hole (.int .i64), .hole (.int .i64)])], [(47, 53)]⟩)] (.leaf))) (.leaf))))
noncomputable def c_ref05_reader_artery (b n : Nat) : Cx := ⟨Go.Proofs.Try.prog, (Θ b), [23], [(59, ⟨h_ref05_reader_want, o_ref05_reader_want, ref05_reader_want n⟩), (58, ⟨h_ref05_reader_num, o_ref05_reader_num, ref05_reader_num n⟩), (61, ⟨h_ref05_reader_begins, o_ref05_reader_begins, ref05_reader_begins n⟩), (69, ⟨h_ref05_reader_name, o_ref05_reader_name, ref05_reader_name n⟩)], [], [], []⟩
theorem d_ref05_reader_artery (b n : Nat) (x : h_ref05_reader_artery.X T) : denF (c_ref05_reader_artery b n) n Go.Proofs.Try.f65 p_ref05_reader_artery h_ref05_reader_artery o_ref05_reader_artery x = ref05_reader_artery n x := by kernel_rfl
theorem s_ref05_reader_artery (b n : Nat) : PCalls Go.Proofs.Try.prog (Θ b) 65 ⟨h_ref05_reader_artery, o_ref05_reader_artery, ref05_reader_artery n⟩ :=
  func_ok' (C := c_ref05_reader_artery b n) (n := n) (p := p_ref05_reader_artery) (ok_of mixed eqsOk ⟨s_ref05_reader_want b n, s_ref05_reader_num b n, s_ref05_reader_begins b n, s_ref05_reader_name b n, trivial⟩ trivial trivial) Go.Proofs.Try.func65 (by kernel_rfl) (by kernel_rfl) (d_ref05_reader_artery b n) (by kernel_rfl)
def h_ref05_Parse : Shape := ⟨slotsOf 1 [(0, .c (.hole (.sl 5)))], [], []⟩
def o_ref05_Parse : List (Ex × Shape) := [(.ret, ⟨slotsOf 3 [(0, .agg [.hole (.int .i64), .hole (.int .i64), .hole (.int .i64), .hole (.int .i64), .hole (.int .i64), .row 0, .hole (.sl 53), .hole (.int .i64), .hole (.int .i64)]), (1, .c (.hole (.int .i64))), (2, .c (.hole (.int .i64)))], [], [(0, 39)]⟩)]
def ref05_Parse (n : Nat) (x0 : List Int) : Option (Int × Int × Int × Int × Int × (List (ByteArray × ByteArray × ByteArray × Int × Int × Int)) × Int × Int × Int × Int × List (ByteArray × (List (ByteArray × Int × Int × Int × Int × Int × Int × Int × Int × Int × Int)) × (List (ByteArray × ByteArray × Int × Int × Int × Int)) × (List (ByteArray × (List ByteArray) × Int)) × (List (List (Bool × List ByteArray))) × (List (ByteArray × ByteArray × Int)) × Int)) :=
  (ref04_Tokens n x0).bind fun y1 =>
  bif !(y1.2.1 == 0) then
    some (0, 0, 0, 0, 0, [], 0, 0, y1.2.1, y1.2.2, [])
  else
  (ref05_reader_num n (ByteArray.mk #[99, 121, 99, 108, 101], y1.1, 0, 0)).bind fun y2 =>
  (ref05_reader_num n (ByteArray.mk #[116, 111], y2.2)).bind fun y3 =>
  (ref05_reader_num n (ByteArray.mk #[98, 121], y3.2)).bind fun y4 =>
  (ref05_reader_want n (ByteArray.mk #[59], y4.2)).bind fun y5 =>
  (ref05_reader_frac n (ByteArray.mk #[112, 101, 97, 107], y5)).bind fun y6 =>
  (ref05_reader_want n (ByteArray.mk #[59], y6.2.2)).bind fun y7 =>
  (iterL (Y := (Int × Int × Int × Int × Int × Int × Int × (List (Int × ByteArray × Int × Int)) × Int × Int × Int × Int × Int × Int × Int × Int × Int × List (ByteArray × (List (ByteArray × Int × Int × Int × Int × Int × Int × Int × Int × Int × Int)) × (List (ByteArray × ByteArray × Int × Int × Int × Int)) × (List (ByteArray × (List ByteArray) × Int)) × (List (List (Bool × List ByteArray))) × (List (ByteArray × ByteArray × Int)) × Int))) n (fun (x11 : Int × Int × Int × Int × Int × Int × Int × (List (Int × ByteArray × Int × Int)) × Int × Int × Int × Int × Int × Int × Int × Int × Int × List (ByteArray × (List (ByteArray × Int × Int × Int × Int × Int × Int × Int × Int × Int × Int)) × (List (ByteArray × ByteArray × Int × Int × Int × Int)) × (List (ByteArray × (List ByteArray) × Int)) × (List (List (Bool × List ByteArray))) × (List (ByteArray × ByteArray × Int)) × Int)) =>
    let e0 := x11.2.2.2.2.2.2.2.2.2.2.2.2.2.2.2.2.2.length
    (ref05_reader_begins n (ByteArray.mk #[110, 111, 100, 101], ((e0 : Nat) : Int), 12, x11.2.2.2.2.2.2.2.1, x11.2.2.2.2.2.2.2.2.1, x11.2.2.2.2.2.2.2.2.2.1)).bind fun y12 =>
    bif y12.1 then
      (ref05_reader_node n y12.2).bind fun y13 =>
      let e1 := (y13.1, y13.2.1, y13.2.2.1, y13.2.2.2.1, y13.2.2.2.2.1, y13.2.2.2.2.2.1, y13.2.2.2.2.2.2.1) :: []
      bif fitB (e0 + e1.length) 144 then
        some (.inl (x11.1, x11.2.1, x11.2.2.1, x11.2.2.2.1, x11.2.2.2.2.1, x11.2.2.2.2.2.1, x11.2.2.2.2.2.2.1, y13.2.2.2.2.2.2.2.1, y13.2.2.2.2.2.2.2.2.1, y13.2.2.2.2.2.2.2.2.2, x11.2.2.2.2.2.2.2.2.2.2.1, x11.2.2.2.2.2.2.2.2.2.2.2.1, x11.2.2.2.2.2.2.2.2.2.2.2.2.1, x11.2.2.2.2.2.2.2.2.2.2.2.2.2.1, x11.2.2.2.2.2.2.2.2.2.2.2.2.2.2.1, x11.2.2.2.2.2.2.2.2.2.2.2.2.2.2.2.1, x11.2.2.2.2.2.2.2.2.2.2.2.2.2.2.2.2.1, x11.2.2.2.2.2.2.2.2.2.2.2.2.2.2.2.2.2 ++ e1))
      else
      none
    else
    some (.inr (x11.1, x11.2.1, x11.2.2.1, x11.2.2.2.1, x11.2.2.2.2.1, x11.2.2.2.2.2.1, x11.2.2.2.2.2.2.1, y12.2.1, y12.2.2.1, y12.2.2.2, x11.2.2.2.2.2.2.2.2.2.2))) (0, 0, 0, 0, 0, 0, 0, y7.1, y7.2.1, y7.2.2, y2.1, y3.1, y4.1, y6.1, y6.2.1, 0, 0, [])).bind fun (z14 : Int × Int × Int × Int × Int × Int × Int × (List (Int × ByteArray × Int × Int)) × Int × Int × Int × Int × Int × Int × Int × Int × Int × List (ByteArray × (List (ByteArray × Int × Int × Int × Int × Int × Int × Int × Int × Int × Int)) × (List (ByteArray × ByteArray × Int × Int × Int × Int)) × (List (ByteArray × (List ByteArray) × Int)) × (List (List (Bool × List ByteArray))) × (List (ByteArray × ByteArray × Int)) × Int)) =>
    letJ (fun (x18 : Int × Int × Int × Int × Int × Int × Int × (List (Int × ByteArray × Int × Int)) × Int × Int × Int × Int × Int × Int × Int × (List (ByteArray × ByteArray × ByteArray × Int × Int × Int)) × Int × Int × List (ByteArray × (List (ByteArray × Int × Int × Int × Int × Int × Int × Int × Int × Int × Int)) × (List (ByteArray × ByteArray × Int × Int × Int × Int)) × (List (ByteArray × (List ByteArray) × Int)) × (List (List (Bool × List ByteArray))) × (List (ByteArray × ByteArray × Int)) × Int)) =>
      letJ (fun (x21 : Int × Int × Int × Int × Int × Int × Int × (List (Int × ByteArray × Int × Int)) × Int × Int × Int × Int × Int × Int × Int × (List (ByteArray × ByteArray × ByteArray × Int × Int × Int)) × Int × Int × List (ByteArray × (List (ByteArray × Int × Int × Int × Int × Int × Int × Int × Int × Int × Int)) × (List (ByteArray × ByteArray × Int × Int × Int × Int)) × (List (ByteArray × (List ByteArray) × Int)) × (List (List (Bool × List ByteArray))) × (List (ByteArray × ByteArray × Int)) × Int)) =>
        bif !(x21.2.2.2.2.2.2.2.2.1 == 0) then
          some (0, 0, 0, 0, 0, [], 0, 0, x21.2.2.2.2.2.2.2.2.1, x21.2.2.2.2.2.2.2.2.2.1, [])
        else
        some (x21.2.2.2.2.2.2.2.2.2.2.1, x21.2.2.2.2.2.2.2.2.2.2.2.1, x21.2.2.2.2.2.2.2.2.2.2.2.2.1, x21.2.2.2.2.2.2.2.2.2.2.2.2.2.1, x21.2.2.2.2.2.2.2.2.2.2.2.2.2.2.1, x21.2.2.2.2.2.2.2.2.2.2.2.2.2.2.2.1, x21.2.2.2.2.2.2.2.2.2.2.2.2.2.2.2.2.1, x21.2.2.2.2.2.2.2.2.2.2.2.2.2.2.2.2.2.1, 0, 0, x21.2.2.2.2.2.2.2.2.2.2.2.2.2.2.2.2.2.2)) fun J22 =>
      bif inB 0 x18.2.2.2.2.2.2.2.1.length then
        bif !((atI (0, ByteArray.mk #[], 0, 0) x18.2.2.2.2.2.2.2.1 0).1 == 0) then
          (ref05_reader_fail n (50, x18.2.2.2.2.2.2.2.1, x18.2.2.2.2.2.2.2.2.1, x18.2.2.2.2.2.2.2.2.2.1)).bind fun y20 =>
          J22 (x18.1, x18.2.1, x18.2.2.1, x18.2.2.2.1, x18.2.2.2.2.1, x18.2.2.2.2.2.1, x18.2.2.2.2.2.2.1, y20.1, y20.2.1, y20.2.2, x18.2.2.2.2.2.2.2.2.2.2)
        else
        J22 x18
      else
      none) fun J19 =>
    (ref05_reader_is n (z14.2.2.2.2.2.2.2.1, z14.2.2.2.2.2.2.2.2.1, z14.2.2.2.2.2.2.2.2.2.1, ByteArray.mk #[97, 114, 116, 101, 114, 121])).bind fun y15 =>
    bif y15 then
      (ref05_reader_next n (z14.2.2.2.2.2.2.2.1, z14.2.2.2.2.2.2.2.2.1, z14.2.2.2.2.2.2.2.2.2.1)).bind fun y16 =>
      (ref05_reader_artery n y16.2.2.2.2).bind fun y17 =>
      J19 (z14.1, z14.2.1, z14.2.2.1, z14.2.2.2.1, z14.2.2.2.2.1, z14.2.2.2.2.2.1, z14.2.2.2.2.2.2.1, y17.2.2.2.1, y17.2.2.2.2.1, y17.2.2.2.2.2, z14.2.2.2.2.2.2.2.2.2.2.1, z14.2.2.2.2.2.2.2.2.2.2.2.1, z14.2.2.2.2.2.2.2.2.2.2.2.2.1, z14.2.2.2.2.2.2.2.2.2.2.2.2.2.1, z14.2.2.2.2.2.2.2.2.2.2.2.2.2.2.1, y17.1, y17.2.1, y17.2.2.1, z14.2.2.2.2.2.2.2.2.2.2.2.2.2.2.2.2.2)
    else
    J19 (z14.1, z14.2.1, z14.2.2.1, z14.2.2.2.1, z14.2.2.2.2.1, z14.2.2.2.2.2.1, z14.2.2.2.2.2.2.1, z14.2.2.2.2.2.2.2.1, z14.2.2.2.2.2.2.2.2.1, z14.2.2.2.2.2.2.2.2.2.1, z14.2.2.2.2.2.2.2.2.2.2.1, z14.2.2.2.2.2.2.2.2.2.2.2.1, z14.2.2.2.2.2.2.2.2.2.2.2.2.1, z14.2.2.2.2.2.2.2.2.2.2.2.2.2.1, z14.2.2.2.2.2.2.2.2.2.2.2.2.2.2.1, [], z14.2.2.2.2.2.2.2.2.2.2.2.2.2.2.2)
def p_ref05_Parse : Plan := .two (.leaf) (.two (.leaf) (.two (.leaf) (.two (.leaf) (.two (.leaf) (.two (.leaf) (.two (.leaf) (.two (.leaf) (.two (.leaf) (.two (.leaf) (.two (.leaf) (.two (.one (.loop ⟨slotsOf 96 [(2, .c (.box 2 0)), (8, .c (.box 26 0)), (9, .c (.box 9 0))], [(2, 27, [.hole (.int .i64), .hole (.int .i64), .hole (.int .i64), .hole (.int .i64), .hole (.int .i64), .nil, .nil, .hole (.int .i64), .hole (.int .i64)]), (26, 99, [.hole (.sl 107), .hole (.int .i64), .hole (.int .i64)]), (9, 27, [.hole (.int .i64), .hole (.int .i64), .hole (.int .i64), .hole (.int .i64), .hole (.int .i64), .row 53, .nil, .hole (.int .i64), .hole (.int .i64)])], [(53, 39)]⟩ [(.exit 0, ⟨slotsOf 96 [(2, .c (.box 2 0)), (8, .c (.box 26 0)), (9, .c (.box 9 0))], [(2, 27, [.hole (.int .i64), .hole (.int .i64), .hole (.int .i64), .hole (.int .i64), .hole (.int .i64), .nil, .nil, .hole (.int .i64), .hole (.int .i64)]), (26, 99, [.hole (.sl 107), .hole (.int .i64), .hole (.int .i64)]), (9, 27, [.hole (.int .i64), .hole (.int .i64), .hole (.int .i64), .hole (.int .i64), .hole (.int .i64), .row 53, .nil, .hole (.int .i64), .hole (.int .i64)])], [(53, 39)]⟩)] (.leaf))) (.two (.join ⟨slotsOf 96 [(2, .c (.box 2 0)), (8, .c (.box 26 0)), (9, .c (.box 9 0))], [(2, 27, [.hole (.int .i64), .hole (.int .i64), .hole (.int .i64), .hole (.int .i64), .hole (.int .i64), .nil, .nil, .hole (.int .i64), .hole (.int .i64)]), (26, 99, [.hole (.sl 107), .hole (.int .i64), .hole (.int .i64)]), (9, 27, [.hole (.int .i64), .hole (.int .i64), .hole (.int .i64), .hole (.int .i64), .hole (.int .i64), .row 53, .hole (.sl 53), .hole (.int .i64), .hole (.int .i64)])], [(53, 39)]⟩ (.leaf)) (.two (.join ⟨slotsOf 96 [(2, .c (.box 2 0)), (8, .c (.box 26 0)), (9, .c (.box 9 0))], [(2, 27, [.hole (.int .i64), .hole (.int .i64), .hole (.int .i64), .hole (.int .i64), .hole (.int .i64), .nil, .nil, .hole (.int .i64), .hole (.int .i64)]), (26, 99, [.hole (.sl 107), .hole (.int .i64), .hole (.int .i64)]), (9, 27, [.hole (.int .i64), .hole (.int .i64), .hole (.int .i64), .hole (.int .i64), .hole (.int .i64), .row 53, .hole (.sl 53), .hole (.int .i64), .hole (.int .i64)])], [(53, 39)]⟩ (.leaf)) (.leaf))))))))))))))
noncomputable def c_ref05_Parse (b n : Nat) : Cx := ⟨Go.Proofs.Try.prog, (Θ b), [23], [(57, ⟨h_ref04_Tokens, o_ref04_Tokens, ref04_Tokens n⟩), (63, ⟨h_ref05_reader_is, o_ref05_reader_is, ref05_reader_is n⟩), (66, ⟨h_ref05_reader_fail, o_ref05_reader_fail, ref05_reader_fail n⟩), (64, ⟨h_ref05_reader_next, o_ref05_reader_next, ref05_reader_next n⟩), (59, ⟨h_ref05_reader_want, o_ref05_reader_want, ref05_reader_want n⟩), (58, ⟨h_ref05_reader_num, o_ref05_reader_num, ref05_reader_num n⟩), (60, ⟨h_ref05_reader_frac, o_ref05_reader_frac, ref05_reader_frac n⟩), (61, ⟨h_ref05_reader_begins, o_ref05_reader_begins, ref05_reader_begins n⟩), (62, ⟨h_ref05_reader_node, o_ref05_reader_node, ref05_reader_node n⟩), (65, ⟨h_ref05_reader_artery, o_ref05_reader_artery, ref05_reader_artery n⟩)], [], [], []⟩
theorem d_ref05_Parse (b n : Nat) (x : h_ref05_Parse.X T) : denF (c_ref05_Parse b n) n Go.Proofs.Try.f54 p_ref05_Parse h_ref05_Parse o_ref05_Parse x = ref05_Parse n x := by kernel_rfl
theorem s_ref05_Parse (b n : Nat) : PCalls Go.Proofs.Try.prog (Θ b) 54 ⟨h_ref05_Parse, o_ref05_Parse, ref05_Parse n⟩ :=
  func_ok' (C := c_ref05_Parse b n) (n := n) (p := p_ref05_Parse) (ok_of mixed eqsOk ⟨s_ref04_Tokens b n, s_ref05_reader_is b n, s_ref05_reader_fail b n, s_ref05_reader_next b n, s_ref05_reader_want b n, s_ref05_reader_num b n, s_ref05_reader_frac b n, s_ref05_reader_begins b n, s_ref05_reader_node b n, s_ref05_reader_artery b n, trivial⟩ trivial trivial) Go.Proofs.Try.func54 (by kernel_rfl) (by kernel_rfl) (d_ref05_Parse b n) (by kernel_rfl)
def h_law07_Sample : Shape := ⟨slotsOf 0 [], [], []⟩
def o_law07_Sample : List (Ex × Shape) := [(.ret, ⟨slotsOf 1 [(0, .agg [.hole (.int .i64), .hole (.int .i64), .hole (.int .i64), .hole (.int .i64), .hole (.int .i64), .row 0, .hole (.sl 53), .hole (.int .i64), .hole (.int .i64)])], [], [(0, 39)]⟩)]
def law07_Sample (n : Nat) (x0 : Unit) : Option (Int × Int × Int × Int × Int × (List (ByteArray × ByteArray × ByteArray × Int × Int × Int)) × Int × Int × List (ByteArray × (List (ByteArray × Int × Int × Int × Int × Int × Int × Int × Int × Int × Int)) × (List (ByteArray × ByteArray × Int × Int × Int × Int)) × (List (ByteArray × (List ByteArray) × Int)) × (List (List (Bool × List ByteArray))) × (List (ByteArray × ByteArray × Int)) × Int)) :=
  (ref05_Parse n (99 :: (121 :: (99 :: (108 :: (101 :: (32 :: (51 :: (48 :: (32 :: (116 :: (111 :: (32 :: (50 :: (48 :: (48 :: (32 :: (98 :: (121 :: (32 :: (49 :: (48 :: (59 :: (32 :: (112 :: (101 :: (97 :: (107 :: (32 :: (57 :: (47 :: (49 :: (48 :: (59 :: (32 :: (110 :: (111 :: (100 :: (101 :: (32 :: (97 :: (32 :: (123 :: (32 :: (104 :: (101 :: (97 :: (100 :: (32 :: (110 :: (32 :: (118 :: (111 :: (108 :: (117 :: (109 :: (101 :: (32 :: (52 :: (48 :: (48 :: (32 :: (102 :: (108 :: (111 :: (119 :: (32 :: (49 :: (56 :: (48 :: (48 :: (32 :: (117 :: (115 :: (101 :: (32 :: (49 :: (47 :: (49 :: (32 :: (115 :: (112 :: (101 :: (101 :: (100 :: (32 :: (49 :: (53 :: (48 :: (48 :: (32 :: (103 :: (114 :: (97 :: (100 :: (101 :: (32 :: (48 :: (32 :: (119 :: (105 :: (100 :: (116 :: (104 :: (32 :: (49 :: (56 :: (48 :: (48 :: (32 :: (108 :: (101 :: (110 :: (103 :: (116 :: (104 :: (32 :: (54 :: (48 :: (48 :: (32 :: (103 :: (114 :: (101 :: (101 :: (110 :: (32 :: (49 :: (48 :: (59 :: (32 :: (104 :: (101 :: (97 :: (100 :: (32 :: (101 :: (32 :: (118 :: (111 :: (108 :: (117 :: (109 :: (101 :: (32 :: (51 :: (48 :: (48 :: (32 :: (102 :: (108 :: (111 :: (119 :: (32 :: (49 :: (55 :: (48 :: (48 :: (32 :: (117 :: (115 :: (101 :: (32 :: (49 :: (47 :: (49 :: (32 :: (115 :: (112 :: (101 :: (101 :: (100 :: (32 :: (49 :: (48 :: (48 :: (48 :: (32 :: (103 :: (114 :: (97 :: (100 :: (101 :: (32 :: (45 :: (50 :: (48 :: (32 :: (119 :: (105 :: (100 :: (116 :: (104 :: (32 :: (50 :: (48 :: (48 :: (48 :: (32 :: (108 :: (101 :: (110 :: (103 :: (116 :: (104 :: (32 :: (54 :: (48 :: (48 :: (32 :: (103 :: (114 :: (101 :: (101 :: (110 :: (32 :: (56 :: (59 :: (32 :: (119 :: (97 :: (108 :: (107 :: (32 :: (119 :: (32 :: (119 :: (105 :: (116 :: (104 :: (32 :: (112 :: (32 :: (108 :: (111 :: (110 :: (103 :: (32 :: (51 :: (48 :: (48 :: (32 :: (112 :: (97 :: (99 :: (101 :: (32 :: (49 :: (50 :: (48 :: (32 :: (108 :: (101 :: (97 :: (115 :: (116 :: (32 :: (53 :: (59 :: (32 :: (112 :: (104 :: (97 :: (115 :: (101 :: (32 :: (112 :: (58 :: (32 :: (110 :: (59 :: (32 :: (112 :: (104 :: (97 :: (115 :: (101 :: (32 :: (113 :: (58 :: (32 :: (101 :: (59 :: (32 :: (103 :: (114 :: (111 :: (117 :: (112 :: (32 :: (123 :: (32 :: (114 :: (105 :: (110 :: (103 :: (32 :: (102 :: (114 :: (101 :: (101 :: (32 :: (112 :: (44 :: (32 :: (113 :: (59 :: (32 :: (125 :: (32 :: (102 :: (111 :: (101 :: (32 :: (110 :: (32 :: (101 :: (59 :: (32 :: (125 :: (32 :: (97 :: (114 :: (116 :: (101 :: (114 :: (121 :: (32 :: (123 :: (32 :: (115 :: (116 :: (111 :: (112 :: (32 :: (97 :: (32 :: (111 :: (117 :: (116 :: (32 :: (110 :: (32 :: (105 :: (110 :: (32 :: (110 :: (32 :: (97 :: (104 :: (101 :: (97 :: (100 :: (32 :: (48 :: (32 :: (98 :: (97 :: (99 :: (107 :: (32 :: (48 :: (59 :: (32 :: (119 :: (101 :: (105 :: (103 :: (104 :: (116 :: (115 :: (32 :: (49 :: (32 :: (49 :: (59 :: (32 :: (125 :: [])))))))))))))))))))))))))))))))))))))))))))))))))))))))))))))))))))))))))))))))))))))))))))))))))))))))))))))))))))))))))))))))))))))))))))))))))))))))))))))))))))))))))))))))))))))))))))))))))))))))))))))))))))))))))))))))))))))))))))))))))))))))))))))))))))))))))))))))))))))))))))))))))))))))))))))))))))))))))))))))))))))))))))))))))))))))))))))))))))))))))))))))))))))))))).bind fun y1 =>
  some (y1.1, y1.2.1, y1.2.2.1, y1.2.2.2.1, y1.2.2.2.2.1, y1.2.2.2.2.2.1, y1.2.2.2.2.2.2.1, y1.2.2.2.2.2.2.2.1, y1.2.2.2.2.2.2.2.2.2.2)
def p_law07_Sample : Plan := .leaf
noncomputable def c_law07_Sample (b n : Nat) : Cx := ⟨Go.Proofs.Try.prog, (Θ b), [23], [(54, ⟨h_ref05_Parse, o_ref05_Parse, ref05_Parse n⟩)], [], [], []⟩
theorem d_law07_Sample (b n : Nat) (x : h_law07_Sample.X T) : denF (c_law07_Sample b n) n Go.Proofs.Try.f31 p_law07_Sample h_law07_Sample o_law07_Sample x = law07_Sample n x := by kernel_rfl
theorem s_law07_Sample (b n : Nat) : PCalls Go.Proofs.Try.prog (Θ b) 31 ⟨h_law07_Sample, o_law07_Sample, law07_Sample n⟩ :=
  func_ok' (C := c_law07_Sample b n) (n := n) (p := p_law07_Sample) (ok_of mixed eqsOk ⟨s_ref05_Parse b n, trivial⟩ trivial trivial) Go.Proofs.Try.func31 (by kernel_rfl) (by kernel_rfl) (d_law07_Sample b n) (by kernel_rfl)
end Go.Proofs.Ytbcejiobmeglgaa.Fn
