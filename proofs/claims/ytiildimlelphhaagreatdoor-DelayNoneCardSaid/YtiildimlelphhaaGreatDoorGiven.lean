/- slices.SortFunc at circle's pieces: its contract, out of the library's. -/
import Derived.Test.YtiildimlelphhaaGreatDoorTab
import Derived.Test.YtiildimlelphhaaGreatDoorShelf
namespace Go.Proofs.YtiildimlelphhaaGreatDoor.Fn
open Go Go.RowKit Go.Den Go.Proofs Go.Shelf Go.Lib Go.Sort
theorem ltPc (x y : Int × Int) : ltOf (fun x y : Int × Int => Lib.compareInt x.1 y.1) x y = decide (x.1 < y.1) := by
  unfold ltOf Lib.compareInt
  by_cases h1 : x.1 < y.1
  · simp [h1]
  · by_cases h2 : y.1 < x.1 <;> simp [h1, h2]
/-- 'cmp.Compare(a.from, b.from) < 0' is a strict weak order. -/
theorem swoPc : SWO (ltOf fun x y : Int × Int => Lib.compareInt x.1 y.1) where
  irrefl x := by rw [ltPc]; simp
  trans x y z h1 h2 := by rw [ltPc] at *; simp at *; omega
  ntrans x y z h1 h2 := by rw [ltPc] at *; simp at *; omega
set_option maxHeartbeats 1000000 in
theorem closurePc (x y : Int × Int) (W : World) : Calls Tryz.prog 100 #[.agg #[.int .i64 x.1, .int .i64 x.2], .agg #[.int .i64 y.1, .int .i64 y.2]] W fun e w' => e = .returned (.int .i64 (Lib.compareInt x.1 y.1)) ∧ ∃ q os', w' = grow (W.drewN q) os' := by
  have hcon := fun W' => AnyG.cmp_Compare_int Tryz.cmpInt x.1 y.1 W'
  change ∀ W', Calls Tryz.prog 101 _ _ _ at hcon
  generalize Lib.compareInt x.1 y.1 = r at hcon ⊢
  go_enter Tryz.func100, Tryz.ntmps100
  go_wp2_with (go_at_call 101; refine (hcon _).mono ?_; rintro e w' ⟨rfl, rfl⟩)
  go_ret
  exact ⟨rfl, 0, _, by rw [alloc_eq_grow, alloc_eq_grow, grow_grow]; rfl⟩
theorem sortPc_calls : PCalls Tryz.prog Θ 99 ⟨sortIn 128 100, [(.ret, sortOut 128)], fun x => sortF (0, 0) (fun a b : Int × Int => Lib.compareInt a.1 b.1) x⟩ :=
  sort_calls (Θ := Θ) Tryz.sortPc 128 2 (by decide) (by kernel_rfl) (by kernel_rfl) (by kernel_rfl) Tryz.isAgg128 Tryz.sizeOf128 (fun a b : Int × Int => Lib.compareInt a.1 b.1) swoPc 100
    (enters_of Tryz.func100 (by kernel_rfl) rfl) (enters_of Tryz.func99 (by kernel_rfl) rfl) (fun blk off size w m os dk _ x y => closurePc x y _)
theorem as_nil (t : Value) (w : World) : Calls Tryz.prog 43 #[.nilIface, t] w fun e w' => e = .returned (.bool false) ∧ w' = w := by
  go_enter Tryz.func43, Tryz.ntmps43
  go_wp2
  go_ret
  exact ⟨rfl, rfl⟩
theorem number_nil (W : World) : Calls Tryz.prog 21 #[.nilIface] W fun e w' => e = .returned (.int .i64 0) ∧ Below W.heap.size W w' := by
  go_enter Tryz.func21, Tryz.ntmps21
  go_wp2_with (go_at_call 43; refine (as_nil _ _).mono ?_; rintro e w' ⟨rfl, rfl⟩)
  go_ret
  exact ⟨rfl, by repeat (first | exact Below.refl _ _ | refine Below.alloc ?_ (by first | (simp; done) | (simp; omega)) _)⟩
theorem number_calls : PCalls Tryz.prog Θ 21 ⟨numIn, [(.ret, numOut)], fun _ => some (0 : Int)⟩ :=
  num_calls (enters_of Tryz.func21 (by kernel_rfl) rfl) number_nil
theorem tz64_calls : PCalls Tryz.prog Θ 117 ⟨tzIn, [(.ret, tzOut)], ctzF⟩ :=
  tz_calls (Θ := Θ) Tryz.tz (enters_of Tryz.func117 (by kernel_rfl) rfl) (List.mem_singleton.2 rfl)
theorem sub_lo (x y : Nat) (hx : x < 18446744073709551616) (hy : y < 18446744073709551616) (W : World) : (callFunc 126 #[.int .u64 x, .int .u64 y, .int .u64 0]).run Tryz.prog W = .ok (.value (.tuple #[.int .u64 (subLo x y), .int .u64 (if (x : Int) < y then 1 else 0)])) W := by
  have h := Any7.bits_Sub64 Tryz.sub64 x y 0 (by omega) W
  change (callFunc 126 #[.int .u64 x, .int .u64 y, .int .u64 0]).run Tryz.prog W = _ at h
  rw [h]
  have e1 : ((((x + 18446744073709551616 - y - 0) % 18446744073709551616 : Nat)) : Int) = subLo x y := by unfold subLo; omega
  have e2 : (((if x < y + 0 then 1 else 0 : Nat)) : Int) = (if (x : Int) < y then 1 else 0) := by split <;> split <;> omega
  rw [e1, e2]
def bor (x y k : Int) : Int := if x < y + k then 1 else 0
theorem sub_hi (x y : Nat) (k : Int) (hx : x < 18446744073709551616) (hy : y < 18446744073709551616) (hk : k = 0 ∨ k = 1) (W : World) : (callFunc 126 #[.int .u64 x, .int .u64 y, .int .u64 k]).run Tryz.prog W = .ok (.value (.tuple #[.int .u64 (((x : Int) - y - k) % 18446744073709551616), .int .u64 (bor x y k)])) W := by
  obtain ⟨n, rfl, hn⟩ : ∃ n : Nat, k = n ∧ n ≤ 1 := by
    rcases hk with rfl | rfl
    · exact ⟨0, rfl, by omega⟩
    · exact ⟨1, rfl, by omega⟩
  have h := Any7.bits_Sub64 Tryz.sub64 x y n hn W
  change (callFunc 126 #[.int .u64 x, .int .u64 y, .int .u64 n]).run Tryz.prog W = _ at h
  rw [h]
  have e1 : ((((x + 18446744073709551616 - y - n) % 18446744073709551616 : Nat)) : Int) = ((x : Int) - y - n) % 18446744073709551616 := by omega
  have e2 : (((if x < y + n then 1 else 0 : Nat)) : Int) = bor x y n := by unfold bor; split <;> split <;> omega
  rw [e1, e2]
theorem minus_walk (a b c d : Nat) (W : World) (ha : a < 18446744073709551616) (hb : b < 18446744073709551616) (hc : c < 18446744073709551616) (hd : d < 18446744073709551616) :
    Calls Tryz.prog 114 #[.agg #[.int .u64 a, .int .u64 b], .agg #[.int .u64 c, .int .u64 d]] W fun e w' => e = .returned (.agg #[.int .u64 (subHi a b c d), .int .u64 (subLo b d)]) ∧ Below W.heap.size W w' := by
  have h1 := sub_lo b d hb hd
  obtain ⟨k, hk⟩ : ∃ k : Int, (if (b : Int) < d then 1 else 0) = k := ⟨_, rfl⟩
  have hk2 : k = 0 ∨ k = 1 := by rw [← hk]; split <;> simp
  have h3 := fun W => sub_hi a c k ha hc hk2 W
  have e3 : subHi a b c d = ((a : Int) - c - k) % 18446744073709551616 := by unfold subHi; rw [hk]
  simp only [hk] at h1
  rw [e3]
  clear hk hk2 e3
  generalize bor a c k = q at h3
  generalize ((a : Int) - c - k) % 18446744073709551616 = hi at h3 ⊢
  generalize subLo b d = lo at h1 ⊢
  go_enter Tryz.func114, Tryz.ntmps114
  go_wp2_with (first | simp only [h1] | simp only [h3])
  (try simp only [Exit.inBlock, Exit.then])
  refine bodyPost_ret (by simp [results, Tryz.results114, go_sem]; try rfl) rfl ?_
  exact ⟨rfl, by repeat (first | exact Below.refl _ _ | refine Below.alloc ?_ (by first | (simp; done) | (simp; omega)) _)⟩
theorem minus128_calls : PCalls Tryz.prog Θ 114 ⟨w128In, [(.ret, w128Out)], minusF⟩ :=
  minus_calls (enters_of Tryz.func114 (by kernel_rfl) rfl) fun a b c d W ha hb hc hd => minus_walk a b c d W ha hb hc hd
end Go.Proofs.YtiildimlelphhaaGreatDoor.Fn
