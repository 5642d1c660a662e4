/- slices.SortFunc at circle's pieces: its contract, out of the library's. -/
import Derived.Test.YtakkhnoelnpfdaaGreatTab
import Derived.Test.YtakkhnoelnpfdaaGreatShelf
namespace Go.Proofs.YtakkhnoelnpfdaaGreat.Fn
open Go Go.RowKit Go.Den Go.Proofs Go.Shelf Go.Lib Go.Sort
theorem ltPc (x y : Int × Int) : ltOf (fun x y : Int × Int => Lib.compareInt x.1 y.1) x y = decide (x.1 < y.1) := by
  unfold ltOf Lib.compareInt
  by_cases h1 : x.1 < y.1
  · simp [h1]
  · by_cases h2 : y.1 < x.1 <;> simp [h1, h2]
/-- 'cmp.Compare(a.from, b.from) < 0' is a strict weak order. -/
theorem swoPc : SWO (ltOf fun x y : Int × Int => Lib.compareInt x.1 y.1) where
  irrefl x := by rw [ltPc]; simp
  trans x y z h1 h2 := by rw [ltPc] at *; simp at *; omega
  ntrans x y z h1 h2 := by rw [ltPc] at *; simp at *; omega
set_option maxHeartbeats 1000000 in
theorem closurePc (x y : Int × Int) (W : World) : Calls Tryz.prog 121 #[.agg #[.int .i64 x.1, .int .i64 x.2], .agg #[.int .i64 y.1, .int .i64 y.2]] W fun e w' => e = .returned (.int .i64 (Lib.compareInt x.1 y.1)) ∧ ∃ q os', w' = grow (W.drewN q) os' := by
  have hcon := fun W' => AnyG.cmp_Compare_int Tryz.cmpInt x.1 y.1 W'
  change ∀ W', Calls Tryz.prog 122 _ _ _ at hcon
  generalize Lib.compareInt x.1 y.1 = r at hcon ⊢
  go_enter Tryz.func121, Tryz.ntmps121
  go_wp2_with (go_at_call 122; refine (hcon _).mono ?_; rintro e w' ⟨rfl, rfl⟩)
  go_ret
  exact ⟨rfl, 0, _, by rw [alloc_eq_grow, alloc_eq_grow, grow_grow]; rfl⟩
theorem sortPc_calls : PCalls Tryz.prog Θ 120 ⟨sortIn 191 121, [(.ret, sortOut 191)], fun x => sortF (0, 0) (fun a b : Int × Int => Lib.compareInt a.1 b.1) x⟩ :=
  sort_calls (Θ := Θ) Tryz.sortPc 191 2 (by decide) (by kernel_rfl) (by kernel_rfl) (by kernel_rfl) Tryz.isAgg191 Tryz.sizeOf191 (fun a b : Int × Int => Lib.compareInt a.1 b.1) swoPc 121
    (enters_of Tryz.func121 (by kernel_rfl) rfl) (enters_of Tryz.func120 (by kernel_rfl) rfl) (fun blk off size w m os dk _ x y => closurePc x y _)
theorem closureDel (s : ByteArray) (B : Nat) (W : World) (x : ByteArray) (h : W.cell? ⟨B, 0, none⟩ = some (.string s)) : FnGives Tryz.prog 102 #[.pointer (some ⟨B, 0, none⟩)] #[.string x] (.bool (strEq x s)) W := by
  show Calls Tryz.prog 102 #[.string x, .pointer (some ⟨B, 0, none⟩)] W _
  go_enter Tryz.func102, Tryz.ntmps102
  go_wp2
  all_goals (go_ret; exact ⟨by simp_all [strEq], 0, rfl⟩)
theorem delStr_calls : PCalls Tryz.prog Θ 101 ⟨delIn 9 102 62 133, [(.ret, delOut 9 62 133)], fun x => delF (fun s y => strEq y s) x⟩ :=
  del_calls (Θ := Θ) Tryz.delStr 9 102 62 133 (fun x : ByteArray => Value.string x) ByteArray.empty (by decide) (by kernel_rfl) (by kernel_rfl) (fun _ => rfl) (fun _ => rfl) (fun s y => strEq y s)
    (enters_of Tryz.func102 (by kernel_rfl) rfl) Tryz.zeroValue9 (enters_of Tryz.func101 (by kernel_rfl) rfl) closureDel
end Go.Proofs.YtakkhnoelnpfdaaGreat.Fn
