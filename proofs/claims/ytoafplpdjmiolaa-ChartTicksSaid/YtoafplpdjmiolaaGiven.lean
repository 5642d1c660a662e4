/- slices.SortFunc at circle's pieces: its contract, out of the library's. -/
import Derived.Test.YtoafplpdjmiolaaTab
import Derived.Test.YtoafplpdjmiolaaShelf
import Derived.Test.YtoafplpdjmiolaaChecked
import Derived.Shelf.Strings.Builder1
import Derived.WalkKit
import Derived.ProofKit
namespace Go.Proofs.Ytoafplpdjmiolaa.Fn
open Go Go.RowKit Go.Den Go.Proofs Go.Shelf Go.Lib Go.Sort
theorem ltPc (x y : Int × Int) : ltOf (fun x y : Int × Int => Lib.compareInt x.1 y.1) x y = decide (x.1 < y.1) := by
  unfold ltOf Lib.compareInt
  by_cases h1 : x.1 < y.1
  · simp [h1]
  · by_cases h2 : y.1 < x.1 <;> simp [h1, h2]
/-- 'cmp.Compare(a.from, b.from) < 0' is a strict weak order. -/
theorem swoPc : SWO (ltOf fun x y : Int × Int => Lib.compareInt x.1 y.1) where
  irrefl x := by rw [ltPc]; simp
  trans x y z h1 h2 := by rw [ltPc] at *; simp at *; omega
  ntrans x y z h1 h2 := by rw [ltPc] at *; simp at *; omega
set_option maxHeartbeats 1000000 in
theorem closurePc (x y : Int × Int) (W : World) : Calls Try.prog 46 #[.agg #[.int .i64 x.1, .int .i64 x.2], .agg #[.int .i64 y.1, .int .i64 y.2]] W fun e w' => e = .returned (.int .i64 (Lib.compareInt x.1 y.1)) ∧ ∃ q os', w' = grow (W.drewN q) os' := by
  have hcon := fun W' => AnyG.cmp_Compare_int Try.cmpInt x.1 y.1 W'
  change ∀ W', Calls Try.prog 47 _ _ _ at hcon
  generalize Lib.compareInt x.1 y.1 = r at hcon ⊢
  go_enter Try.func46, Try.ntmps46
  go_wp2_with (go_at_call 47; refine (hcon _).mono ?_; rintro e w' ⟨rfl, rfl⟩)
  go_ret
  exact ⟨rfl, 0, _, by rw [alloc_eq_grow, alloc_eq_grow, grow_grow]; rfl⟩
theorem sortPc_calls : PCalls Try.prog Θ 45 ⟨sortIn 82 46, [(.ret, sortOut 82)], fun x => sortF (0, 0) (fun a b : Int × Int => Lib.compareInt a.1 b.1) x⟩ :=
  sort_calls (Θ := Θ) Try.sortPc 82 2 (by decide) (by decide) (by kernel_rfl) (by kernel_rfl) (by kernel_rfl) Try.isAgg82 Try.sizeOf82 (fun a b : Int × Int => Lib.compareInt a.1 b.1) swoPc 46
    (enters_of Try.func46 (by kernel_rfl) rfl) (enters_of Try.func45 (by kernel_rfl) rfl) (fun blk off size w m os dk _ x y => closurePc x y _)
theorem chart_extra : Builder.Extra Try.prog Try.rep_ren where
  sizeBuilder := by kernel_rfl
  liesBuilder := by kernel_rfl
  t5 := Try.underlying5
  a5 := Try.isAgg5
  z5 := Try.sizeOf5
  v5 := Try.zeroValue5
  infoByte := by kernel_rfl
  cellsByte := by kernel_rfl
  sizeByte := by kernel_rfl
  neB5 := by decide
theorem repeat_calls : PCalls Try.prog Θ 20 ⟨repIn, [(.ret, repOut)], repF⟩ :=
  rep_calls (enters_of Try.func20 (by kernel_rfl) rfl) fun s n W h0 hn => by
    have hle : n ≤ s.size * n := Nat.le_mul_of_pos_left _ h0
    exact Any.strings_Repeat Try.rep chart_extra s n W (by omega) hn
theorem count_calls : PCalls Try.prog Θ 19 ⟨cntIn, [(.ret, cntOut)], cntF⟩ :=
  cnt_calls (enters_of Try.func19 (by kernel_rfl) rfl) fun s c W => Any.strings_Count_one Try.cnt s c W
set_option maxHeartbeats 1000000 in
set_option maxRecDepth 100000 in
set_option linter.unusedVariables false in
theorem chk_walk (b : Nat) (v x y : Value) (W : World) (hb : W.heap[b]? = some (.cells #[.pointer none, v, x, y] 43 (0, 0))) :
    Calls Try.prog 37 #[.pointer (some ⟨b, 0, none⟩)] W fun e w' => e = .returned (.tuple #[]) ∧ w' = W.setCell ⟨b, 0, none⟩ (.pointer (some ⟨b, 0, none⟩)) := by
  have h0 : W.cell? ⟨b, 0, none⟩ = some (.pointer none) := by simp [World.cell?, hb]
  have hsh : W.shape? b = some (43, 4) := by simp [World.shape?, hb]
  have hfz : W.frozen? ⟨b, 0, none⟩ = false := by simp [World.frozen?, hb]
  obtain ⟨j, hj, hjs⟩ := Option.map_eq_some_iff.1 (show (Try.prog.info? 41).map (·.size) = some 2 by kernel_rfl)
  have u38 : Try.prog.underlying 38 = some (.pointer 41) := by kernel_rfl
  have u90 : Try.prog.underlying 90 = some .unsafePointer := by kernel_rfl
  have hlies : liesAt Try.prog Try.prog.depth 43 (4 / Try.prog.cellsOf 43) 0 41 1 = true := by kernel_rfl
  go_enter Try.func37, Try.ntmps37
  go_wp2
  rw [Lib.run_to_unsafe W ⟨b, 0, none⟩ u38 u90 hj (by rw [hjs]; decide) hsh (show 0 < 4 by omega)]
  simp only [Result.andThen]
  rw [Oper.upon_value]
  go_wp2
  rw [run_callFunc_extern Try.func48 (by kernel_rfl) (by kernel_rfl) (by kernel_rfl) (e := Extern.AbiNoEscape.same) (by kernel_rfl)]
  rw [Lib.run_noEscape]
  simp only [Result.andThen]
  rw [Oper.upon_value]
  go_wp2
  rw [Lib.run_from_unsafe W ⟨b, 0, none⟩ u90 u38 hj hsh hlies]
  simp only [Result.andThen]
  rw [Oper.upon_value]
  go_wp2
  go_end0
  exact ⟨rfl, rfl⟩
theorem check_calls : PCalls Try.prog Θ 37 ⟨bldIn 43 5, [(.ret, bldOut 43 5)], fun x => some x⟩ :=
  bld_calls 43 5 (enters_of Try.func37 (by kernel_rfl) rfl) fun b v x y W hb => by
    refine (chk_walk b v x y W hb).mono ?_
    rintro e w' ⟨rfl, rfl⟩
    refine ⟨rfl, ?_⟩
    have hc : W.cell? ⟨b, 0, none⟩ = some (.pointer none) := by simp [World.cell?, hb]
    have hf : W.frozen? ⟨b, 0, none⟩ = false := by simp [World.frozen?, hb]
    have hst := run_store Try.prog W ⟨b, 0, none⟩ (.pointer (some ⟨b, 0, none⟩)) .plain rfl
    rw [hc] at hst
    simp only [hf] at hst
    have e0 : (⟨b, 0, none⟩ : Addr).add 0 = ⟨b, 0, none⟩ := by simp [Addr.add]
    simp [storeCells, e0, hst]
set_option maxHeartbeats 2000000 in
set_option maxRecDepth 100000 in
set_option linter.unusedVariables false in
theorem str_walk (b k n cap : Nat) (x y : Value) (cur : Array Value) (fz : Nat × Nat) (l : List UInt8) (W : World) (hb : W.heap[b]? = some (.cells #[.pointer (some ⟨b, 0, none⟩), .slice (some ⟨k, 0, none⟩) n cap, x, y] 43 (0, 0)))
    (hk : W.heap[k]? = some (.cells cur 5 fz)) (hne : b ≠ k) (h0 : l ≠ []) (hl : l.length = n) (hn : n ≤ cap) (hcm : cap ≤ maxLen) (hcs : cur.size = cap) (hc : ∀ (j : Nat) (c : UInt8), l[j]? = some c → cur[j]? = some (.int .u8 (c.toNat : Int))) :
    Calls Try.prog 15 #[.pointer (some ⟨b, 0, none⟩)] W fun e w' => e = .returned (.string ⟨l.toArray⟩) ∧ w' = W.drew.freeze ⟨k, 0, none⟩ n := by
  subst hl
  have hl0 : l.length ≠ 0 := by simpa using h0
  have c1 : W.drew.cell? ⟨b, 1, none⟩ = some (.slice (some ⟨k, 0, none⟩) l.length cap) := by
    have : W.drew.heap[b]? = some (.cells #[.pointer (some ⟨b, 0, none⟩), .slice (some ⟨k, 0, none⟩) l.length cap, x, y] 43 (0, 0)) := hb
    rw [Lib.cell_of_heap this]; rfl
  have hSD : (Builtin.unsafeSliceData_ #[39] 60 #[.slice (some ⟨k, 0, none⟩) l.length cap]).run Try.prog W.drew = .ok (.pointer (some ⟨k, 0, none⟩)) W.drew :=
    Lib.run_unsafeSliceData_row _ _ _ _ _ _ (by omega)
  have hUS : (Builtin.unsafeString_ #[60, 3] 9 #[.pointer (some ⟨k, 0, none⟩), .int .i64 l.length]).run Try.prog W.drew = .ok (.string ⟨l.toArray⟩) (W.drew.freeze ⟨k, 0, none⟩ l.length) := by
    refine Lib.run_unsafeString_row W.drew 60 3 9 5 (by kernel_rfl) (by kernel_rfl) k cur.size (by have hk' : W.drew.heap[k]? = some (.cells cur 5 fz) := hk; simp [World.shape?, hk']) l h0 (by omega) (by simp only [maxLen] at hcm; omega) ?_
    intro j c hj
    have hadd : (⟨k, 0, none⟩ : Addr).add j = ⟨k, j, none⟩ := by unfold Addr.add; split <;> simp_all
    rw [hadd]
    have hk' : W.drew.heap[k]? = some (.cells cur 5 fz) := hk
    simp only [World.cell?, hk']
    exact hc j c hj
  have mixed : Try.prog.follows .mixedOrders = true := by kernel_rfl
  go_enter Try.func15, Try.ntmps15
  go_wp2
  go_region_o
  all_goals (go_wp2; go_ret; exact ⟨rfl, rfl⟩)
theorem freeze_grown (W : World) (k n : Nat) : W.grownBy (W.drew.freeze ⟨k, 0, none⟩ n) (some k) := by
  unfold World.freeze
  split
  · exact ⟨rfl, rfl, rfl, Nat.le_refl _, fun _ _ _ => rfl⟩
  · refine ⟨rfl, rfl, rfl, by rw [Array.size_modify]; exact Nat.le_refl _, fun j hj hne => ?_⟩
    have : k ≠ j := fun e => hne (by rw [e])
    show (W.heap.modify k _)[j]? = W.heap[j]?
    rw [Array.getElem?_modify, if_neg this]
theorem string_calls : PCalls Try.prog Θ 15 ⟨bstrIn 43 5, [(.ret, bstrOut)], fun x => bstrF (fun y : Int => y) x⟩ :=
  bstr_calls (Θ := Θ) 43 5 (by kernel_rfl) (by kernel_rfl) (fun y : Int => y) (fun _ => rfl) (enters_of Try.func15 (by kernel_rfl) rfl) fun b k n cap x y cur fz l W hb hk hne h0 hl hn hcm hcs hc => by
    refine (str_walk b k n cap x y cur fz l W hb hk hne h0 hl hn hcm hcs hc).mono ?_
    rintro e w' ⟨rfl, rfl⟩
    exact ⟨rfl, freeze_grown W k n⟩
end Go.Proofs.Ytoafplpdjmiolaa.Fn
