/- Given contracts. -/
import Derived.Test.YtbcejiobmeglgaaTab
import Derived.WalkKit
import Derived.ProofKit
import Derived.Recover
import Derived.RecoverIn
import Derived.ControlIn
import Derived.Defers
import Derived.Laws.Pointers
import Derived.Shelf.RegionOpenPlain
namespace Go.Proofs.Ytbcejiobmeglgaa.Fn
open Go Go.RowKit Go.Den Go.Proofs
theorem two_cells {w : World} {b1 b2 : Nat} {x1 x2 : Value} {t1 t2 : TypeId} (y1 y2 : Value) (o : Obj) (h1 : w.heap[b1]? = some (.cells #[x1] t1 (0, 0))) (h2 : w.heap[b2]? = some (.cells #[x2] t2 (0, 0))) (hne : b1 ≠ b2) :
    ∀ w', w' = (((w.setCell ⟨b1, 0, none⟩ y1).setCell ⟨b2, 0, none⟩ y2).alloc o).drew → w'.os = w.os ∧ w'.tape = w.tape ∧ w'.output = w.output ∧ w.heap.size ≤ w'.heap.size ∧ w'.heap[b1]? = some (.cells #[y1] t1 (0, 0)) ∧ w'.heap[b2]? = some (.cells #[y2] t2 (0, 0)) ∧
      ∀ k, k < w.heap.size → ¬ k = b1 → ¬ k = b2 → w'.heap[k]? = w.heap[k]? := by
  rintro w' rfl
  have l1 : b1 < w.heap.size := (Array.getElem?_eq_some_iff.1 h1).1
  have l2 : b2 < w.heap.size := (Array.getElem?_eq_some_iff.1 h2).1
  have hh : ∀ k, k < w.heap.size → (((w.setCell ⟨b1, 0, none⟩ y1).setCell ⟨b2, 0, none⟩ y2).alloc o).drew.heap[k]? = ((w.setCell ⟨b1, 0, none⟩ y1).setCell ⟨b2, 0, none⟩ y2).heap[k]? := fun k hk => by
    show (((w.setCell ⟨b1, 0, none⟩ y1).setCell ⟨b2, 0, none⟩ y2).alloc o).heap[k]? = _
    exact Below.heap_alloc _ _ _ (by simpa [World.setCell] using hk)
  refine ⟨rfl, rfl, rfl, ?_, ?_, ?_, fun k hk e1 e2 => ?_⟩
  · show w.heap.size ≤ (((w.setCell ⟨b1, 0, none⟩ y1).setCell ⟨b2, 0, none⟩ y2).alloc o).heap.size
    simp [World.setCell]
  · rw [hh b1 l1]
    simp [World.setCell, Array.getElem?_modify, h1, hne.symm]
  · rw [hh b2 l2]
    simp [World.setCell, Array.getElem?_modify, h2, hne]
  · rw [hh k hk]
    have e1' : ¬ b1 = k := fun e => e1 e.symm
    have e2' : ¬ b2 = k := fun e => e2 e.symm
    simp [World.setCell, Array.getElem?_modify, e1', e2']
section
set_option maxHeartbeats 4000000
set_option maxRecDepth 100000
theorem clo_idle (m : Nat) (a b : Value) (w : World) : CallsDIn Fence.wide m Try.prog 22 #[a, b] .returning w fun e u' w' => e = .returned (.tuple #[]) ∧ u' = .returning ∧ w' = w := by
  refine callsDIn_of_wpSIn Try.func22 rfl trivial fun c₀ cs hu => ?_
  apply wpSIn_seq
  apply wpSIn_region
  simp [wpOpsSIn, Oper.about, go_sem, recoverD, hu, Try.ntmps22, Exit.thenS]
  refine wpSIn_of_wpIn rfl (wpIn_wide.2 ?_)
  go_wp2
  cases c₀
  simp_all [bodyPostS, results, Try.results22]
theorem as_stop (v : Value) (w : World) : (Instr.typeAssert (.iface 55 v) 20 55 true).run Try.prog w = .ok (.tuple #[v, .bool true]) w := by kernel_rfl
theorem clo_panic (m b1 b2 : Nat) (x1 x2 e1 e2 : Int) (w : World) (h1 : w.heap[b1]? = some (.cells #[.int .i64 x1] 29 (0, 0))) (h2 : w.heap[b2]? = some (.cells #[.int .i64 x2] 3 (0, 0))) (hne : b1 ≠ b2) :
    CallsDIn Fence.wide m Try.prog 22 #[.pointer (some ⟨b1, 0, none⟩), .pointer (some ⟨b2, 0, none⟩)] (.panicking [{ v := .iface 55 (.agg #[.int .i64 e1, .int .i64 e2]), recovered := false }]) w fun e u' w' =>
      e = .returned (.tuple #[]) ∧ u' = .panicking [{ v := .iface 55 (.agg #[.int .i64 e1, .int .i64 e2]), recovered := true }] ∧
      w'.os = w.os ∧ w'.tape = w.tape ∧ w'.output = w.output ∧ w.heap.size ≤ w'.heap.size ∧ w'.heap[b1]? = some (.cells #[.int .i64 e1] 29 (0, 0)) ∧ w'.heap[b2]? = some (.cells #[.int .i64 e2] 3 (0, 0)) ∧ ∀ k, k < w.heap.size → k ≠ b1 → k ≠ b2 → w'.heap[k]? = w.heap[k]? := by
  have mixed : Try.prog.follows .mixedOrders = true := by kernel_rfl
  refine callsDIn_of_wpSIn Try.func22 rfl trivial fun c₀ cs hu => ?_
  apply wpSIn_seq
  apply wpSIn_region
  simp [wpOpsSIn, Oper.about, go_sem, recoverD, hu, Try.ntmps22, Exit.thenS]
  refine wpSIn_of_wpIn rfl (wpIn_wide.2 ?_)
  have c1 : w.cell? ⟨b1, 0, none⟩ = some (.int .i64 x1) := by simp [World.cell?, h1]
  have f1 : w.frozen? ⟨b1, 0, none⟩ = false := by simp [World.frozen?, h1]
  have c2 : w.cell? ⟨b2, 0, none⟩ = some (.int .i64 x2) := by simp [World.cell?, h2]
  have f2 : w.frozen? ⟨b2, 0, none⟩ = false := by simp [World.frozen?, h2]
  have l1 : b1 < w.heap.size := (Array.getElem?_eq_some_iff.1 h1).1
  have l2 : b2 < w.heap.size := (Array.getElem?_eq_some_iff.1 h2).1
  go_wp2_with (first | simp only [as_stop])
  go_region_o
  all_goals
    (simp only [Exit.inBlock]
     refine ⟨rfl, _, rfl, .tuple #[], by simp [results, Try.results22, go_sem]; try rfl, rfl, rfl, two_cells _ _ _ h1 h2 hne _ rfl⟩)
def codeFst (fn : Func) : Code := match fn.body with
  | some (.seq a _) => a
  | _ => .skip
def codeSnd (fn : Func) : Code := match fn.body with
  | some (.seq _ (.seq b _)) => b
  | _ => .skip
def codeRest (fn : Func) : Code := match fn.body with
  | some (.seq _ (.seq _ c)) => c
  | _ => .skip
theorem chk_body : Try.f8.body = some (.seq (codeFst Try.f8) (.seq (codeSnd Try.f8) (codeRest Try.f8))) := by kernel_rfl
theorem chk_pre (X : Code) (us : Array Value) (W : World) (Q : Exit → Act → World → Prop) (_ : us.size = 9) (h : ∀ tm : Array Value, tm.size = 82 → tm.getD 1 undef = .pointer (some ⟨W.heap.size, 0, none⟩) → tm.getD 2 undef = .pointer (some ⟨W.heap.size + 1, 0, none⟩) → tm.getD 3 undef = .pointer (some ⟨W.heap.size + 2, 0, none⟩) → X.wp Try.prog Q ⟨tm, [recD 22 W.heap.size]⟩ (recW W 27 29 3 us)) :
    (Code.seq (codeFst Try.f8) (.seq (codeSnd Try.f8) X)).wp Try.prog Q ⟨#[.agg us] ++ Array.replicate (82 - 1) undef, []⟩ W := by
  have hmf : ∀ (fn : Fn) (first cap : Array Value) (w : World), (Instr.makeFunc fn first cap).run Try.prog w = .ok (.func fn first cap) w := fun _ _ _ _ => rfl
  refine wp_seq ?_
  unfold codeFst codeSnd
  simp only [Try.f8]
  go_wp2
  refine h _ (by simp) ?_ ?_ ?_ <;> simp [Array.getD_eq_getD_getElem?]
theorem chk_load (w : World) (tm : Array Value) (b1 b2 : Nat) (e a : Int) (h1 : tm.getD 2 undef = .pointer (some ⟨b1, 0, none⟩)) (h2 : tm.getD 3 undef = .pointer (some ⟨b2, 0, none⟩)) (h3 : w.heap[b1]? = some (.cells #[.int .i64 e] 29 (0, 0))) (h4 : w.heap[b2]? = some (.cells #[.int .i64 a] 3 (0, 0))) :
    (results Try.f8 tm).run Try.prog w = .ok (.tuple #[.int .i64 e, .int .i64 a]) w := by
  have c1 : w.cell? ⟨b1, 0, none⟩ = some (.int .i64 e) := by simp [World.cell?, h3]
  have c2 : w.cell? ⟨b2, 0, none⟩ = some (.int .i64 a) := by simp [World.cell?, h4]
  have h1' : tm[2]?.getD undef = .pointer (some ⟨b1, 0, none⟩) := by rw [← Array.getD_eq_getD_getElem?]; exact h1
  have h2' : tm[3]?.getD undef = .pointer (some ⟨b2, 0, none⟩) := by rw [← Array.getD_eq_getD_getElem?]; exact h2
  simp [results, Try.results8, go_sem, h1', h2', c1, c2]
end
end Go.Proofs.Ytbcejiobmeglgaa.Fn
