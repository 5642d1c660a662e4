/- The types of this program, as Lean's. -/
import Derived.Test.YtiildimlelphhaaGreatDoorLibE
import Derived.Test.YtiildimlelphhaaGreatDoorProg
namespace Go.Proofs.YtiildimlelphhaaGreatDoor.Fn
set_option maxRecDepth 100000
open Go Go.RowKit Go.Den
noncomputable def tys : List (Nat × Ent) := [(23, ⟨Int × Int, (0, 0)⟩),
  (76, ⟨Int, (0)⟩),
  (89, ⟨List (Int), ([])⟩),
  (128, ⟨Int × Int, (0, 0)⟩),
  (215, ⟨Int × Int × Int × Int, (0, 0, 0, 0)⟩)]
abbrev T (e : TypeId) : Type := (lookT tys e).A
noncomputable def Θ : Tab := ⟨T, lookE tys [⟨23, ⟨[.int .i64, .int .i64], fun (x : Int × Int) => x, fun (x : Int × Int) => x, fun _ => rfl, ((0, 0) : Int × Int)⟩⟩,
  ⟨76, ⟨[.int .u64], fun (x : Int) => x, fun (x : Int) => x, fun _ => rfl, ((0) : Int)⟩⟩,
  ⟨89, ⟨[.sl 76], fun (x : List (Int)) => x, fun (x : List (Int)) => x, fun _ => rfl, (([]) : List (Int))⟩⟩,
  ⟨128, ⟨[.int .i64, .int .i64], fun (x : Int × Int) => x, fun (x : Int × Int) => x, fun _ => rfl, ((0, 0) : Int × Int)⟩⟩,
  ⟨215, ⟨[.int .i32, .int .i32, .int .i32, .int .i32], fun (x : Int × Int × Int × Int) => x, fun (x : Int × Int × Int × Int) => x, fun _ => rfl, ((0, 0, 0, 0) : Int × Int × Int × Int)⟩⟩], fun y => if y = 690 then some (rng Go.Proofs.Tryz.f69 0 [5]) else none, [], [(1, Lib.deBruijn64tab.map fun (n : Nat) => Value.int .u8 (n : Int))]⟩
theorem mixed : Go.Proofs.Tryz.prog.follows .mixedOrders = true := by kernel_rfl
theorem eq33 : EqT Go.Proofs.Tryz.prog 33 := eqT_of (by kernel_rfl) (by kernel_rfl) (by kernel_rfl) (by kernel_rfl)
theorem eq23 : EqT Go.Proofs.Tryz.prog 23 := eqT_of (by kernel_rfl) (by kernel_rfl) (by kernel_rfl) (by kernel_rfl)
theorem eq78 : EqT Go.Proofs.Tryz.prog 78 := eqT_of (by kernel_rfl) (by kernel_rfl) (by kernel_rfl) (by kernel_rfl)
theorem eq128 : EqT Go.Proofs.Tryz.prog 128 := eqT_of (by kernel_rfl) (by kernel_rfl) (by kernel_rfl) (by kernel_rfl)
theorem eq163 : EqT Go.Proofs.Tryz.prog 163 := eqT_of (by kernel_rfl) (by kernel_rfl) (by kernel_rfl) (by kernel_rfl)
theorem eqsOk : ∀ t ∈ ([33, 23, 78, 128, 163] : List TypeId), EqT Go.Proofs.Tryz.prog t := by
  intro t h
  simp only [List.mem_cons, List.not_mem_nil, or_false] at h
  rcases h with rfl | rfl | rfl | rfl | rfl
  · exact eq33
  · exact eq23
  · exact eq78
  · exact eq128
  · exact eq163
end Go.Proofs.YtiildimlelphhaaGreatDoor.Fn
