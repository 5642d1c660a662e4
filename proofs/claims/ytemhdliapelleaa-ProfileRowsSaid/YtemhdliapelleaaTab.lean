/- The types of this program, as Lean's. -/
import Derived.Test.YtemhdliapelleaaDenAE
import Derived.Test.YtemhdliapelleaaDenAC
import Derived.Test.YtemhdliapelleaaDenAD
import Derived.Test.YtemhdliapelleaaProg
namespace Go.Proofs.Ytemhdliapelleaa.Fn
set_option maxRecDepth 100000
open Go Go.RowKit Go.Den
noncomputable def tys : List (Nat × Ent) := [(2, ⟨Int, (0)⟩),
  (4, ⟨Bool, (false)⟩),
  (23, ⟨Int × Int, (0, 0)⟩),
  (31, ⟨List (Int × Int), ([])⟩),
  (68, ⟨Int × Int, (0, 0)⟩)]
abbrev T (e : TypeId) : Type := (lookT tys e).A
noncomputable def Θ : Tab := ⟨T, lookE tys [⟨2, ⟨[.int .i64], fun (x : Int) => x, fun (x : Int) => x, fun _ => rfl, ((0) : Int)⟩⟩,
  ⟨4, ⟨[.bool], fun (x : Bool) => x, fun (x : Bool) => x, fun _ => rfl, ((false) : Bool)⟩⟩,
  ⟨23, ⟨[.int .i64, .int .i64], fun (x : Int × Int) => x, fun (x : Int × Int) => x, fun _ => rfl, ((0, 0) : Int × Int)⟩⟩,
  ⟨31, ⟨[.sl 23], fun (x : List (Int × Int)) => x, fun (x : List (Int × Int)) => x, fun _ => rfl, (([]) : List (Int × Int))⟩⟩,
  ⟨68, ⟨[.int .i64, .int .i64], fun (x : Int × Int) => x, fun (x : Int × Int) => x, fun _ => rfl, ((0, 0) : Int × Int)⟩⟩], fun y => if y = 540 then some (rng Go.Proofs.Try.f54 0 [5]) else none⟩
theorem mixed : Go.Proofs.Try.prog.follows .mixedOrders = true := by kernel_rfl
theorem eq23 : EqT Go.Proofs.Try.prog 23 := eqT_of (by kernel_rfl) (by kernel_rfl) (by kernel_rfl) (by kernel_rfl)
theorem eq68 : EqT Go.Proofs.Try.prog 68 := eqT_of (by kernel_rfl) (by kernel_rfl) (by kernel_rfl) (by kernel_rfl)
theorem eqsOk : ∀ t ∈ ([23, 68] : List TypeId), EqT Go.Proofs.Try.prog t := by
  intro t h
  simp only [List.mem_cons, List.not_mem_nil, or_false] at h
  rcases h with rfl | rfl
  · exact eq23
  · exact eq68
end Go.Proofs.Ytemhdliapelleaa.Fn
