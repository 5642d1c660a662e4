/- The types of this program, as Lean's. -/
import Derived.Test.YtoafplpdjmiolaaLibE
import Derived.Test.YtoafplpdjmiolaaProg
namespace Go.Proofs.Ytoafplpdjmiolaa.Fn
set_option maxRecDepth 100000
open Go Go.RowKit Go.Den
noncomputable def tys : List (Nat × Ent) := [(2, ⟨Int, (0)⟩),
  (4, ⟨Bool, (false)⟩),
  (5, ⟨Int, (0)⟩),
  (24, ⟨Int × Int, (0, 0)⟩),
  (82, ⟨Int × Int, (0, 0)⟩)]
abbrev T (e : TypeId) : Type := (lookT tys e).A
noncomputable def Θ : Tab := ⟨T, lookE tys [⟨2, ⟨[.int .i64], fun (x : Int) => x, fun (x : Int) => x, fun _ => rfl, ((0) : Int)⟩⟩,
  ⟨4, ⟨[.bool], fun (x : Bool) => x, fun (x : Bool) => x, fun _ => rfl, ((false) : Bool)⟩⟩,
  ⟨5, ⟨[.int .u8], fun (x : Int) => x, fun (x : Int) => x, fun _ => rfl, ((0) : Int)⟩⟩,
  ⟨24, ⟨[.int .i64, .int .i64], fun (x : Int × Int) => x, fun (x : Int × Int) => x, fun _ => rfl, ((0, 0) : Int × Int)⟩⟩,
  ⟨82, ⟨[.int .i64, .int .i64], fun (x : Int × Int) => x, fun (x : Int × Int) => x, fun _ => rfl, ((0, 0) : Int × Int)⟩⟩], fun y => if y = 350 then some (rng Go.Proofs.Try.f35 0 [5]) else none, [2500039, 2550039], []⟩
theorem mixed : Go.Proofs.Try.prog.follows .mixedOrders = true := by kernel_rfl
theorem eq24 : EqT Go.Proofs.Try.prog 24 := eqT_of (by kernel_rfl) (by kernel_rfl) (by kernel_rfl) (by kernel_rfl)
theorem eq82 : EqT Go.Proofs.Try.prog 82 := eqT_of (by kernel_rfl) (by kernel_rfl) (by kernel_rfl) (by kernel_rfl)
theorem eqsOk : ∀ t ∈ ([24, 82] : List TypeId), EqT Go.Proofs.Try.prog t := by
  intro t h
  simp only [List.mem_cons, List.not_mem_nil, or_false] at h
  rcases h with rfl | rfl
  · exact eq24
  · exact eq82
end Go.Proofs.Ytoafplpdjmiolaa.Fn
