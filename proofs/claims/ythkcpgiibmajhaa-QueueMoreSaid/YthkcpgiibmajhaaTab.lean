/- The types of this program, as Lean's. -/
import Derived.Test.YthkcpgiibmajhaaDenP
import Derived.Test.YthkcpgiibmajhaaProg
namespace Go.Proofs.Ythkcpgiibmajhaa.Fn
open Go Go.RowKit Go.Den
noncomputable def tys : List (Nat × Ent) := [(4, ⟨Bool, (false)⟩),
  (23, ⟨Int × Int, (0, 0)⟩)]
abbrev T (e : TypeId) : Type := (lookT tys e).A
noncomputable def Θ : Tab := ⟨T, lookE tys [⟨4, ⟨[.bool], fun (x : Bool) => x, fun (x : Bool) => x, fun _ => rfl, ((false) : Bool)⟩⟩,
  ⟨23, ⟨[.int .i64, .int .i64], fun (x : Int × Int) => x, fun (x : Int × Int) => x, fun _ => rfl, ((0, 0) : Int × Int)⟩⟩]⟩theorem mixed : Go.Proofs.Try.prog.follows .mixedOrders = true := by kernel_rfl
theorem eqsOk : ∀ t ∈ ([] : List TypeId), EqT Go.Proofs.Try.prog t := fun t h => by cases h
end Go.Proofs.Ythkcpgiibmajhaa.Fn
