/- The types of this program, as Lean's. -/
import Derived.Test.YtakkhnoelnpfdaaGreatLibE
import Derived.Test.YtakkhnoelnpfdaaGreatProg
namespace Go.Proofs.YtakkhnoelnpfdaaGreat.Fn
set_option maxRecDepth 100000
open Go Go.RowKit Go.Den
noncomputable def tys : List (Nat × Ent) := [(2, ⟨Int, (0)⟩),
  (3, ⟨Int, (0)⟩),
  (4, ⟨Bool, (false)⟩),
  (9, ⟨ByteArray, (ByteArray.empty)⟩),
  (28, ⟨ByteArray × List (ByteArray × Int × Int × Int × Int × Int × Int × Int × Int × Int × Int) × List (ByteArray × ByteArray × Int × Int × Int × Int) × List (ByteArray × List (ByteArray) × Int) × List (List (Bool × List (ByteArray))) × List (ByteArray × ByteArray × Int) × Int, (ByteArray.empty, [], [], [], [], [], 0)⟩),
  (33, ⟨ByteArray × Int × List (List (List (ByteArray × Int × Int × Int × List (ByteArray × Int × Int)))) × Int × Int, (ByteArray.empty, 0, [], 0, 0)⟩),
  (57, ⟨Int × Int, (0, 0)⟩),
  (59, ⟨ByteArray × Int × Int × Int × Int, (ByteArray.empty, 0, 0, 0, 0)⟩),
  (62, ⟨ByteArray × Int × Int × Int × List (ByteArray × Int × Int), (ByteArray.empty, 0, 0, 0, [])⟩),
  (66, ⟨ByteArray × ByteArray × Int × Int × Int × Int, (ByteArray.empty, ByteArray.empty, 0, 0, 0, 0)⟩),
  (72, ⟨ByteArray × Int × Int × Int × Int × Int × Int × Int × Int × Int × Int, (ByteArray.empty, 0, 0, 0, 0, 0, 0, 0, 0, 0, 0)⟩),
  (82, ⟨List (ByteArray × Int × Int × Int × List (ByteArray × Int × Int)), ([])⟩),
  (85, ⟨List (List (ByteArray × Int × Int × Int × List (ByteArray × Int × Int))), ([])⟩),
  (111, ⟨ByteArray × List (ByteArray) × Int, (ByteArray.empty, [], 0)⟩),
  (121, ⟨ByteArray × ByteArray × ByteArray × Int × Int × Int, (ByteArray.empty, ByteArray.empty, ByteArray.empty, 0, 0, 0)⟩),
  (125, ⟨List (Bool × List (ByteArray)), ([])⟩),
  (127, ⟨Bool × List (ByteArray), (false, [])⟩),
  (133, ⟨ByteArray × Int × Int, (ByteArray.empty, 0, 0)⟩),
  (139, ⟨Int × Int × List (ByteArray × Int × Int × Int × List (ByteArray × Int × Int)), (0, 0, [])⟩),
  (163, ⟨ByteArray × ByteArray × Int, (ByteArray.empty, ByteArray.empty, 0)⟩),
  (191, ⟨Int × Int, (0, 0)⟩),
  (1000209, ⟨ByteArray × ByteArray × Int × Int × Int × Int, (ByteArray.empty, ByteArray.empty, 0, 0, 0, 0)⟩)]
abbrev T (e : TypeId) : Type := (lookT tys e).A
noncomputable def Θ : Tab := ⟨T, lookE tys [⟨2, ⟨[.int .i64], fun (x : Int) => x, fun (x : Int) => x, fun _ => rfl, ((0) : Int)⟩⟩,
  ⟨3, ⟨[.int .i64], fun (x : Int) => x, fun (x : Int) => x, fun _ => rfl, ((0) : Int)⟩⟩,
  ⟨4, ⟨[.bool], fun (x : Bool) => x, fun (x : Bool) => x, fun _ => rfl, ((false) : Bool)⟩⟩,
  ⟨9, ⟨[.str], fun (x : ByteArray) => x, fun (x : ByteArray) => x, fun _ => rfl, ((ByteArray.empty) : ByteArray)⟩⟩,
  ⟨28, ⟨[.str, .sl 72, .sl 66, .sl 111, .sl 125, .sl 163, .int .i64], fun (x : ByteArray × List (ByteArray × Int × Int × Int × Int × Int × Int × Int × Int × Int × Int) × List (ByteArray × ByteArray × Int × Int × Int × Int) × List (ByteArray × List (ByteArray) × Int) × List (List (Bool × List (ByteArray))) × List (ByteArray × ByteArray × Int) × Int) => x, fun (x : ByteArray × List (ByteArray × Int × Int × Int × Int × Int × Int × Int × Int × Int × Int) × List (ByteArray × ByteArray × Int × Int × Int × Int) × List (ByteArray × List (ByteArray) × Int) × List (List (Bool × List (ByteArray))) × List (ByteArray × ByteArray × Int) × Int) => x, fun _ => rfl, ((ByteArray.empty, [], [], [], [], [], 0) : ByteArray × List (ByteArray × Int × Int × Int × Int × Int × Int × Int × Int × Int × Int) × List (ByteArray × ByteArray × Int × Int × Int × Int) × List (ByteArray × List (ByteArray) × Int) × List (List (Bool × List (ByteArray))) × List (ByteArray × ByteArray × Int) × Int)⟩⟩,
  ⟨33, ⟨[.str, .int .i64, .sl 85, .int .i64, .int .i64], fun (x : ByteArray × Int × List (List (List (ByteArray × Int × Int × Int × List (ByteArray × Int × Int)))) × Int × Int) => x, fun (x : ByteArray × Int × List (List (List (ByteArray × Int × Int × Int × List (ByteArray × Int × Int)))) × Int × Int) => x, fun _ => rfl, ((ByteArray.empty, 0, [], 0, 0) : ByteArray × Int × List (List (List (ByteArray × Int × Int × Int × List (ByteArray × Int × Int)))) × Int × Int)⟩⟩,
  ⟨57, ⟨[.int .i64, .int .i64], fun (x : Int × Int) => x, fun (x : Int × Int) => x, fun _ => rfl, ((0, 0) : Int × Int)⟩⟩,
  ⟨59, ⟨[.str, .int .i64, .int .i64, .int .i64, .int .i64], fun (x : ByteArray × Int × Int × Int × Int) => x, fun (x : ByteArray × Int × Int × Int × Int) => x, fun _ => rfl, ((ByteArray.empty, 0, 0, 0, 0) : ByteArray × Int × Int × Int × Int)⟩⟩,
  ⟨62, ⟨[.str, .int .i64, .int .i64, .int .i64, .sl 133], fun (x : ByteArray × Int × Int × Int × List (ByteArray × Int × Int)) => x, fun (x : ByteArray × Int × Int × Int × List (ByteArray × Int × Int)) => x, fun _ => rfl, ((ByteArray.empty, 0, 0, 0, []) : ByteArray × Int × Int × Int × List (ByteArray × Int × Int))⟩⟩,
  ⟨66, ⟨[.str, .str, .int .i64, .int .i64, .int .i64, .int .i64], fun (x : ByteArray × ByteArray × Int × Int × Int × Int) => x, fun (x : ByteArray × ByteArray × Int × Int × Int × Int) => x, fun _ => rfl, ((ByteArray.empty, ByteArray.empty, 0, 0, 0, 0) : ByteArray × ByteArray × Int × Int × Int × Int)⟩⟩,
  ⟨72, ⟨[.str, .int .i64, .int .i64, .int .i64, .int .i64, .int .i64, .int .i64, .int .i64, .int .i64, .int .i64, .int .i64], fun (x : ByteArray × Int × Int × Int × Int × Int × Int × Int × Int × Int × Int) => x, fun (x : ByteArray × Int × Int × Int × Int × Int × Int × Int × Int × Int × Int) => x, fun _ => rfl, ((ByteArray.empty, 0, 0, 0, 0, 0, 0, 0, 0, 0, 0) : ByteArray × Int × Int × Int × Int × Int × Int × Int × Int × Int × Int)⟩⟩,
  ⟨82, ⟨[.sl 62], fun (x : List (ByteArray × Int × Int × Int × List (ByteArray × Int × Int))) => x, fun (x : List (ByteArray × Int × Int × Int × List (ByteArray × Int × Int))) => x, fun _ => rfl, (([]) : List (ByteArray × Int × Int × Int × List (ByteArray × Int × Int)))⟩⟩,
  ⟨85, ⟨[.sl 82], fun (x : List (List (ByteArray × Int × Int × Int × List (ByteArray × Int × Int)))) => x, fun (x : List (List (ByteArray × Int × Int × Int × List (ByteArray × Int × Int)))) => x, fun _ => rfl, (([]) : List (List (ByteArray × Int × Int × Int × List (ByteArray × Int × Int))))⟩⟩,
  ⟨111, ⟨[.str, .sl 9, .int .i64], fun (x : ByteArray × List (ByteArray) × Int) => x, fun (x : ByteArray × List (ByteArray) × Int) => x, fun _ => rfl, ((ByteArray.empty, [], 0) : ByteArray × List (ByteArray) × Int)⟩⟩,
  ⟨121, ⟨[.str, .str, .str, .int .i64, .int .i64, .int .i64], fun (x : ByteArray × ByteArray × ByteArray × Int × Int × Int) => x, fun (x : ByteArray × ByteArray × ByteArray × Int × Int × Int) => x, fun _ => rfl, ((ByteArray.empty, ByteArray.empty, ByteArray.empty, 0, 0, 0) : ByteArray × ByteArray × ByteArray × Int × Int × Int)⟩⟩,
  ⟨125, ⟨[.sl 127], fun (x : List (Bool × List (ByteArray))) => x, fun (x : List (Bool × List (ByteArray))) => x, fun _ => rfl, (([]) : List (Bool × List (ByteArray)))⟩⟩,
  ⟨127, ⟨[.bool, .sl 9], fun (x : Bool × List (ByteArray)) => x, fun (x : Bool × List (ByteArray)) => x, fun _ => rfl, ((false, []) : Bool × List (ByteArray))⟩⟩,
  ⟨133, ⟨[.str, .int .i64, .int .i64], fun (x : ByteArray × Int × Int) => x, fun (x : ByteArray × Int × Int) => x, fun _ => rfl, ((ByteArray.empty, 0, 0) : ByteArray × Int × Int)⟩⟩,
  ⟨139, ⟨[.int .i64, .int .i64, .sl 62], fun (x : Int × Int × List (ByteArray × Int × Int × Int × List (ByteArray × Int × Int))) => x, fun (x : Int × Int × List (ByteArray × Int × Int × Int × List (ByteArray × Int × Int))) => x, fun _ => rfl, ((0, 0, []) : Int × Int × List (ByteArray × Int × Int × Int × List (ByteArray × Int × Int)))⟩⟩,
  ⟨163, ⟨[.str, .str, .int .i64], fun (x : ByteArray × ByteArray × Int) => x, fun (x : ByteArray × ByteArray × Int) => x, fun _ => rfl, ((ByteArray.empty, ByteArray.empty, 0) : ByteArray × ByteArray × Int)⟩⟩,
  ⟨191, ⟨[.int .i64, .int .i64], fun (x : Int × Int) => x, fun (x : Int × Int) => x, fun _ => rfl, ((0, 0) : Int × Int)⟩⟩,
  ⟨1000209, ⟨[.str, .str, .int .i64, .int .i64, .int .i64, .int .i64], fun (x : ByteArray × ByteArray × Int × Int × Int × Int) => x, fun (x : ByteArray × ByteArray × Int × Int × Int × Int) => x, fun _ => rfl, ((ByteArray.empty, ByteArray.empty, 0, 0, 0, 0) : ByteArray × ByteArray × Int × Int × Int × Int)⟩⟩], fun y => if y = 100 then some (rng Go.Proofs.Tryz.f10 0 [6, 7]) else if y = 1100 then some (rng Go.Proofs.Tryz.f110 0 [5]) else none, [4000087, 6100087]⟩
theorem mixed : Go.Proofs.Tryz.prog.follows .mixedOrders = true := by kernel_rfl
theorem eq191 : EqT Go.Proofs.Tryz.prog 191 := eqT_of (by kernel_rfl) (by kernel_rfl) (by kernel_rfl) (by kernel_rfl)
theorem eq57 : EqT Go.Proofs.Tryz.prog 57 := eqT_of (by kernel_rfl) (by kernel_rfl) (by kernel_rfl) (by kernel_rfl)
theorem eqsOk : ∀ t ∈ ([191, 57] : List TypeId), EqT Go.Proofs.Tryz.prog t := by
  intro t h
  simp only [List.mem_cons, List.not_mem_nil, or_false] at h
  rcases h with rfl | rfl
  · exact eq191
  · exact eq57
end Go.Proofs.YtakkhnoelnpfdaaGreat.Fn
