/- The types of this program, as Lean's. -/
import Derived.Test.YtakkhnoelnpfdaaLibE
import Derived.Test.YtakkhnoelnpfdaaProg
namespace Go.Proofs.Ytakkhnoelnpfdaa.Fn
set_option maxRecDepth 100000
open Go Go.RowKit Go.Den
noncomputable def tys : List (Nat × Ent) := [(2, ⟨Int, (0)⟩),
  (3, ⟨Int, (0)⟩),
  (4, ⟨Bool, (false)⟩),
  (5, ⟨Int, (0)⟩),
  (9, ⟨ByteArray, (ByteArray.empty)⟩),
  (39, ⟨ByteArray × List (ByteArray × Int × Int × Int × Int × Int × Int × Int × Int × Int × Int) × List (ByteArray × ByteArray × Int × Int × Int × Int) × List (ByteArray × List (ByteArray) × Int) × List (List (Bool × List (ByteArray))) × List (ByteArray × ByteArray × Int) × Int, (ByteArray.empty, [], [], [], [], [], 0)⟩),
  (42, ⟨ByteArray × List (ByteArray) × Int, (ByteArray.empty, [], 0)⟩),
  (44, ⟨ByteArray × Int × Int × Int × Int × Int × Int × Int × Int × Int × Int, (ByteArray.empty, 0, 0, 0, 0, 0, 0, 0, 0, 0, 0)⟩),
  (47, ⟨ByteArray × ByteArray × Int, (ByteArray.empty, ByteArray.empty, 0)⟩),
  (52, ⟨ByteArray × Int × List (List (List (ByteArray × Int × Int × Int × List (ByteArray × Int × Int)))) × Int × Int, (ByteArray.empty, 0, [], 0, 0)⟩),
  (71, ⟨List (List (ByteArray × Int × Int × Int × List (ByteArray × Int × Int))), ([])⟩),
  (74, ⟨Int × Int, (0, 0)⟩),
  (76, ⟨ByteArray × Int × Int × Int × Int, (ByteArray.empty, 0, 0, 0, 0)⟩),
  (89, ⟨ByteArray × ByteArray × ByteArray × Int × Int × Int, (ByteArray.empty, ByteArray.empty, ByteArray.empty, 0, 0, 0)⟩),
  (103, ⟨List (Bool × List (ByteArray)), ([])⟩),
  (105, ⟨Bool × List (ByteArray), (false, [])⟩),
  (121, ⟨ByteArray × Int × Int × Int × List (ByteArray × Int × Int), (ByteArray.empty, 0, 0, 0, [])⟩),
  (122, ⟨List (ByteArray × Int × Int × Int × List (ByteArray × Int × Int)), ([])⟩),
  (135, ⟨Int × Int × List (ByteArray × Int × Int × Int × List (ByteArray × Int × Int)), (0, 0, [])⟩),
  (138, ⟨ByteArray × ByteArray × Int × Int × Int × Int, (ByteArray.empty, ByteArray.empty, 0, 0, 0, 0)⟩),
  (143, ⟨ByteArray × Int × Int, (ByteArray.empty, 0, 0)⟩),
  (208, ⟨Int × ByteArray × Int × Int, (0, ByteArray.empty, 0, 0)⟩),
  (219, ⟨Int × Int, (0, 0)⟩),
  (1000188, ⟨ByteArray × Bool, (ByteArray.empty, false)⟩),
  (1000305, ⟨ByteArray × ByteArray × Int × Int × Int × Int, (ByteArray.empty, ByteArray.empty, 0, 0, 0, 0)⟩),
  (1000330, ⟨ByteArray × Int, (ByteArray.empty, 0)⟩)]
abbrev T (e : TypeId) : Type := (lookT tys e).A
noncomputable def Θ : Tab := ⟨T, lookE tys [⟨2, ⟨[.int .i64], fun (x : Int) => x, fun (x : Int) => x, fun _ => rfl, ((0) : Int)⟩⟩,
  ⟨3, ⟨[.int .i64], fun (x : Int) => x, fun (x : Int) => x, fun _ => rfl, ((0) : Int)⟩⟩,
  ⟨4, ⟨[.bool], fun (x : Bool) => x, fun (x : Bool) => x, fun _ => rfl, ((false) : Bool)⟩⟩,
  ⟨5, ⟨[.int .u8], fun (x : Int) => x, fun (x : Int) => x, fun _ => rfl, ((0) : Int)⟩⟩,
  ⟨9, ⟨[.str], fun (x : ByteArray) => x, fun (x : ByteArray) => x, fun _ => rfl, ((ByteArray.empty) : ByteArray)⟩⟩,
  ⟨39, ⟨[.str, .sl 44, .sl 138, .sl 42, .sl 103, .sl 47, .int .i64], fun (x : ByteArray × List (ByteArray × Int × Int × Int × Int × Int × Int × Int × Int × Int × Int) × List (ByteArray × ByteArray × Int × Int × Int × Int) × List (ByteArray × List (ByteArray) × Int) × List (List (Bool × List (ByteArray))) × List (ByteArray × ByteArray × Int) × Int) => x, fun (x : ByteArray × List (ByteArray × Int × Int × Int × Int × Int × Int × Int × Int × Int × Int) × List (ByteArray × ByteArray × Int × Int × Int × Int) × List (ByteArray × List (ByteArray) × Int) × List (List (Bool × List (ByteArray))) × List (ByteArray × ByteArray × Int) × Int) => x, fun _ => rfl, ((ByteArray.empty, [], [], [], [], [], 0) : ByteArray × List (ByteArray × Int × Int × Int × Int × Int × Int × Int × Int × Int × Int) × List (ByteArray × ByteArray × Int × Int × Int × Int) × List (ByteArray × List (ByteArray) × Int) × List (List (Bool × List (ByteArray))) × List (ByteArray × ByteArray × Int) × Int)⟩⟩,
  ⟨42, ⟨[.str, .sl 9, .int .i64], fun (x : ByteArray × List (ByteArray) × Int) => x, fun (x : ByteArray × List (ByteArray) × Int) => x, fun _ => rfl, ((ByteArray.empty, [], 0) : ByteArray × List (ByteArray) × Int)⟩⟩,
  ⟨44, ⟨[.str, .int .i64, .int .i64, .int .i64, .int .i64, .int .i64, .int .i64, .int .i64, .int .i64, .int .i64, .int .i64], fun (x : ByteArray × Int × Int × Int × Int × Int × Int × Int × Int × Int × Int) => x, fun (x : ByteArray × Int × Int × Int × Int × Int × Int × Int × Int × Int × Int) => x, fun _ => rfl, ((ByteArray.empty, 0, 0, 0, 0, 0, 0, 0, 0, 0, 0) : ByteArray × Int × Int × Int × Int × Int × Int × Int × Int × Int × Int)⟩⟩,
  ⟨47, ⟨[.str, .str, .int .i64], fun (x : ByteArray × ByteArray × Int) => x, fun (x : ByteArray × ByteArray × Int) => x, fun _ => rfl, ((ByteArray.empty, ByteArray.empty, 0) : ByteArray × ByteArray × Int)⟩⟩,
  ⟨52, ⟨[.str, .int .i64, .sl 71, .int .i64, .int .i64], fun (x : ByteArray × Int × List (List (List (ByteArray × Int × Int × Int × List (ByteArray × Int × Int)))) × Int × Int) => x, fun (x : ByteArray × Int × List (List (List (ByteArray × Int × Int × Int × List (ByteArray × Int × Int)))) × Int × Int) => x, fun _ => rfl, ((ByteArray.empty, 0, [], 0, 0) : ByteArray × Int × List (List (List (ByteArray × Int × Int × Int × List (ByteArray × Int × Int)))) × Int × Int)⟩⟩,
  ⟨71, ⟨[.sl 122], fun (x : List (List (ByteArray × Int × Int × Int × List (ByteArray × Int × Int)))) => x, fun (x : List (List (ByteArray × Int × Int × Int × List (ByteArray × Int × Int)))) => x, fun _ => rfl, (([]) : List (List (ByteArray × Int × Int × Int × List (ByteArray × Int × Int))))⟩⟩,
  ⟨74, ⟨[.int .i64, .int .i64], fun (x : Int × Int) => x, fun (x : Int × Int) => x, fun _ => rfl, ((0, 0) : Int × Int)⟩⟩,
  ⟨76, ⟨[.str, .int .i64, .int .i64, .int .i64, .int .i64], fun (x : ByteArray × Int × Int × Int × Int) => x, fun (x : ByteArray × Int × Int × Int × Int) => x, fun _ => rfl, ((ByteArray.empty, 0, 0, 0, 0) : ByteArray × Int × Int × Int × Int)⟩⟩,
  ⟨89, ⟨[.str, .str, .str, .int .i64, .int .i64, .int .i64], fun (x : ByteArray × ByteArray × ByteArray × Int × Int × Int) => x, fun (x : ByteArray × ByteArray × ByteArray × Int × Int × Int) => x, fun _ => rfl, ((ByteArray.empty, ByteArray.empty, ByteArray.empty, 0, 0, 0) : ByteArray × ByteArray × ByteArray × Int × Int × Int)⟩⟩,
  ⟨103, ⟨[.sl 105], fun (x : List (Bool × List (ByteArray))) => x, fun (x : List (Bool × List (ByteArray))) => x, fun _ => rfl, (([]) : List (Bool × List (ByteArray)))⟩⟩,
  ⟨105, ⟨[.bool, .sl 9], fun (x : Bool × List (ByteArray)) => x, fun (x : Bool × List (ByteArray)) => x, fun _ => rfl, ((false, []) : Bool × List (ByteArray))⟩⟩,
  ⟨121, ⟨[.str, .int .i64, .int .i64, .int .i64, .sl 143], fun (x : ByteArray × Int × Int × Int × List (ByteArray × Int × Int)) => x, fun (x : ByteArray × Int × Int × Int × List (ByteArray × Int × Int)) => x, fun _ => rfl, ((ByteArray.empty, 0, 0, 0, []) : ByteArray × Int × Int × Int × List (ByteArray × Int × Int))⟩⟩,
  ⟨122, ⟨[.sl 121], fun (x : List (ByteArray × Int × Int × Int × List (ByteArray × Int × Int))) => x, fun (x : List (ByteArray × Int × Int × Int × List (ByteArray × Int × Int))) => x, fun _ => rfl, (([]) : List (ByteArray × Int × Int × Int × List (ByteArray × Int × Int)))⟩⟩,
  ⟨135, ⟨[.int .i64, .int .i64, .sl 121], fun (x : Int × Int × List (ByteArray × Int × Int × Int × List (ByteArray × Int × Int))) => x, fun (x : Int × Int × List (ByteArray × Int × Int × Int × List (ByteArray × Int × Int))) => x, fun _ => rfl, ((0, 0, []) : Int × Int × List (ByteArray × Int × Int × Int × List (ByteArray × Int × Int)))⟩⟩,
  ⟨138, ⟨[.str, .str, .int .i64, .int .i64, .int .i64, .int .i64], fun (x : ByteArray × ByteArray × Int × Int × Int × Int) => x, fun (x : ByteArray × ByteArray × Int × Int × Int × Int) => x, fun _ => rfl, ((ByteArray.empty, ByteArray.empty, 0, 0, 0, 0) : ByteArray × ByteArray × Int × Int × Int × Int)⟩⟩,
  ⟨143, ⟨[.str, .int .i64, .int .i64], fun (x : ByteArray × Int × Int) => x, fun (x : ByteArray × Int × Int) => x, fun _ => rfl, ((ByteArray.empty, 0, 0) : ByteArray × Int × Int)⟩⟩,
  ⟨208, ⟨[.int .i64, .str, .int .i64, .int .i64], fun (x : Int × ByteArray × Int × Int) => x, fun (x : Int × ByteArray × Int × Int) => x, fun _ => rfl, ((0, ByteArray.empty, 0, 0) : Int × ByteArray × Int × Int)⟩⟩,
  ⟨219, ⟨[.int .i64, .int .i64], fun (x : Int × Int) => x, fun (x : Int × Int) => x, fun _ => rfl, ((0, 0) : Int × Int)⟩⟩,
  ⟨1000188, ⟨[.str, .bool], fun (x : ByteArray × Bool) => x, fun (x : ByteArray × Bool) => x, fun _ => rfl, ((ByteArray.empty, false) : ByteArray × Bool)⟩⟩,
  ⟨1000305, ⟨[.str, .str, .int .i64, .int .i64, .int .i64, .int .i64], fun (x : ByteArray × ByteArray × Int × Int × Int × Int) => x, fun (x : ByteArray × ByteArray × Int × Int × Int × Int) => x, fun _ => rfl, ((ByteArray.empty, ByteArray.empty, 0, 0, 0, 0) : ByteArray × ByteArray × Int × Int × Int × Int)⟩⟩,
  ⟨1000330, ⟨[.str, .int .i64], fun (x : ByteArray × Int) => x, fun (x : ByteArray × Int) => x, fun _ => rfl, ((ByteArray.empty, 0) : ByteArray × Int)⟩⟩], fun y => if y = 1280 then some (rng Go.Proofs.Try.f128 0 [5]) else if y = 390 then some (rng Go.Proofs.Try.f39 0 [6, 7]) else none, [4000040, 6100040]⟩
theorem mixed : Go.Proofs.Try.prog.follows .mixedOrders = true := by kernel_rfl
theorem eq219 : EqT Go.Proofs.Try.prog 219 := eqT_of (by kernel_rfl) (by kernel_rfl) (by kernel_rfl) (by kernel_rfl)
theorem eq74 : EqT Go.Proofs.Try.prog 74 := eqT_of (by kernel_rfl) (by kernel_rfl) (by kernel_rfl) (by kernel_rfl)
theorem eqsOk : ∀ t ∈ ([219, 74] : List TypeId), EqT Go.Proofs.Try.prog t := by
  intro t h
  simp only [List.mem_cons, List.not_mem_nil, or_false] at h
  rcases h with rfl | rfl
  · exact eq219
  · exact eq74
end Go.Proofs.Ytakkhnoelnpfdaa.Fn
