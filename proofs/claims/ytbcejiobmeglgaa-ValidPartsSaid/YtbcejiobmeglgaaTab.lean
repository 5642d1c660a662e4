/- The types of this program, as Lean's. -/
import Derived.Test.YtbcejiobmeglgaaLibE
import Derived.Test.YtbcejiobmeglgaaProg
namespace Go.Proofs.Ytbcejiobmeglgaa.Fn
set_option maxRecDepth 100000
open Go Go.RowKit Go.Den
noncomputable def tys : List (Nat × Ent) := [(2, ⟨Int, (0)⟩),
  (5, ⟨Int, (0)⟩),
  (9, ⟨ByteArray, (ByteArray.empty)⟩),
  (39, ⟨ByteArray × List (ByteArray × Int × Int × Int × Int × Int × Int × Int × Int × Int × Int) × List (ByteArray × ByteArray × Int × Int × Int × Int) × List (ByteArray × List (ByteArray) × Int) × List (List (Bool × List (ByteArray))) × List (ByteArray × ByteArray × Int) × Int, (ByteArray.empty, [], [], [], [], [], 0)⟩),
  (42, ⟨ByteArray × List (ByteArray) × Int, (ByteArray.empty, [], 0)⟩),
  (44, ⟨ByteArray × Int × Int × Int × Int × Int × Int × Int × Int × Int × Int, (ByteArray.empty, 0, 0, 0, 0, 0, 0, 0, 0, 0, 0)⟩),
  (47, ⟨ByteArray × ByteArray × Int, (ByteArray.empty, ByteArray.empty, 0)⟩),
  (53, ⟨ByteArray × ByteArray × ByteArray × Int × Int × Int, (ByteArray.empty, ByteArray.empty, ByteArray.empty, 0, 0, 0)⟩),
  (67, ⟨List (Bool × List (ByteArray)), ([])⟩),
  (69, ⟨Bool × List (ByteArray), (false, [])⟩),
  (78, ⟨ByteArray × ByteArray × Int × Int × Int × Int, (ByteArray.empty, ByteArray.empty, 0, 0, 0, 0)⟩),
  (107, ⟨Int × ByteArray × Int × Int, (0, ByteArray.empty, 0, 0)⟩),
  (1000116, ⟨ByteArray × Bool, (ByteArray.empty, false)⟩),
  (1000166, ⟨ByteArray × Int, (ByteArray.empty, 0)⟩)]
abbrev T (e : TypeId) : Type := (lookT tys e).A
noncomputable def Θ (b : Nat) : Tab := ⟨T, lookE tys [⟨2, ⟨[.int .i64], fun (x : Int) => x, fun (x : Int) => x, fun _ => rfl, ((0) : Int)⟩⟩,
  ⟨5, ⟨[.int .u8], fun (x : Int) => x, fun (x : Int) => x, fun _ => rfl, ((0) : Int)⟩⟩,
  ⟨9, ⟨[.str], fun (x : ByteArray) => x, fun (x : ByteArray) => x, fun _ => rfl, ((ByteArray.empty) : ByteArray)⟩⟩,
  ⟨39, ⟨[.str, .sl 44, .sl 78, .sl 42, .sl 67, .sl 47, .int .i64], fun (x : ByteArray × List (ByteArray × Int × Int × Int × Int × Int × Int × Int × Int × Int × Int) × List (ByteArray × ByteArray × Int × Int × Int × Int) × List (ByteArray × List (ByteArray) × Int) × List (List (Bool × List (ByteArray))) × List (ByteArray × ByteArray × Int) × Int) => x, fun (x : ByteArray × List (ByteArray × Int × Int × Int × Int × Int × Int × Int × Int × Int × Int) × List (ByteArray × ByteArray × Int × Int × Int × Int) × List (ByteArray × List (ByteArray) × Int) × List (List (Bool × List (ByteArray))) × List (ByteArray × ByteArray × Int) × Int) => x, fun _ => rfl, ((ByteArray.empty, [], [], [], [], [], 0) : ByteArray × List (ByteArray × Int × Int × Int × Int × Int × Int × Int × Int × Int × Int) × List (ByteArray × ByteArray × Int × Int × Int × Int) × List (ByteArray × List (ByteArray) × Int) × List (List (Bool × List (ByteArray))) × List (ByteArray × ByteArray × Int) × Int)⟩⟩,
  ⟨42, ⟨[.str, .sl 9, .int .i64], fun (x : ByteArray × List (ByteArray) × Int) => x, fun (x : ByteArray × List (ByteArray) × Int) => x, fun _ => rfl, ((ByteArray.empty, [], 0) : ByteArray × List (ByteArray) × Int)⟩⟩,
  ⟨44, ⟨[.str, .int .i64, .int .i64, .int .i64, .int .i64, .int .i64, .int .i64, .int .i64, .int .i64, .int .i64, .int .i64], fun (x : ByteArray × Int × Int × Int × Int × Int × Int × Int × Int × Int × Int) => x, fun (x : ByteArray × Int × Int × Int × Int × Int × Int × Int × Int × Int × Int) => x, fun _ => rfl, ((ByteArray.empty, 0, 0, 0, 0, 0, 0, 0, 0, 0, 0) : ByteArray × Int × Int × Int × Int × Int × Int × Int × Int × Int × Int)⟩⟩,
  ⟨47, ⟨[.str, .str, .int .i64], fun (x : ByteArray × ByteArray × Int) => x, fun (x : ByteArray × ByteArray × Int) => x, fun _ => rfl, ((ByteArray.empty, ByteArray.empty, 0) : ByteArray × ByteArray × Int)⟩⟩,
  ⟨53, ⟨[.str, .str, .str, .int .i64, .int .i64, .int .i64], fun (x : ByteArray × ByteArray × ByteArray × Int × Int × Int) => x, fun (x : ByteArray × ByteArray × ByteArray × Int × Int × Int) => x, fun _ => rfl, ((ByteArray.empty, ByteArray.empty, ByteArray.empty, 0, 0, 0) : ByteArray × ByteArray × ByteArray × Int × Int × Int)⟩⟩,
  ⟨67, ⟨[.sl 69], fun (x : List (Bool × List (ByteArray))) => x, fun (x : List (Bool × List (ByteArray))) => x, fun _ => rfl, (([]) : List (Bool × List (ByteArray)))⟩⟩,
  ⟨69, ⟨[.bool, .sl 9], fun (x : Bool × List (ByteArray)) => x, fun (x : Bool × List (ByteArray)) => x, fun _ => rfl, ((false, []) : Bool × List (ByteArray))⟩⟩,
  ⟨78, ⟨[.str, .str, .int .i64, .int .i64, .int .i64, .int .i64], fun (x : ByteArray × ByteArray × Int × Int × Int × Int) => x, fun (x : ByteArray × ByteArray × Int × Int × Int × Int) => x, fun _ => rfl, ((ByteArray.empty, ByteArray.empty, 0, 0, 0, 0) : ByteArray × ByteArray × Int × Int × Int × Int)⟩⟩,
  ⟨107, ⟨[.int .i64, .str, .int .i64, .int .i64], fun (x : Int × ByteArray × Int × Int) => x, fun (x : Int × ByteArray × Int × Int) => x, fun _ => rfl, ((0, ByteArray.empty, 0, 0) : Int × ByteArray × Int × Int)⟩⟩,
  ⟨1000116, ⟨[.str, .bool], fun (x : ByteArray × Bool) => x, fun (x : ByteArray × Bool) => x, fun _ => rfl, ((ByteArray.empty, false) : ByteArray × Bool)⟩⟩,
  ⟨1000166, ⟨[.str, .int .i64], fun (x : ByteArray × Int) => x, fun (x : ByteArray × Int) => x, fun _ => rfl, ((ByteArray.empty, 0) : ByteArray × Int)⟩⟩], fun y => none, [4000040, 6100040, 800040, 600091, 500091], [], b⟩
theorem mixed : Go.Proofs.Try.prog.follows .mixedOrders = true := by kernel_rfl
theorem eq23 : EqT Go.Proofs.Try.prog 23 := eqT_of (by kernel_rfl) (by kernel_rfl) (by kernel_rfl) (by kernel_rfl)
theorem eqsOk : ∀ t ∈ ([23] : List TypeId), EqT Go.Proofs.Try.prog t := by
  intro t h
  simp only [List.mem_cons, List.not_mem_nil, or_false] at h
  subst h; exact eq23
end Go.Proofs.Ytbcejiobmeglgaa.Fn
