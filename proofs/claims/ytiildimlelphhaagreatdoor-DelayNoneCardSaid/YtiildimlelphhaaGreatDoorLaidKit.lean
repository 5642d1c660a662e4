/- What the rows' listed variables give: the table of math/bits, cell by cell; a heap that meets the condition. -/
import Derived.Test.YtiildimlelphhaaGreatDoorRows
import Derived.Test.YtiildimlelphhaaGreatDoorTab
import Derived.Lib.LaidTab
import Derived.LaidLaws
import Derived.LaidHandle
import Derived.LaidMore
import Derived.Stop.Joined
namespace Go.Proofs.YtiildimlelphhaaGreatDoor.Fn
set_option linter.unusedVariables false
set_option maxRecDepth 100000
open Go Go.RowKit Go.Den
def laidL : List (String × DataW Unit) := [("math/bits.deBruijn64tab", Rows.laid_math_bits_deBruijn64tab), ("errors.errorType", Rows.laid_errors_errorType)]
def dbTab : List Int := Lib.deBruijn64tab.map fun (n : Nat) => (n : Int)
theorem door_met (os : Os) (args : Array Value) : laidMetH Tryz.prog laidL ((World.doorLaid Tryz.prog 400 os).forCall (fun _ _ => 0) ⟨#[], args, []⟩).memory :=
  laidMetH_of_parts3 (fuel := 8) (laidMet_of_run' 8 (by kernel_rfl) (by kernel_rfl)) (by kernel_rfl) (by kernel_rfl)
theorem laid_split {W : World} (h : laidMetH Tryz.prog laidL W) : laidMet Tryz.prog [("math/bits.deBruijn64tab", Lib.tabData .u8 dbTab)] W := h.1
theorem globs_of {W : World} (h : laidMetH Tryz.prog laidL W) : ∀ p ∈ Θ.G, p.1 < W.heap.size ∧ ∀ j u, p.2[j]? = some u → W.cell? ⟨p.1, j, none⟩ = some u := by
  have ht := Lib.tabIs_of_head (P := Tryz.prog) (g := 1) (t := 167) (e := 5) (n := 64) (by kernel_rfl) (by kernel_rfl) Tryz.underlying167 Tryz.underlying5 (by kernel_rfl) (by kernel_rfl) (laid_split h)
  have hg : Tryz.prog.globalNamed "math/bits.deBruijn64tab" = some 1 := by kernel_rfl
  have cell : ∀ i, i < dbTab.length → W.cell? ⟨1, i, none⟩ = some (.int .u8 (dbTab.getD i 0)) := fun i hi => ht.cell hg i hi
  intro p hp
  have e : p = (1, Lib.deBruijn64tab.map fun (n : Nat) => Value.int .u8 (n : Int)) := List.mem_singleton.1 hp
  subst e
  refine ⟨?_, fun j u hj => ?_⟩
  · obtain ⟨o, h1, _⟩ := cells_of_cell (cell 0 (by decide))
    exact (Array.getElem?_eq_some_iff.1 h1).1
  · have hj2 : (Lib.deBruijn64tab[j]?).map (fun (n : Nat) => Value.int .u8 (n : Int)) = some u := by rw [← List.getElem?_map]; exact hj
    obtain ⟨z, hz, hu⟩ := Option.map_eq_some_iff.1 hj2
    have hlt : j < Lib.deBruijn64tab.length := (List.getElem?_eq_some_iff.1 hz).1
    rw [cell j (by unfold dbTab; simpa using hlt), ← hu]
    have : dbTab.getD j 0 = (z : Int) := by unfold dbTab; simp [List.getD_eq_getElem?_getD, hz]
    rw [this]
end Go.Proofs.YtiildimlelphhaaGreatDoor.Fn
