/- Chapter 18's example: what the laws' awake computes. -/
import Derived.Test.YtakkhnoelnpfdaaGreatTimesC
import Derived.Test.YtakkhnoelnpfdaaGreatFew
import Derived.Test.YtakkhnoelnpfdaaGreatBusy
namespace Go.Proofs.YtakkhnoelnpfdaaGreat.Fn
open Go Go.RowKit Go.Den Go.Circ
set_option linter.unusedVariables false

def awX : NodeT := (ByteArray.mk #[], [(ByteArray.mk #[97], 0, 0, 0, 0, 0, 0, 0, 0, 0, 0), (ByteArray.mk #[98], 0, 0, 0, 0, 0, 0, 0, 0, 0, 0)], [], [(ByteArray.mk #[112], [ByteArray.mk #[97]], 0), (ByteArray.mk #[113], [ByteArray.mk #[98]], 0)], [[(false, [ByteArray.mk #[112], ByteArray.mk #[113]])]], [], 0)
def awT : TimT := (ByteArray.mk #[], 5, [[[(ByteArray.mk #[112], 10, 3, 2, []), (ByteArray.mk #[113], 20, 3, 2, [])]]], 0, 0)
theorem awX_bd : NodeBd awX := ⟨by decide, by decide, by decide, by
  intro p hp
  simp only [awX, List.mem_cons, List.not_mem_nil, or_false] at hp
  rcases hp with rfl | rfl <;> decide, by
  intro g hg r hr
  simp only [awX, List.mem_cons, List.not_mem_nil, or_false] at hg
  subst hg
  simp only [List.mem_cons, List.not_mem_nil, or_false] at hr
  subst hr
  decide⟩
theorem awT_bd : Bd awT.2.2.1 := by
  intro x hx l hl s hs
  simp only [awT, List.mem_cons, List.not_mem_nil, or_false] at hx
  subst hx
  simp only [List.mem_cons, List.not_mem_nil, or_false] at hl
  subst hl
  simp only [List.mem_cons, List.not_mem_nil, or_false] at hs
  rcases hs with rfl | rfl <;> decide
theorem awFits : fitsOf awX.2.2.1 awX.2.2.2.2.1 awT.2.2.1 = true := by decide +kernel
theorem awHeads : headsOf awX.2.1 awX.2.2.2.1 awT.2.1 awT.2.2.1 = [(ByteArray.mk #[97], 5, 5, 10, 3), (ByteArray.mk #[98], 15, 15, 0, 3)] := by decide +kernel
theorem awLength : lengthOf awT.2.2.1 = 30 := by decide +kernel
theorem awSet : setOf 30 [normOf 30 (15, 15), normOf 30 (0, 3)] = [(15, 18)] := by
  refine (setOf_arcs (by decide) (by decide) _).unique (one_arc (by decide) (by decide) (by decide) (by decide) fun k k0 k1 => ?_)
  have hn : normOf 30 (15, 15) = (15, 15) := by decide
  have hn2 : normOf 30 (0, 3) = (0, 3) := by decide
  rw [hn, hn2]
  simp only [TS, List.mem_cons, List.not_mem_nil, or_false, exists_eq_or_imp, exists_eq_left, HasT]
  omega
theorem awBusy : busyOf 30 (15, 15) (0, 3) = (15, 18) := by
  unfold busyOf
  rw [awSet]; rfl
theorem awake18_ : Ev (fun n => law18_awake n ()) true := by
  unfold law18_awake
  refine Ev.bindS (fun n => rfl) ?_
  have h1 := heads_ awX awT awX_bd awT_bd
  rw [awFits, if_pos rfl, awHeads] at h1
  refine Ev.bind h1 ?_
  simp only [letJ]
  refine Ev.no rfl ?_
  refine Ev.no rfl ?_
  refine Ev.bindS (fun n => rfl) ?_
  have h2 := fits_ awX awT awX_bd awT_bd
  rw [awFits] at h2
  refine Ev.bind h2 ?_
  refine Ev.no rfl ?_
  have h3 := length_ awT awT_bd
  rw [awLength] at h3
  refine Ev.bind h3 ?_
  have h4 := busy_ 30 (ByteArray.mk #[98]) (15, 15) (0, 3)
  rw [awBusy] at h4
  refine Ev.no rfl ?_
  refine Ev.yes rfl ?_
  refine Ev.yes rfl ?_
  refine Ev.yes rfl ?_
  refine Ev.yes rfl ?_
  refine Ev.yes rfl ?_
  refine Ev.yes rfl ?_
  refine Ev.yes rfl ?_
  refine Ev.yes rfl ?_
  refine Ev.yes rfl ?_
  exact Ev.bind h4 (Ev.ret _)
end Go.Proofs.YtakkhnoelnpfdaaGreat.Fn
