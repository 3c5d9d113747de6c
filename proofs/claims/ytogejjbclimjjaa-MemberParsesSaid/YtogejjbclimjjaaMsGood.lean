/- A list of chips is good just if it is tried. -/
--only r2
import Derived.Test.YtogejjbclimjjaaMsOf
import Derived.Deep.DeepCutAuto
namespace Go.Proofs.Ytogejjbclimjjaa
set_option linter.unusedVariables false
set_option linter.unusedSimpArgs false
open Go.RowKit

theorem good_tried (n : Nat) (L : List Int) : GoodL n L ↔ Tried (n + 1) L := by
  constructor
  · intro h
    refine ⟨fun x hx => ?_, ?_⟩
    · obtain ⟨j, hj, rfl⟩ := List.getElem_of_mem hx
      have := h j hj
      omega
    · unfold List.Nodup
      rw [List.pairwise_iff_getElem]
      intro i j hi hj hij he
      refine (h j hj).2.2 ?_
      rw [← he]
      exact List.mem_take_iff_getElem.mpr ⟨i, by omega, rfl⟩
  · intro h j hj
    have hm := h.lo _ (List.getElem_mem hj)
    refine ⟨by omega, by omega, fun hin => ?_⟩
    obtain ⟨i, hi, he⟩ := List.mem_take_iff_getElem.mp hin
    have hn := h.nd
    unfold List.Nodup at hn
    rw [List.pairwise_iff_getElem] at hn
    exact hn i j (by omega) hj (by omega) he
end Go.Proofs.Ytogejjbclimjjaa
