/- Tokens of a text are not too long, and their numbers not too great. -/
import Derived.Test.YtdfiegleaknleaaXlA
import Derived.Test.YtdfiegleaknleaaXkX
namespace Go.Proofs.Ytdfiegleaknleaa.Aw
open Go Go.RowKit Go.Lib
set_option linter.unusedVariables false
set_option linter.unusedSimpArgs false
theorem tokens_fit (l : List Int) (hl : l.length < 10000000) : Fit (tokens l) := by
  obtain ⟨h1, h2⟩ := tokRun_fit l (l.length + 1) 0 [] (by simp)
  rw [← tokens] at h1 h2
  simp at h2
  refine ⟨by omega, fun i => ?_, fun i => ?_⟩
  · unfold tk
    split
    · simp
    · rename_i k hk
      have := (h1 k (List.mem_of_getElem? hk)).text
      omega
  · unfold tk
    split
    · simp
    · rename_i k hk
      have := h1 k (List.mem_of_getElem? hk)
      exact ⟨by have := this.lo; omega, by have := this.hi; omega⟩
theorem ofT_fit (b : ByteArray) (hb : b.size < 1000000) : Fit (ofT b) := by
  have h1 : b.data.toList.length < 1000000 := hb
  have h2 := prepare_len b.data.toList
  exact tokens_fit _ (by omega)
end Go.Proofs.Ytdfiegleaknleaa.Aw
