/- The program's scanner of code points: what only looks. -/
import Derived.Test.YtdfiegleaknleaaXrH
import Derived.Test.YtdfiegleaknleaaAwV
namespace Go.Proofs.Ytdfiegleaknleaa.Aw
open Go Go.RowKit Go.Lib
set_option linter.unusedVariables false
set_option linter.unusedSimpArgs false
set_option maxRecDepth 100000
theorem see_ge (l : List Int) (i : Nat) : -1 ≤ see l i := by
  unfold see right
  split
  · omega
  · split
    · rename_i h
      simp only [Bool.and_eq_true, decide_eq_true_eq] at h
      omega
    · omega
theorem signs_none : True := trivial
def signK (c : Int) : Int := if c = 58 then 11 else if c = 59 then 12 else if c = 44 then 13 else if c = 123 then 14 else if c = 125 then 15 else if c = 40 then 16 else if c = 41 then 17 else if c = 91 then 18 else if c = 93 then 19 else 10
end Go.Proofs.Ytdfiegleaknleaa.Aw
