/- The walk of TokNames, for its row. -/
import Derived.Test.YtdenafhfngnlfaaDoorXzN
import Derived.Test.YtdenafhfngnlfaaDoorXzG
import Derived.Test.YtdenafhfngnlfaaDoorXlR
namespace Go.Proofs.YtdenafhfngnlfaaDoor.Aw
open Go Go.RowKit Go.Lib
set_option linter.unusedVariables false
set_option linter.unusedSimpArgs false
theorem walkTokNames (a : ByteArray) (k : Int) (W : World) (h : a.size ≤ 140737488351232) (hk : (Lit.int .i64 k).wf = true) (ht : tabP W) : Calls Tryd.prog 3 #[.string a, .int .i64 k] W fun e w' => e = .returned (.bool true) ∧ Below W.heap.size W w' := by
  simp only [Lit.wf, Bool.and_eq_true, decide_eq_true_eq] at hk
  have e3 : IntKind.i64.min = -9223372036854775808 := by decide
  have e4 : IntKind.i64.max = 9223372036854775807 := by decide
  have hs := names4_spec a.data.toList h k (by omega)
  rw [show (⟨a.data.toList.toArray⟩ : ByteArray) = a from ByteArray.ext (by simp)] at hs
  exact calls_of_spec hs.2 W (globU ht) [.string a, .int .i64 k] (repL_cons (rep_val rfl) (repL_cons (rep_val rfl) repL_nil))
end Go.Proofs.YtdenafhfngnlfaaDoor.Aw
