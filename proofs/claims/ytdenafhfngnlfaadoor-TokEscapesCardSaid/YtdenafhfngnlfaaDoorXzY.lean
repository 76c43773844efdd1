/- Walks of TokStrings and TokEscapes, for their rows. -/
import Derived.Test.YtdenafhfngnlfaaDoorXzE
import Derived.Test.YtdenafhfngnlfaaDoorXzS
import Derived.Test.YtdenafhfngnlfaaDoorXzG
import Derived.Test.YtdenafhfngnlfaaDoorXlR
namespace Go.Proofs.YtdenafhfngnlfaaDoor.Aw
open Go Go.RowKit Go.Lib
set_option linter.unusedVariables false
set_option linter.unusedSimpArgs false
theorem walkTokStrings (a : ByteArray) (one closed : Bool) (W : World) (h : a.size ≤ 140737488351232) (ht : tabP W) : Calls Tryd.prog 4 #[.string a, .bool one, .bool closed] W fun e w' => e = .returned (.bool true) ∧ Below W.heap.size W w' := by
  have hs := strings4_spec a.data.toList h one closed
  rw [show (⟨a.data.toList.toArray⟩ : ByteArray) = a from ByteArray.ext (by simp)] at hs
  exact calls_of_spec hs.2 W (globU ht) [.string a, .bool one, .bool closed] (repL_cons (rep_val rfl) (repL_cons (rep_val rfl) (repL_cons (rep_val rfl) repL_nil)))
theorem walkTokEscapes (a : Int) (b : Bool) (W : World) (h : (Lit.int .i64 a).wf = true) (ht : tabP W) : Calls Tryd.prog 7 #[.int .i64 a, .bool b] W fun e w' => e = .returned (.bool true) ∧ Below W.heap.size W w' := by
  simp only [Lit.wf, Bool.and_eq_true, decide_eq_true_eq] at h
  have e3 : IntKind.i64.min = -9223372036854775808 := by decide
  have e4 : IntKind.i64.max = 9223372036854775807 := by decide
  exact calls_of_spec (escapes_spec a (by omega) b).2 W (globU ht) [.int .i64 a, .bool b] (repL_cons (rep_val rfl) (repL_cons (rep_val rfl) repL_nil))
end Go.Proofs.YtdenafhfngnlfaaDoor.Aw
