/- SelRules' walk for its row. -/
import Derived.Test.YtlhegfkpgchaeaaGreatDoorXnA
import Derived.Test.YtlhegfkpgchaeaaGreatDoorXnC
namespace Go.Proofs.YtlhegfkpgchaeaaGreatDoor.Aw
open Go Go.RowKit Go.Lib
theorem walkSelRules (a b : List UInt8) (W : World) {v u : Value} (hv : RepF (fun b => b < W.heap.size) W (.sl (a.map byteRow)) v) (hu : RepF (fun b => b < W.heap.size) W (.sl (b.map byteRow)) u) (ht : tabP W) : Calls Tryz.prog 4 #[v, u] W fun e w' => e = .returned (.bool true) ∧ Below W.heap.size W w' :=
 calls_of_spec (selRules_spec a b).2 W (globS ht) [v, u] (repL_cons (by unfold Rep; exact hv) (repL_cons (by unfold Rep; exact hu) repL_nil))
end Go.Proofs.YtlhegfkpgchaeaaGreatDoor.Aw
