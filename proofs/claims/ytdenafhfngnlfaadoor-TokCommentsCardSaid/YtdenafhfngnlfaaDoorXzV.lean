/- Walks of four statements, for their rows. -/
import Derived.Test.YtdenafhfngnlfaaDoorXzC
import Derived.Test.YtdenafhfngnlfaaDoorXzW
import Derived.Test.YtdenafhfngnlfaaDoorXyS
import Derived.Test.YtdenafhfngnlfaaDoorXzG
import Derived.Test.YtdenafhfngnlfaaDoorXlR
namespace Go.Proofs.YtdenafhfngnlfaaDoor.Aw
open Go Go.RowKit Go.Lib
set_option linter.unusedVariables false
set_option linter.unusedSimpArgs false
theorem walkTokSigns (a : Int) (W : World) (h : (Lit.int .u8 a).wf = true) (ht : tabP W) : Calls Tryd.prog 8 #[.int .u8 a] W fun e w' => e = .returned (.bool true) ∧ Below W.heap.size W w' := by
  simp only [Lit.wf, Bool.and_eq_true, decide_eq_true_eq] at h
  have e3 : IntKind.u8.min = 0 := by decide
  have e4 : IntKind.u8.max = 255 := by decide
  have hs := signs_spec (UInt8.ofNat a.toNat)
  have e : (((UInt8.ofNat a.toNat).toNat : Nat) : Int) = a := by
    rw [UInt8.toNat_ofNat']
    have : a.toNat % 2 ^ 8 = a.toNat := Nat.mod_eq_of_lt (by omega)
    omega
  rw [e] at hs
  exact calls_of_spec hs.2 W (globU ht) [.int .u8 a] (repL_cons (rep_val rfl) repL_nil)
theorem walkTokWhite (l : List Int) (W : World) {v : Value} (hv : RepF (fun b => b < W.heap.size) W (.sl (ptsF l)) v) (_ : ∀ x ∈ l, -9223372036854775808 ≤ x ∧ x < 9223372036854775808) (ht : tabP W) : Calls Tryd.prog 10 #[v] W fun e w' => e = .returned (.bool true) ∧ Below W.heap.size W w' :=
  calls_of_spec (white4_spec l).2 W (globU ht) [v] (repL_cons (by unfold Rep; exact hv) repL_nil)
theorem walkTokParts (a b : List UInt8) (W : World) {v u : Value} (hv : RepF (fun b => b < W.heap.size) W (.sl (a.map byteRow)) v) (hu : RepF (fun b => b < W.heap.size) W (.sl (b.map byteRow)) u) (ht : tabP W) : Calls Tryd.prog 9 #[v, u] W fun e w' => e = .returned (.bool true) ∧ Below W.heap.size W w' :=
  calls_of_spec (parts4_spec a b).2 W (globU ht) [v, u] (repL_cons (by unfold Rep; exact hv) (repL_cons (by unfold Rep; exact hu) repL_nil))
theorem walkTokComments (a b c : List UInt8) (W : World) {v u x : Value} (hv : RepF (fun b => b < W.heap.size) W (.sl (a.map byteRow)) v) (hu : RepF (fun b => b < W.heap.size) W (.sl (b.map byteRow)) u) (hx : RepF (fun b => b < W.heap.size) W (.sl (c.map byteRow)) x) (ht : tabP W) : Calls Tryd.prog 6 #[v, u, x] W fun e w' => e = .returned (.bool true) ∧ Below W.heap.size W w' :=
  calls_of_spec (comments4_spec a b c).2 W (globU ht) [v, u, x] (repL_cons (by unfold Rep; exact hv) (repL_cons (by unfold Rep; exact hu) (repL_cons (by unfold Rep; exact hx) repL_nil)))
end Go.Proofs.YtdenafhfngnlfaaDoor.Aw
