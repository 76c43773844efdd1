/- The tables of the library that functions read: here none is asked. -/
import Derived.Test.YtofjmhigfihhbaaDoorAwB
namespace Go.Proofs.YtofjmhigfihhbaaDoor.Aw
open Go
set_option linter.unusedVariables false
/-- The tables' blocks, and what stands in them. -/
def tabB (b : Nat) : Prop := False
def tabP (w : World) : Prop := True
theorem tabP_mono {w w' : World} (h : ∀ b, tabB b → w'.heap[b]? = w.heap[b]?) (ht : tabP w) : tabP w' := trivial
theorem tabP_off {w w' : World} {l : Nat} {r : Loop} (hl : w.heap[l]? = some (.loop r)) (h : ∀ b, b ≠ l → w'.heap[b]? = w.heap[b]?) (ht : tabP w) : tabP w' := trivial
structure Glob (imm : Nat → Prop) (w : World) : Prop where
  imm : ∀ b, tabB b → imm b
  tab : tabP w
theorem Glob.keep {imm imm' : Nat → Prop} {w w' : World} (h : Glob imm w) (hk : ImmKeep imm imm' w w') : Glob imm' w' :=
  ⟨fun b hb => (hk b (h.imm b hb)).1, tabP_mono (fun b hb => (hk b (h.imm b hb)).2) h.tab⟩
theorem laidOk (w : World) : Glob (fun b => b < w.heap.size) w := ⟨fun _ h => h.elim, trivial⟩
end Go.Proofs.YtofjmhigfihhbaaDoor.Aw
