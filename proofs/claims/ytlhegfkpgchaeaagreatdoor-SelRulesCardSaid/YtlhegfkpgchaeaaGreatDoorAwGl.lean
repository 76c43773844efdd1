/- The tables of the library that functions read. -/
import Derived.Test.YtlhegfkpgchaeaaGreatDoorAwB
import Derived.Test.YtlhegfkpgchaeaaGreatDoorProg
import Derived.KernelRfl
import Derived.Shelf.Unicode.DecodeSlow
import Derived.Lib.LaidTab
import Derived.Lib.AppendIntMem
namespace Go.Proofs.YtlhegfkpgchaeaaGreatDoor.Aw
open Go
set_option linter.unusedVariables false
def tabB (b : Nat) : Prop := b = 0 ∨ b = 1 ∨ b = 5
structure tabP (w : World) : Prop where
 utf : Lib.Utf8Tabs 0 1 w
 pow : Lib.TabIs Tryz.prog w "internal/strconv.uint64pow10" .u64 Lib.pow10Tab
theorem cell_same {w w' : World} {b : Nat} (h : w'.heap[b]? = w.heap[b]?) (o : Nat) : w'.cell? ⟨b, o, none⟩ = w.cell? ⟨b, o, none⟩ := World.cell?_of_block (w := w) h
theorem var_same {w w' : World} {n : String} {g : Nat} (hg : Tryz.prog.globalNamed n = some g) (hb : w'.heap[g]? = w.heap[g]?) : w'.var? Tryz.prog n = w.var? Tryz.prog n := by
 unfold World.var?
 rw [hg, Option.bind_some, Option.bind_some, hb]
theorem tabP_mono {w w' : World} (h : ∀ b, tabB b → w'.heap[b]? = w.heap[b]?) (ht : tabP w) : tabP w' := by
 obtain ⟨⟨h1, h2⟩, h3⟩ := ht
 refine ⟨⟨fun c hc => ?_, fun i hi => ?_⟩, ?_⟩
 ·rw [cell_same (h _ (.inl rfl))]; exact h1 c hc
 ·rw [cell_same (h _ (.inr (.inl rfl))), cell_same (h _ (.inr (.inl rfl)))]; exact h2 i hi
 ·unfold Lib.TabIs at *
  rw [var_same (g := 5) (by kernel_rfl) (h _ (.inr (.inr rfl)))]; exact h3
theorem no_cell {w : World} {l : Nat} {r : Loop} (hl : w.heap[l]? = some (.loop r)) (o : Nat) {v : Value} (h : w.cell? ⟨l, o, none⟩ = some v) : False := by
 unfold World.cell? at h
 rw [hl] at h
 cases h
theorem tabP_off {w w' : World} {l : Nat} {r : Loop} (hl : w.heap[l]? = some (.loop r)) (h : ∀ b, b ≠ l → w'.heap[b]? = w.heap[b]?) (ht : tabP w) : tabP w' := by
 refine tabP_mono (fun b hb => h b (fun e => ?_)) ht
 subst e
 obtain ⟨⟨h1, h2⟩, h3⟩ := ht
 rcases hb with hb | hb | hb
 ·subst hb; exact no_cell hl _ (h1 0 (by decide))
 ·subst hb; exact no_cell hl _ (h2 0 (by decide)).1
 ·subst hb
  unfold Lib.TabIs World.var? at h3
  rw [show Tryz.prog.globalNamed "internal/strconv.uint64pow10" = some 5 by kernel_rfl, Option.bind_some, hl] at h3
  cases h3
structure Glob (imm : Nat → Prop) (w : World) : Prop where
 imm : ∀ b, tabB b → imm b
 tab : tabP w
theorem Glob.keep {imm imm' : Nat → Prop} {w w' : World} (h : Glob imm w) (hk : ImmKeep imm imm' w w') : Glob imm' w' :=
 ⟨fun b hb => (hk b (h.imm b hb)).1, tabP_mono (fun b hb => (hk b (h.imm b hb)).2) h.tab⟩
end Go.Proofs.YtlhegfkpgchaeaaGreatDoor.Aw
