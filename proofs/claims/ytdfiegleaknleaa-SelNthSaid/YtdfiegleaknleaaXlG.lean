/- A contract as a statement's walk: all that is there does not turn. -/
import Derived.Test.YtdfiegleaknleaaXrM
import Derived.KernelRfl
namespace Go.Proofs.Ytdfiegleaknleaa.Aw
open Go Go.RowKit Go.Lib
set_option linter.unusedVariables false
set_option linter.unusedSimpArgs false
set_option maxRecDepth 100000
/-- All that is there does not turn. -/
def allC (w : World) : Cx := ⟨fun _ => 0, fun _ => nilS, fun b => b < w.heap.size, 0, 0⟩
theorem calls_of_spec {g : FuncId} {args : List D} {y : Value} (h : Spec P g args [] 0 (fun d H => H = [] ∧ d = .f (.v y))) (w : World) (hG : Glob (fun b => b < w.heap.size) w) (vs : List Value) (hr : RepL (allC w) w args vs) : Calls P g vs.toArray w fun e w' => e = .returned y ∧ Below w.heap.size w w' := by
  have hC : Con (base (allC w) w []) (allC w) w [] 0 :=
    ⟨rfl, rfl, rfl, Nat.le_refl _, fun _ _ _ => rfl, fun _ h => h, fun b hb => ⟨hb, .inl hb⟩, rfl, rfl, Nat.le_refl _, fun _ _ => rfl, fun k cs h => (by simp at h), fun k cs h => (by simp at h), fun j k cs ds h => (by simp at h), fun k b hb => (by cases hb), fun j k b hb => (by cases hb), fun _ _ => rfl, hG⟩
  refine (h.2 (allC w) w vs hC hr).mono ?_
  rintro e w' ⟨d, v, H', c2, ⟨rfl, rfl⟩, rfl, hl, hC2, hd⟩
  have hno : ∀ b, ¬ mine (allC w) [] b := fun b hb => by
    rcases hb with ⟨k, cs, h1, _⟩ | ⟨k, h1⟩
    · simp at h1
    · cases h1
  have := rep_v hd
  subst this
  exact ⟨rfl, hC2.os, hC2.tape, hC2.output, hC2.size, fun b hb => hC2.old b hb (hno b)⟩
theorem rep_val {c : Cx} {w : World} {x : Value} (h : x.oneCell' = true) : Rep c w (.f (.v x)) x := rep_of x h
end Go.Proofs.Ytdfiegleaknleaa.Aw
