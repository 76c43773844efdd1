/- Texts cut in two; a function's contract from a shut text. -/
import Derived.Test.YtofjmhigfihhbaaDoorAwR
namespace Go.Proofs.YtofjmhigfihhbaaDoor.Aw
open Go Go.RowKit Go.Lib
set_option linter.unusedVariables false
set_option linter.unusedSimpArgs false
section
variable {P : Program}
theorem step_of {T : Tab} (hT : TabOk P 0 T) {k : Code} {Q : X → List D → Hp → Nat → Prop} {E : List D} {H : Hp} {n : Nat} (h : awp P T k Q E H n) : Step P k Q E H n := Step.mk (awp_sound hT k h)
theorem step_seq {T : Tab} (hT : TabOk P 0 T) {x y : Code} {Q : X → List D → Hp → Nat → Prop} {E : List D} {H : Hp} {n : Nat}
    (h : awp P T x (fun e E H n => match e with
      | .normal => Step P y Q E H n
      | e => Q e E H n) E H n) : Step P (.seq x y) Q E H n := Step.mk fun B c w a hC hE hd => by
  refine wp_seq (wp_mono (awp_sound hT x h B c w a hC hE hd) ?_)
  rintro e a' w' ⟨x', E', H', n', c', rfl, h1, h2, h3, h4⟩
  cases x' with
  | normal => exact h1.open B c' w' a' h2 h3 h4
  | exit id => exact ⟨.exit id, E', H', n', c', rfl, h1, h2, h3, h4⟩
  | ret => exact ⟨.ret, E', H', n', c', rfl, h1, h2, h3, h4⟩
/-- The states between two texts, by a pattern. -/
theorem step_cut {T : Tab} (hT : TabOk P 0 T) {x y : Code} {Q : X → List D → Hp → Nat → Prop} {E : List D} {H : Hp} {n : Nat} {α : Type} (pat : α → List D) (hp : α → Hp) (n1 : Nat) (I : α → Prop) (hlen : ∀ a, (hp a).length = H.length)
    (h : awp P T x (fun e E' H' n' => match e with
      | .normal => ∃ s, I s ∧ Into E' H' n' (pat s) (hp s) n1
      | e => Q e E' H' n') E H n)
    (k : ∀ s, I s → layK (pat s) fun E => Step P y Q E (hp s) n1) : Step P (.seq x y) Q E H n := Step.mk fun B c w a hC hE hd => by
  have hB : B.h0 ≤ H.length := by rw [← hC.hlen]; exact hC.hh
  refine wp_seq (wp_mono (awp_sound hT x h B c w a hC hE hd) ?_)
  rintro e a' w' ⟨x', E', H', n', c', rfl, h1, h2, h3, h4⟩
  cases x' with
  | normal =>
    obtain ⟨s, h5, h6⟩ := h1
    have hk := k s h5
    rw [layK_eq] at hk
    obtain ⟨h7, h8⟩ := h2.into (by rw [hlen]; exact hB) h6 h3
    exact hk.open B _ w' a' h7 h8 h4
  | exit id => exact ⟨.exit id, E', H', n', c', rfl, h1, h2, h3, h4⟩
  | ret => exact ⟨.ret, E', H', n', c', rfl, h1, h2, h3, h4⟩
/-- A text under a weaker state. -/
theorem step_into {x : Code} {Q : X → List D → Hp → Nat → Prop} {E E' : List D} {H H' : Hp} {n n' : Nat} (hlen : H'.length = H.length) (hi : Into E H n E' H' n') (h : layK E' fun E' => Step P x Q E' H' n') : Step P x Q E H n := Step.mk fun B c w a hC hE hd => by
  rw [layK_eq] at h
  have hB : B.h0 ≤ H.length := by rw [← hC.hlen]; exact hC.hh
  obtain ⟨h7, h8⟩ := hC.into (by rw [hlen]; exact hB) hi hE
  exact h.open B _ w a h7 h8 hd
theorem awp_step {k : Code} {T : Tab} {Q : X → List D → Hp → Nat → Prop} {E : List D} {H : Hp} {n : Nat} (id : Nat) (h : Step P k Q E H n) : Step P k Q E H n := h
theorem spec_step {T : Tab} (hT : TabOk P 0 T) {g : FuncId} {fn : Func} {k : Code} {args : List D} {H : Hp} {n : Nat} {R : D → Hp → Prop} (hf : P.funcs[g]? = some fn) (hnm : (fn.name == "runtime.NumGoroutine") = false) (hb : fn.body = some k)
    (h : layK (padK args fn.ntmps) fun E => Step P k (Ends T fn.results.toList H.length n R) E H n) : Spec P g args H n R := by
  rw [layK_eq] at h
  refine spec_sem hT hf hnm hb h.open
end
end Go.Proofs.YtofjmhigfihhbaaDoor.Aw
