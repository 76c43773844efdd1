/- A contract at a frozen slice, called with an own slice, which turns no more. -/
import Derived.Test.YtpkgnaajcibgnaaDoorXyP
namespace Go.Proofs.YtpkgnaajcibgnaaDoor.Aw
open Go Go.RowKit Go.Lib
set_option linter.unusedVariables false
set_option linter.unusedSimpArgs false
set_option maxRecDepth 100000
theorem Val.callO {g : FuncId} {es : List (List F)} {d : D} {k t s : Nat} {E : List D} {H : Hp} {n : Nat} {K : KD} (h : Val g [.f (.sl es)] d) (hk : K d (killL k E) (killH k H) n) : Call P g [.own k t s es] E H n K := by
  have h0 : Call P g [.f (.sl es)] (killL k E) (killH k H) n K := h.call hk
  obtain ⟨hf, h1⟩ := h0.out
  refine Call.mk ⟨hf, fun B c w ts vs hC hE ha => ?_⟩
  obtain ⟨hC', hk'⟩ := hC.freeze (k := k)
  refine h1 B _ w ts vs hC' (RepL.kill hk' _ _ hE) ?_
  unfold RepL at ha
  obtain ⟨v, vs', rfl, h2, h3⟩ := ha
  unfold RepL at h3
  subst h3
  unfold Rep at h2
  obtain ⟨h4, rfl, h5⟩ := h2
  refine repL_cons ?_ repL_nil
  unfold Rep
  exact h5.toF hk'.imm (fun b hb => .inr hb)
end Go.Proofs.YtpkgnaajcibgnaaDoor.Aw
