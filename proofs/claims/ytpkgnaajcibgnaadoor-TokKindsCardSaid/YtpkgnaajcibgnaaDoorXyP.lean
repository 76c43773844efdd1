/- tapestrierlaw4.alive. -/
import Derived.Test.YtpkgnaajcibgnaaDoorXyO
namespace Go.Proofs.YtpkgnaajcibgnaaDoor.Aw
open Go Go.RowKit Go.Lib
set_option linter.unusedVariables false
set_option linter.unusedSimpArgs false
set_option maxRecDepth 100000
theorem alive4_spec : Pure 14 [] (bool true) := by
  have hp := prepare4_val alive4B (by decide)
  have ht := tokens4_val (prepare alive4B) (by have := prepare_len alive4B; have : alive4B.length = 7 := rfl; omega)
  rw [alive4_toks] at ht
  refine ⟨trivial, spec_mk tab_ok Tryd.func14 (by rfl) rfl ?_⟩
  conv => whnf
  repeat' first
    | (refine Case.not ?_; conv => whnf)
    | (refine Case.yes ?_; conv => whnf)
    | (refine Case.no ?_; conv => whnf)
    | (refine Case.isTrue (by assumption) ?_; conv => whnf)
    | (refine Case.isFalse (by assumption) ?_; conv => whnf)
    | (refine Case.decT (by assumption) ?_; conv => whnf)
    | (refine Case.decF (by assumption) ?_; conv => whnf)
    | (refine Case.decT (by omega) ?_; conv => whnf)
    | (refine Case.decF (by omega) ?_; conv => whnf)
    | (refine Case.beqT (by omega) ?_; conv => whnf)
    | (refine Case.beqF (by omega) ?_; conv => whnf)
    | (refine Case.strT (by assumption) ?_; conv => whnf)
    | (refine Case.strF (by assumption) ?_; conv => whnf)
    | (refine Case.strF (by simp only [*]; decide) ?_; conv => whnf)
    | (refine Owes.mk ⟨rfl, rfl, List.cons_ne_nil _ _⟩ ?_; conv => whnf)
    | (refine hp.call ?_; conv => whnf)
    | (refine ht.call ?_; conv => whnf)
    | (refine Owes.mk toks4_row ?_; conv => whnf)
    | (refine Elem.mk 0 _ rfl rfl ?_; conv => whnf)
    | (refine Elem.mk 1 _ rfl rfl ?_; conv => whnf)
    | (refine Elem.mk 2 _ rfl rfl ?_; conv => whnf)
    | (refine Case.isTrue (by decide +kernel) ?_; conv => whnf)
    | (refine step_kinds 2 ?hk ?_; (case hk => decide +kernel); conv => whnf)
    | (refine step_kinds 3 ?hk ?_; (case hk => decide +kernel); conv => whnf)
    | (refine Num.id (by omega) (by omega) ?_; conv => whnf)
    | (refine Case.strI (fun _ => ?_) (fun _ => ?_) <;> conv => whnf)
    | (refine Both.mk ?_ ?_ <;> conv => whnf)
    | (refine Case.dec (fun _ => ?_) (fun _ => ?_) <;> conv => whnf)
    | (refine Case.beqI (fun _ => ?_) (fun _ => ?_) <;> conv => whnf)
    | (refine Case.mk (fun _ => ?_) (fun _ => ?_) <;> conv => whnf)
    | (refine Way.fst ?_; conv => whnf)
  exact Fin.isB (by decide +kernel)
end Go.Proofs.YtpkgnaajcibgnaaDoor.Aw
