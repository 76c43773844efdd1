/- The statements of chapter 7: ValueSets, ValueOne. -/
import Derived.Test.YtofjmhigfihhbaaDoorXvG
import Derived.Test.YtofjmhigfihhbaaDoorXlS
namespace Go.Proofs.YtofjmhigfihhbaaDoor.Aw
open Go Go.RowKit Go.Lib
set_option linter.unusedVariables false
set_option linter.unusedSimpArgs false
set_option maxRecDepth 100000
theorem setsW_len : ∀ l : List Dcl, (setsW l).length ≤ l.length
  | [] => by simp [setsW]
  | d :: l => by
    rw [setsW_cons, List.length_append]
    have := set1_len d
    have := setsW_len l
    simp
    omega
set_option maxHeartbeats 2000000 in
theorem valueSets_spec (l : List Dcl) (ht : ∀ d ∈ l, DclOk d) : Pure 7 [.f (.sl (dclsF l))] (bool true) := by
  have hlen : (dclsF l).length = l.length := by simp
  refine .mk trivial (spec_mk tab_ok Tryd.func7 (by rfl) rfl ?_)
  conv => whnf
  repeat' first
    | (refine Case.not ?_; conv => whnf)
    | (refine Case.yes ?_; conv => whnf)
    | (refine Case.no ?_; conv => whnf)
    | (refine Case.isTrue (by assumption) ?_; conv => whnf)
    | (refine Case.isFalse (by assumption) ?_; conv => whnf)
    | (refine Case.decT (by assumption) ?_; conv => whnf)
    | (refine Case.decF (by assumption) ?_; conv => whnf)
    | (refine Case.decT (by omega) ?_; conv => whnf)
    | (refine Case.decF (by omega) ?_; conv => whnf)
    | (refine Case.beqT (by omega) ?_; conv => whnf)
    | (refine Case.beqF (by omega) ?_; conv => whnf)
    | (refine Case.strT (by assumption) ?_; conv => whnf)
    | (refine Case.strF (by assumption) ?_; conv => whnf)
    | (refine Case.strF (by simp only [*]; decide) ?_; conv => whnf)
    | (refine valive_spec.call rfl ?_; conv => whnf)
    | (refine step_kinds 2 ?hk ?_; (case hk => decide +kernel); conv => whnf)
    | (refine step_kinds 3 ?hk ?_; (case hk => decide +kernel); conv => whnf)
    | (refine Num.id (by omega) (by omega) ?_; conv => whnf)
    | (refine Case.strI (fun _ => ?_) (fun _ => ?_) <;> conv => whnf)
    | (refine Both.mk ?_ ?_ <;> conv => whnf)
    | (refine Case.dec (fun _ => ?_) (fun _ => ?_) <;> conv => whnf)
    | (refine Case.beqI (fun _ => ?_) (fun _ => ?_) <;> conv => whnf)
    | (refine Case.mk (fun _ => ?_) (fun _ => ?_) <;> conv => whnf)
  · exact Fin.isB rfl
  · refine step_loop tab_ok (fun i : Nat => padK [.f (.sl (dclsF l)), .junk, .junk, bool true, int i] 41) (fun _ => []) 0 (fun i => i ≤ l.length ∧ ∀ d ∈ l.take i, d.value.length ≤ 20) (fun i => l.length - i) 0 ⟨by omega, by simp⟩ (fun _ => rfl) ?_ ?_
    ·
      repeat' first | exact trivial | exact rfl | exact (by decide : (0 : Nat) < 1) | exact Nat.le_refl _ | exact Nat.zero_lt_succ _ | exact congrArg int (by (try dsimp only); omega) | exact congrArg bool (by (try dsimp only); simp; omega) | (show _ < List.length _; simp; done) | apply And.intro
    · rintro i ⟨h1, h2⟩
      conv => whnf
      refine Case.dec (fun h0 => ?_) (fun h0 => ?_)
      · obtain ⟨d, hd⟩ : ∃ d, l[i]? = some d := ⟨_, List.getElem?_eq_getElem (by omega)⟩
        have l2 : (toksF d.value).length = d.value.length := List.length_map ..
        conv => whnf
        repeat' first
          | (refine Case.not ?_; conv => whnf)
          | (refine Case.yes ?_; conv => whnf)
          | (refine Case.no ?_; conv => whnf)
          | (refine Case.isTrue (by assumption) ?_; conv => whnf)
          | (refine Case.isFalse (by assumption) ?_; conv => whnf)
          | (refine Case.decT (by assumption) ?_; conv => whnf)
          | (refine Case.decF (by assumption) ?_; conv => whnf)
          | (refine Case.decT (by omega) ?_; conv => whnf)
          | (refine Case.decF (by omega) ?_; conv => whnf)
          | (refine Case.beqT (by omega) ?_; conv => whnf)
          | (refine Case.beqF (by omega) ?_; conv => whnf)
          | (refine Case.strT (by assumption) ?_; conv => whnf)
          | (refine Case.strF (by assumption) ?_; conv => whnf)
          | (refine Case.strF (by simp only [*]; decide) ?_; conv => whnf)
          | (refine Owes.mk dclsF_row ?_; conv => whnf)
          | (refine Elem.mk i _ rfl (dclsF_get hd) ?_; conv => whnf)
          | (refine step_kinds 2 ?hk ?_; (case hk => decide +kernel); conv => whnf)
          | (refine step_kinds 3 ?hk ?_; (case hk => decide +kernel); conv => whnf)
          | (refine Num.id (by omega) (by omega) ?_; conv => whnf)
          | (refine Case.strI (fun _ => ?_) (fun _ => ?_) <;> conv => whnf)
          | (refine Both.mk ?_ ?_ <;> conv => whnf)
          | (refine Case.dec (fun _ => ?_) (fun _ => ?_) <;> conv => whnf)
          | (refine Case.beqI (fun _ => ?_) (fun _ => ?_) <;> conv => whnf)
          | (refine Case.mk (fun _ => ?_) (fun _ => ?_) <;> conv => whnf)
        · exact Fin.isB rfl
        · exact Fin.isB rfl
        · refine ⟨i + 1, ⟨by omega, take_more h2 hd (by omega)⟩, by omega, ?_⟩
          repeat' first | exact trivial | exact rfl | exact (by decide : (0 : Nat) < 1) | exact Nat.le_refl _ | exact Nat.zero_lt_succ _ | exact congrArg int (by (try dsimp only); omega) | exact congrArg bool (by (try dsimp only); simp; omega) | (show _ < List.length _; simp; done) | apply And.intro
      · have hall : ∀ d ∈ l, DclOk d := ht
        have hsl := setsW_len l
        conv => whnf
        repeat' first
          | (refine Case.not ?_; conv => whnf)
          | (refine Case.yes ?_; conv => whnf)
          | (refine Case.no ?_; conv => whnf)
          | (refine Case.isTrue (by assumption) ?_; conv => whnf)
          | (refine Case.isFalse (by assumption) ?_; conv => whnf)
          | (refine Case.decT (by assumption) ?_; conv => whnf)
          | (refine Case.decF (by assumption) ?_; conv => whnf)
          | (refine Case.decT (by omega) ?_; conv => whnf)
          | (refine Case.decF (by omega) ?_; conv => whnf)
          | (refine Case.beqT (by omega) ?_; conv => whnf)
          | (refine Case.beqF (by omega) ?_; conv => whnf)
          | (refine Case.strT (by assumption) ?_; conv => whnf)
          | (refine Case.strF (by assumption) ?_; conv => whnf)
          | (refine Case.strF (by simp only [*]; decide) ?_; conv => whnf)
          | (refine (vsets_spec l (by omega) hall).call ?_; conv => whnf)
          | (refine (rsets_spec l (by omega) hall).call ?_; conv => whnf)
          | (refine (sameSets_spec (setsW l) (by omega)).call ⟨rfl, rfl, rfl⟩ ?_; conv => whnf)
          | (refine (sameSets_spec (setsW l) (by omega)).callB ⟨rfl, rfl, rfl⟩ ?_; conv => whnf)
          | (refine step_kinds 2 ?hk ?_; (case hk => decide +kernel); conv => whnf)
          | (refine step_kinds 3 ?hk ?_; (case hk => decide +kernel); conv => whnf)
          | (refine Num.id (by omega) (by omega) ?_; conv => whnf)
          | (refine Case.strI (fun _ => ?_) (fun _ => ?_) <;> conv => whnf)
          | (refine Both.mk ?_ ?_ <;> conv => whnf)
          | (refine Case.dec (fun _ => ?_) (fun _ => ?_) <;> conv => whnf)
          | (refine Case.beqI (fun _ => ?_) (fun _ => ?_) <;> conv => whnf)
          | (refine Case.mk (fun _ => ?_) (fun _ => ?_) <;> conv => whnf)
        exact Fin.isB rfl
theorem walkValueSets (l : List Dcl) (W : World) {v : Value} (hv : RepF (fun b => b < W.heap.size) W (.sl (dclsF l)) v) (g : ∀ d ∈ l, DclOk d) : Calls Tryd.prog 7 #[v] W fun e w' => e = .returned (.bool true) ∧ Below W.heap.size W w' :=
  calls_of_spec (valueSets_spec l g).2 W (laidOk W) [v] (repL_cons (by unfold Rep; exact hv) repL_nil)
end Go.Proofs.YtofjmhigfihhbaaDoor.Aw
