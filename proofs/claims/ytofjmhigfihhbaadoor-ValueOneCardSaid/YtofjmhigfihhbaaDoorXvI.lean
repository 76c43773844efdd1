/- The statements ValueSets and ValueOne of chapter 7: their walks. -/
import Derived.Test.YtofjmhigfihhbaaDoorXvH
import Derived.Test.YtofjmhigfihhbaaDoorAwV
namespace Go.Proofs.YtofjmhigfihhbaaDoor.Aw
open Go Go.RowKit Go.Lib
set_option linter.unusedVariables false
set_option linter.unusedSimpArgs false
set_option maxRecDepth 100000
/-- How far the declarations are gone through, and how much of what they set. -/
structure OneI (l : List Dcl) (s : Nat × Nat) : Prop where
  i : s.1 ≤ l.length
  n : s.2 ≤ (setsW l).length
  run : (setsW l).drop s.2 = setsW (l.drop s.1)
set_option maxHeartbeats 2000000 in
theorem valueOne_spec (l : List Dcl) (ho : ∀ d ∈ l, DclOk d) : Pure 8 [.f (.sl (dclsF l))] (bool true) := by
  have hlen : (dclsF l).length = l.length := by simp
  have hsl := setsW_len l
  have hs2 : (setsF (setsW l)).length = (setsW l).length := List.length_map ..
  refine .mk trivial (spec_mk tab_ok Tryd.func8 (by rfl) rfl ?_)
  conv => whnf
  repeat' first
    | (refine Case.not ?_; conv => whnf)
    | (refine Case.yes ?_; conv => whnf)
    | (refine Case.no ?_; conv => whnf)
    | (refine Case.isTrue (by assumption) ?_; conv => whnf)
    | (refine Case.isFalse (by assumption) ?_; conv => whnf)
    | (refine Case.decT (by assumption) ?_; conv => whnf)
    | (refine Case.decF (by assumption) ?_; conv => whnf)
    | (refine Case.decT (by omega) ?_; conv => whnf)
    | (refine Case.decF (by omega) ?_; conv => whnf)
    | (refine Case.beqT (by omega) ?_; conv => whnf)
    | (refine Case.beqF (by omega) ?_; conv => whnf)
    | (refine Case.strT (by assumption) ?_; conv => whnf)
    | (refine Case.strF (by assumption) ?_; conv => whnf)
    | (refine Case.strF (by simp only [*]; decide) ?_; conv => whnf)
    | (refine valive_spec.call rfl ?_; conv => whnf)
    | (refine (vsets_spec l (by omega) ho).call ?_; conv => whnf)
    | (refine step_kinds 2 ?hk ?_; (case hk => decide +kernel); conv => whnf)
    | (refine step_kinds 3 ?hk ?_; (case hk => decide +kernel); conv => whnf)
    | (refine Num.id (by omega) (by omega) ?_; conv => whnf)
    | (refine Case.strI (fun _ => ?_) (fun _ => ?_) <;> conv => whnf)
    | (refine Both.mk ?_ ?_ <;> conv => whnf)
    | (refine Case.dec (fun _ => ?_) (fun _ => ?_) <;> conv => whnf)
    | (refine Case.beqI (fun _ => ?_) (fun _ => ?_) <;> conv => whnf)
    | (refine Case.mk (fun _ => ?_) (fun _ => ?_) <;> conv => whnf)
  · exact Fin.isB rfl
  · refine step_loop tab_ok (fun s : Nat × Nat => padK [.f (.sl (dclsF l)), .junk, .junk, .junk, int s.2, .f (.sl (setsF (setsW l))), int s.1] 94) (fun _ => []) 0 (OneI l) (fun s => l.length - s.1) (0, 0) ⟨by simp, by simp, by simp⟩ (fun _ => rfl) ?_ ?_
    ·
      repeat' first | exact trivial | exact rfl | exact Nat.zero_le _ | exact Nat.zero_lt_succ _ | exact (by decide : (0 : Nat) < 1) | exact (by decide : (1 : Nat) < 4) | exact (by decide : (2 : Nat) < 4) | exact (by decide : (3 : Nat) < 4) | exact (by decide : (1 : Nat) < 2) | exact (by decide : (2 : Nat) < 3) | exact congrArg int (by (try dsimp only); omega) | exact congrArg bool (by (try dsimp only); simp; omega) | (show _ < List.length _; simp; done) | apply And.intro
    · rintro ⟨i, n⟩ ⟨h1, h2, h3⟩
      simp only at h1 h2 h3
      conv => whnf
      refine Case.dec (fun h0 => ?_) (fun h0 => ?_)
      · obtain ⟨d, hd⟩ : ∃ d, l[i]? = some d := ⟨_, List.getElem?_eq_getElem (by omega)⟩
        have hok := ho d (List.mem_of_getElem? hd)
        have l2 : (toksF d.value).length = d.value.length := List.length_map ..
        have hv := hok.v
        rw [drop_cons' hd, setsW_cons] at h3
        have hs1 := set1_len d
        by_cases hpq : (propW d.name).2 = true ∧ (parseW (propW d.name).1 d.value).2.2 = true
        · obtain ⟨hp, hq⟩ := hpq
          have e : set1 d = [{ prop := (propW d.name).1, kind := (parseW (propW d.name).1 d.value).1, n := (parseW (propW d.name).1 d.value).2.1, imp := d.imp }] := by
            unfold set1
            rw [if_pos hp, if_pos hq]
          rw [e] at h3
          have hg : (setsW l)[n]? = some { prop := (propW d.name).1, kind := (parseW (propW d.name).1 d.value).1, n := (parseW (propW d.name).1 d.value).2.1, imp := d.imp } := by
            have := congrArg (fun x => x[0]?) h3
            simpa [List.getElem?_drop] using this
          have hn : n < (setsW l).length := (List.getElem?_eq_some_iff.1 hg).1
          have hd1 : (setsW l).drop (n + 1) = setsW (l.drop (i + 1)) := by
            rw [← List.drop_drop, h3]
            rfl
          conv => whnf
          repeat' first
            | (refine Case.not ?_; conv => whnf)
            | (refine Case.yes ?_; conv => whnf)
            | (refine Case.no ?_; conv => whnf)
            | (refine Case.isTrue (by assumption) ?_; conv => whnf)
            | (refine Case.isFalse (by assumption) ?_; conv => whnf)
            | (refine Case.decT (by assumption) ?_; conv => whnf)
            | (refine Case.decF (by assumption) ?_; conv => whnf)
            | (refine Case.decT (by omega) ?_; conv => whnf)
            | (refine Case.decF (by omega) ?_; conv => whnf)
            | (refine Case.beqT (by omega) ?_; conv => whnf)
            | (refine Case.beqF (by omega) ?_; conv => whnf)
            | (refine Case.strT (by assumption) ?_; conv => whnf)
            | (refine Case.strF (by assumption) ?_; conv => whnf)
            | (refine Case.strF (by simp only [*]; decide) ?_; conv => whnf)
            | (refine Owes.mk dclsF_row ?_; conv => whnf)
            | (refine Owes.mk setsF_row ?_; conv => whnf)
            | (refine Elem.mk i _ rfl (dclsF_get hd) ?_; conv => whnf)
            | (refine Elem.mk n _ rfl (setsF_get hg) ?_; conv => whnf)
            | (refine (vprop_spec d.name).call ⟨rfl, rfl⟩ ?_; conv => whnf)
            | (refine (vparse_spec (propW d.name).1 d.value hok.v hok.t).call ⟨rfl, rfl, rfl⟩ ?_; conv => whnf)
            | ((refine step_draws tab_ok mix (.one 0 0 (.one 1 0 (.one 2 0 (.one 3 0 (.one 4 0 (.one 5 0 (.one 6 0 (.one 7 0 (.one 8 1 (.one 9 0 (.one 10 1 (.one 11 0 (.one 12 0 (.one 13 0 (.one 14 0 (.one 15 1 (.one 16 0 (.one 17 0 (.one 18 0 .done))))))))))))))))))) [] ?hs ?_; (case hs => decide +kernel)); conv => whnf)
            | (refine step_kinds 2 ?hk ?_; (case hk => decide +kernel); conv => whnf)
            | (refine step_kinds 3 ?hk ?_; (case hk => decide +kernel); conv => whnf)
            | (refine Num.id (by omega) (by omega) ?_; conv => whnf)
            | (refine Case.strI (fun _ => ?_) (fun _ => ?_) <;> conv => whnf)
            | (refine Both.mk ?_ ?_ <;> conv => whnf)
            | (refine Case.dec (fun _ => ?_) (fun _ => ?_) <;> conv => whnf)
            | (refine Case.beqI (fun _ => ?_) (fun _ => ?_) <;> conv => whnf)
            | (refine Case.mk (fun _ => ?_) (fun _ => ?_) <;> conv => whnf)
          all_goals first | exact Fin.isB rfl | skip
          all_goals (try (exfalso; simp_all; done))
          all_goals (try refine ⟨(i + 1, n + 1), ⟨by dsimp only; omega, hn, hd1⟩, by dsimp only; omega, ?_⟩)
          repeat' first | exact trivial | exact rfl | exact Nat.zero_le _ | exact Nat.zero_lt_succ _ | exact (by decide : (0 : Nat) < 1) | exact (by decide : (1 : Nat) < 4) | exact (by decide : (2 : Nat) < 4) | exact (by decide : (3 : Nat) < 4) | exact (by decide : (1 : Nat) < 2) | exact (by decide : (2 : Nat) < 3) | exact congrArg int (by (try dsimp only); omega) | exact congrArg bool (by (try dsimp only); simp; omega) | (show _ < List.length _; simp; done) | apply And.intro
        · have e : set1 d = [] := by
            unfold set1
            split
            · rename_i hp
              rw [if_neg (fun hq => hpq ⟨hp, hq⟩)]
            · rfl
          rw [e, List.nil_append] at h3
          conv => whnf
          repeat' first
            | (refine Case.not ?_; conv => whnf)
            | (refine Case.yes ?_; conv => whnf)
            | (refine Case.no ?_; conv => whnf)
            | (refine Case.isTrue (by assumption) ?_; conv => whnf)
            | (refine Case.isFalse (by assumption) ?_; conv => whnf)
            | (refine Case.decT (by assumption) ?_; conv => whnf)
            | (refine Case.decF (by assumption) ?_; conv => whnf)
            | (refine Case.decT (by omega) ?_; conv => whnf)
            | (refine Case.decF (by omega) ?_; conv => whnf)
            | (refine Case.beqT (by omega) ?_; conv => whnf)
            | (refine Case.beqF (by omega) ?_; conv => whnf)
            | (refine Case.strT (by assumption) ?_; conv => whnf)
            | (refine Case.strF (by assumption) ?_; conv => whnf)
            | (refine Case.strF (by simp only [*]; decide) ?_; conv => whnf)
            | (refine Owes.mk dclsF_row ?_; conv => whnf)
            | (refine Owes.mk setsF_row ?_; conv => whnf)
            | (refine Elem.mk i _ rfl (dclsF_get hd) ?_; conv => whnf)
            | (refine (vprop_spec d.name).call ⟨rfl, rfl⟩ ?_; conv => whnf)
            | (refine (vparse_spec (propW d.name).1 d.value hok.v hok.t).call ⟨rfl, rfl, rfl⟩ ?_; conv => whnf)
            | (refine step_kinds 2 ?hk ?_; (case hk => decide +kernel); conv => whnf)
            | (refine step_kinds 3 ?hk ?_; (case hk => decide +kernel); conv => whnf)
            | (refine Num.id (by omega) (by omega) ?_; conv => whnf)
            | (refine Case.strI (fun _ => ?_) (fun _ => ?_) <;> conv => whnf)
            | (refine Both.mk ?_ ?_ <;> conv => whnf)
            | (refine Case.dec (fun _ => ?_) (fun _ => ?_) <;> conv => whnf)
            | (refine Case.beqI (fun _ => ?_) (fun _ => ?_) <;> conv => whnf)
            | (refine Case.mk (fun _ => ?_) (fun _ => ?_) <;> conv => whnf)
          all_goals first | exact Fin.isB rfl | skip
          all_goals (try (exact absurd ⟨by assumption, by assumption⟩ hpq))
          all_goals refine ⟨(i + 1, n), ⟨by dsimp only; omega, h2, h3⟩, by dsimp only; omega, ?_⟩
          repeat' first | exact trivial | exact rfl | exact Nat.zero_le _ | exact Nat.zero_lt_succ _ | exact (by decide : (0 : Nat) < 1) | exact (by decide : (1 : Nat) < 4) | exact (by decide : (2 : Nat) < 4) | exact (by decide : (3 : Nat) < 4) | exact (by decide : (1 : Nat) < 2) | exact (by decide : (2 : Nat) < 3) | exact congrArg int (by (try dsimp only); omega) | exact congrArg bool (by (try dsimp only); simp; omega) | (show _ < List.length _; simp; done) | apply And.intro
      · have hn : n = (setsW l).length := by
          rw [show l.drop i = [] by rw [List.drop_eq_nil_iff]; omega] at h3
          have h5 : (setsW l).length - n = 0 := by
            have := congrArg List.length h3
            rw [List.length_drop] at this
            exact this
          omega
        conv => whnf
        repeat' first
          | (refine Case.not ?_; conv => whnf)
          | (refine Case.yes ?_; conv => whnf)
          | (refine Case.no ?_; conv => whnf)
          | (refine Case.isTrue (by assumption) ?_; conv => whnf)
          | (refine Case.isFalse (by assumption) ?_; conv => whnf)
          | (refine Case.decT (by assumption) ?_; conv => whnf)
          | (refine Case.decF (by assumption) ?_; conv => whnf)
          | (refine Case.decT (by omega) ?_; conv => whnf)
          | (refine Case.decF (by omega) ?_; conv => whnf)
          | (refine Case.beqT (by omega) ?_; conv => whnf)
          | (refine Case.beqF (by omega) ?_; conv => whnf)
          | (refine Case.strT (by assumption) ?_; conv => whnf)
          | (refine Case.strF (by assumption) ?_; conv => whnf)
          | (refine Case.strF (by simp only [*]; decide) ?_; conv => whnf)
          | (refine Owes.mk setsF_row ?_; conv => whnf)
          | (refine step_kinds 2 ?hk ?_; (case hk => decide +kernel); conv => whnf)
          | (refine step_kinds 3 ?hk ?_; (case hk => decide +kernel); conv => whnf)
          | (refine Num.id (by omega) (by omega) ?_; conv => whnf)
          | (refine Case.strI (fun _ => ?_) (fun _ => ?_) <;> conv => whnf)
          | (refine Both.mk ?_ ?_ <;> conv => whnf)
          | (refine Case.dec (fun _ => ?_) (fun _ => ?_) <;> conv => whnf)
          | (refine Case.beqI (fun _ => ?_) (fun _ => ?_) <;> conv => whnf)
          | (refine Case.mk (fun _ => ?_) (fun _ => ?_) <;> conv => whnf)
        exact Fin.isB (by simp [hn])
theorem walkValueOne (l : List Dcl) (W : World) {v : Value} (hv : RepF (fun b => b < W.heap.size) W (.sl (dclsF l)) v) (g : ∀ d ∈ l, DclOk d) : Calls Tryd.prog 8 #[v] W fun e w' => e = .returned (.bool true) ∧ Below W.heap.size W w' :=
  calls_of_spec (valueOne_spec l g).2 W (laidOk W) [v] (repL_cons (by unfold Rep; exact hv) repL_nil)
end Go.Proofs.YtofjmhigfihhbaaDoor.Aw
