/- What declarations set, by the reference; equal lists of what is set. -/
import Derived.Test.YtofjmhigfihhbaaDoorXvE
namespace Go.Proofs.YtofjmhigfihhbaaDoor.Aw
open Go Go.RowKit Go.Lib
set_option linter.unusedVariables false
set_option linter.unusedSimpArgs false
set_option maxRecDepth 100000
set_option maxHeartbeats 2000000 in
theorem rsets_spec (l : List Dcl) (hl : l.length < 1000000000) (ho : ∀ d ∈ l, DclOk d) : Val 15 [.f (.sl (dclsF l))] (.f (.sl (setsF (setsW l)))) := by
  have hlen : (dclsF l).length = l.length := by simp
  refine ⟨rfl, ⟨trivial, trivial⟩, rfl, spec_mk tab_ok Tryd.func15 (by rfl) rfl ?_⟩
  conv => whnf
  refine step_loop tab_ok (fun s : Nat × List SetV => padK [.f (.sl (dclsF l)), .junk, .junk, setsD s.2, int s.1] 49) (fun _ => []) 1 (SetsI l) (fun s => l.length - s.1) (0, []) ⟨by simp, by simp, rfl⟩ (fun _ => rfl) ?_ ?_
  ·
    repeat' first | exact trivial | exact rfl | exact (by decide : (0 : Nat) < 1) | exact Nat.le_refl _ | exact Nat.zero_lt_succ _ | exact congrArg int (by (try dsimp only); omega) | exact congrArg bool (by (try dsimp only); simp; omega) | (show _ < List.length _; simp; done) | apply And.intro
  · rintro ⟨i, out⟩ ⟨h1, h2, h3⟩
    simp only at h1 h2 h3
    have l2 : (setsF out).length = out.length := List.length_map ..
    conv => whnf
    refine Case.dec (fun h0 => ?_) (fun h0 => ?_)
    · obtain ⟨d, hd⟩ : ∃ d, l[i]? = some d := ⟨_, List.getElem?_eq_getElem (by omega)⟩
      have hok := ho d (List.mem_of_getElem? hd)
      have hpv := rvalue_spec (propW d.name).1 d.value hok.v hok.t
      rw [value_is] at hpv
      rw [drop_cons' hd, setsW_cons] at h3
      have hs1 := set1_len d
      conv => whnf
      repeat' first
        | (refine Case.not ?_; conv => whnf)
        | (refine Case.yes ?_; conv => whnf)
        | (refine Case.no ?_; conv => whnf)
        | (refine Case.isTrue (by assumption) ?_; conv => whnf)
        | (refine Case.isFalse (by assumption) ?_; conv => whnf)
        | (refine Case.decT (by assumption) ?_; conv => whnf)
        | (refine Case.decF (by assumption) ?_; conv => whnf)
        | (refine Case.decT (by omega) ?_; conv => whnf)
        | (refine Case.decF (by omega) ?_; conv => whnf)
        | (refine Case.beqT (by omega) ?_; conv => whnf)
        | (refine Case.beqF (by omega) ?_; conv => whnf)
        | (refine Case.strT (by assumption) ?_; conv => whnf)
        | (refine Case.strF (by assumption) ?_; conv => whnf)
        | (refine Case.strF (by simp only [*]; decide) ?_; conv => whnf)
        | (refine Owes.mk dclsF_row ?_; conv => whnf)
        | (refine Elem.mk i _ rfl (dclsF_get hd) ?_; conv => whnf)
        | (refine (rprop_spec d.name).call ⟨rfl, rfl⟩ ?_; conv => whnf)
        | (refine hpv.call ⟨rfl, rfl, rfl⟩ ?_; conv => whnf)
        | (refine Owes.mk (by simp; omega) ?_; conv => whnf)
        | (refine step_kinds 2 ?hk ?_; (case hk => decide +kernel); conv => whnf)
        | (refine step_kinds 3 ?hk ?_; (case hk => decide +kernel); conv => whnf)
        | (refine Num.id (by omega) (by omega) ?_; conv => whnf)
        | (refine Case.strI (fun _ => ?_) (fun _ => ?_) <;> conv => whnf)
        | (refine Both.mk ?_ ?_ <;> conv => whnf)
        | (refine Case.dec (fun _ => ?_) (fun _ => ?_) <;> conv => whnf)
        | (refine Case.beqI (fun _ => ?_) (fun _ => ?_) <;> conv => whnf)
        | (refine Case.mk (fun _ => ?_) (fun _ => ?_) <;> conv => whnf)
      all_goals refine ⟨(i + 1, out ++ set1 d), ⟨by dsimp only; omega, by rw [List.length_append]; dsimp only; omega, by rw [List.append_assoc]; exact h3⟩, by dsimp only; omega, ?_⟩
      · have e : set1 d = [{ prop := (propW d.name).1, kind := (parseW (propW d.name).1 d.value).1, n := (parseW (propW d.name).1 d.value).2.1, imp := d.imp }] := by
          unfold set1
          rw [if_pos (by assumption), if_pos (by assumption)]
        rw [e]
        repeat' first | exact trivial | exact rfl | exact (by decide : (0 : Nat) < 1) | exact Nat.le_refl _ | exact Nat.zero_lt_succ _ | exact congrArg int (by (try dsimp only); omega) | exact congrArg bool (by (try dsimp only); simp; omega) | (show _ < List.length _; simp; done) | apply And.intro | exact congrArg (D.own _ _ _) (by simp [SetV.row]; done) | exact congrArg int (by unfold SetV.row; (repeat' split) <;> omega)
      · have e : set1 d = [] := by
          unfold set1
          rw [if_pos (by assumption), if_neg (by simp [*])]
        rw [e, List.append_nil]
        repeat' first | exact trivial | exact rfl | exact (by decide : (0 : Nat) < 1) | exact Nat.le_refl _ | exact Nat.zero_lt_succ _ | exact congrArg int (by (try dsimp only); omega) | exact congrArg bool (by (try dsimp only); simp; omega) | (show _ < List.length _; simp; done) | apply And.intro
      · have e : set1 d = [] := by
          unfold set1
          rw [if_neg (by simp [*])]
        rw [e, List.append_nil]
        repeat' first | exact trivial | exact rfl | exact (by decide : (0 : Nat) < 1) | exact Nat.le_refl _ | exact Nat.zero_lt_succ _ | exact congrArg int (by (try dsimp only); omega) | exact congrArg bool (by (try dsimp only); simp; omega) | (show _ < List.length _; simp; done) | apply And.intro
    · rw [show l.drop i = [] by rw [List.drop_eq_nil_iff]; omega] at h3
      simp [setsW] at h3
      conv => whnf
      exact Fin.sets ⟨rfl, by rw [h3]; rfl⟩
theorem sameSets_spec (l : List SetV) (hl : l.length < 1000000000) : Pure 13 [.f (.sl (setsF l)), .f (.sl (setsF l))] (bool true) := by
  have hlen : (setsF l).length = l.length := by simp
  refine .mk trivial (spec_mk tab_ok Tryd.func13 (by rfl) rfl ?_)
  conv => whnf
  repeat' first
    | (refine Case.not ?_; conv => whnf)
    | (refine Case.yes ?_; conv => whnf)
    | (refine Case.no ?_; conv => whnf)
    | (refine Case.isTrue (by assumption) ?_; conv => whnf)
    | (refine Case.isFalse (by assumption) ?_; conv => whnf)
    | (refine Case.decT (by assumption) ?_; conv => whnf)
    | (refine Case.decF (by assumption) ?_; conv => whnf)
    | (refine Case.decT (by omega) ?_; conv => whnf)
    | (refine Case.decF (by omega) ?_; conv => whnf)
    | (refine Case.beqT (by omega) ?_; conv => whnf)
    | (refine Case.beqF (by omega) ?_; conv => whnf)
    | (refine Case.strT (by assumption) ?_; conv => whnf)
    | (refine Case.strF (by assumption) ?_; conv => whnf)
    | (refine Case.strF (by simp only [*]; decide) ?_; conv => whnf)
    | (refine step_kinds 2 ?hk ?_; (case hk => decide +kernel); conv => whnf)
    | (refine step_kinds 3 ?hk ?_; (case hk => decide +kernel); conv => whnf)
    | (refine Num.id (by omega) (by omega) ?_; conv => whnf)
    | (refine Case.strI (fun _ => ?_) (fun _ => ?_) <;> conv => whnf)
    | (refine Both.mk ?_ ?_ <;> conv => whnf)
    | (refine Case.dec (fun _ => ?_) (fun _ => ?_) <;> conv => whnf)
    | (refine Case.beqI (fun _ => ?_) (fun _ => ?_) <;> conv => whnf)
    | (refine Case.mk (fun _ => ?_) (fun _ => ?_) <;> conv => whnf)
  refine step_loop tab_ok (fun i : Nat => padK [.f (.sl (setsF l)), .f (.sl (setsF l)), .junk, .junk, .junk, int i] 26) (fun _ => []) 0 (fun i => i ≤ l.length) (fun i => l.length - i) 0 (by omega) (fun _ => rfl) ?_ ?_
  ·
    repeat' first | exact trivial | exact rfl | exact Nat.zero_le _ | exact Nat.zero_lt_succ _ | exact (by decide : (0 : Nat) < 1) | exact (by decide : (1 : Nat) < 4) | exact (by decide : (2 : Nat) < 4) | exact (by decide : (3 : Nat) < 4) | exact (by decide : (1 : Nat) < 2) | exact (by decide : (2 : Nat) < 3) | exact congrArg int (by (try dsimp only); omega) | exact congrArg bool (by (try dsimp only); simp; omega) | (show _ < List.length _; simp; done) | apply And.intro
  · intro i hi
    conv => whnf
    refine Case.dec (fun h0 => ?_) (fun h0 => ?_)
    · obtain ⟨k, hk⟩ : ∃ k, l[i]? = some k := ⟨_, List.getElem?_eq_getElem (by omega)⟩
      conv => whnf
      repeat' first
        | (refine Case.not ?_; conv => whnf)
        | (refine Case.yes ?_; conv => whnf)
        | (refine Case.no ?_; conv => whnf)
        | (refine Case.isTrue (by assumption) ?_; conv => whnf)
        | (refine Case.isFalse (by assumption) ?_; conv => whnf)
        | (refine Case.decT (by assumption) ?_; conv => whnf)
        | (refine Case.decF (by assumption) ?_; conv => whnf)
        | (refine Case.decT (by omega) ?_; conv => whnf)
        | (refine Case.decF (by omega) ?_; conv => whnf)
        | (refine Case.beqT (by omega) ?_; conv => whnf)
        | (refine Case.beqF (by omega) ?_; conv => whnf)
        | (refine Case.strT (by assumption) ?_; conv => whnf)
        | (refine Case.strF (by assumption) ?_; conv => whnf)
        | (refine Case.strF (by simp only [*]; decide) ?_; conv => whnf)
        | (refine step_kinds 2 ?hk ?_; (case hk => decide +kernel); conv => whnf)
        | (refine step_kinds 3 ?hk ?_; (case hk => decide +kernel); conv => whnf)
        | (refine Owes.mk setsF_row ?_; conv => whnf)
        | (refine Elem.mk i _ rfl (setsF_get hk) ?_; conv => whnf)
        | (refine Case.isTrue (by simp) ?_; conv => whnf)
        | (refine Case.isFalse (by simp) ?_; conv => whnf)
        | (refine Num.id (by omega) (by omega) ?_; conv => whnf)
        | (refine Case.strI (fun _ => ?_) (fun _ => ?_) <;> conv => whnf)
        | (refine Both.mk ?_ ?_ <;> conv => whnf)
        | (refine Case.dec (fun _ => ?_) (fun _ => ?_) <;> conv => whnf)
        | (refine Case.beqI (fun _ => ?_) (fun _ => ?_) <;> conv => whnf)
        | (refine Case.mk (fun _ => ?_) (fun _ => ?_) <;> conv => whnf)
      refine ⟨i + 1, by omega, by omega, ?_⟩
      repeat' first | exact trivial | exact rfl | exact Nat.zero_le _ | exact Nat.zero_lt_succ _ | exact (by decide : (0 : Nat) < 1) | exact (by decide : (1 : Nat) < 4) | exact (by decide : (2 : Nat) < 4) | exact (by decide : (3 : Nat) < 4) | exact (by decide : (1 : Nat) < 2) | exact (by decide : (2 : Nat) < 3) | exact congrArg int (by (try dsimp only); omega) | exact congrArg bool (by (try dsimp only); simp; omega) | (show _ < List.length _; simp; done) | apply And.intro
    · conv => whnf
      exact Fin.isB rfl
end Go.Proofs.YtofjmhigfihhbaaDoor.Aw
