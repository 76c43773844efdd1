/- TokKinds: the walk (more kinds). -/
import Derived.Test.YtpkgnaajcibgnaaDoorXzH
namespace Go.Proofs.YtpkgnaajcibgnaaDoor.Aw
open Go Go.RowKit Go.Lib
set_option linter.unusedVariables false
set_option linter.unusedSimpArgs false
set_option maxRecDepth 100000
set_option maxHeartbeats 4000000 in
theorem kinds_r6 {bs : List UInt8} {i : Nat} {n : Int} {whole : Bool} (h : KindAt bs i { kind := 6, n := n, whole := whole }) : KindRound bs i := by
  intro Q hQ
  obtain ⟨h1, hi, hk, hF1, hF2⟩ := h
  dsimp only at hF1 hF2
  have hml : ((ofB bs).map tokRow).length = (ofB bs).length := List.length_map ..
  have hg : ((ofB bs).map tokRow)[i]? = some (tokRow { kind := 6, n := n, whole := whole }) := by simp [hk]
  conv => whnf
  repeat' first
    | (refine Case.not ?_; conv => whnf)
    | (refine Case.yes ?_; conv => whnf)
    | (refine Case.no ?_; conv => whnf)
    | (refine Case.isTrue (by assumption) ?_; conv => whnf)
    | (refine Case.isFalse (by assumption) ?_; conv => whnf)
    | (refine Case.decT (by assumption) ?_; conv => whnf)
    | (refine Case.decF (by assumption) ?_; conv => whnf)
    | (refine Case.decT (by omega) ?_; conv => whnf)
    | (refine Case.decF (by omega) ?_; conv => whnf)
    | (refine Case.beqT (by omega) ?_; conv => whnf)
    | (refine Case.beqF (by omega) ?_; conv => whnf)
    | (refine Case.strT (by assumption) ?_; conv => whnf)
    | (refine Case.strF (by assumption) ?_; conv => whnf)
    | (refine Case.strF (by simp only [*]; decide) ?_; conv => whnf)
    | (refine Owes.mk toks4_row ?_; conv => whnf)
    | (refine Elem.mk i _ rfl hg ?_; conv => whnf)
    | (refine Case.strT rfl ?_; conv => whnf)
    | (refine step_kinds 2 ?hk ?_; (case hk => decide +kernel); conv => whnf)
    | (refine step_kinds 3 ?hk ?_; (case hk => decide +kernel); conv => whnf)
    | (refine step_auto 2 ?hk ?_; (case hk => decide +kernel); conv => whnf)
    | (refine step_auto 3 ?hk ?_; (case hk => decide +kernel); conv => whnf)
    | (refine Num.id (by omega) (by omega) ?_; conv => whnf)
    | (refine Case.strI (fun _ => ?_) (fun _ => ?_) <;> conv => whnf)
    | (refine Both.mk ?_ ?_ <;> conv => whnf)
    | (refine Case.dec (fun _ => ?_) (fun _ => ?_) <;> conv => whnf)
    | (refine Case.beqI (fun _ => ?_) (fun _ => ?_) <;> conv => whnf)
    | (refine Case.mk (fun _ => ?_) (fun _ => ?_) <;> conv => whnf)
    | (refine Way.fst ?_; conv => whnf)
  all_goals first | (refine hQ _ _ _ ?_) | (exfalso; dsimp only at *; omega)
  all_goals
    repeat' first | exact trivial | exact rfl | exact Nat.zero_le _ | exact Nat.zero_lt_succ _ | exact (by decide : (0 : Nat) < 1) | exact (by decide : (1 : Nat) < 4) | exact (by decide : (2 : Nat) < 4) | exact (by decide : (3 : Nat) < 4) | exact (by decide : (1 : Nat) < 2) | exact (by decide : (2 : Nat) < 3) | exact congrArg int (by (try dsimp only); omega) | exact congrArg bool (by (try dsimp only); simp; omega) | (show _ < List.length _; simp; done) | apply And.intro
set_option maxHeartbeats 4000000 in
theorem kinds_r7 {bs : List UInt8} {i : Nat} {n : Int} (h : KindAt bs i { kind := 7, n := n }) : KindRound bs i := by
  intro Q hQ
  obtain ⟨h1, hi, hk, hF1, hF2⟩ := h
  dsimp only at hF1 hF2
  have hml : ((ofB bs).map tokRow).length = (ofB bs).length := List.length_map ..
  have hg : ((ofB bs).map tokRow)[i]? = some (tokRow { kind := 7, n := n }) := by simp [hk]
  conv => whnf
  repeat' first
    | (refine Case.not ?_; conv => whnf)
    | (refine Case.yes ?_; conv => whnf)
    | (refine Case.no ?_; conv => whnf)
    | (refine Case.isTrue (by assumption) ?_; conv => whnf)
    | (refine Case.isFalse (by assumption) ?_; conv => whnf)
    | (refine Case.decT (by assumption) ?_; conv => whnf)
    | (refine Case.decF (by assumption) ?_; conv => whnf)
    | (refine Case.decT (by omega) ?_; conv => whnf)
    | (refine Case.decF (by omega) ?_; conv => whnf)
    | (refine Case.beqT (by omega) ?_; conv => whnf)
    | (refine Case.beqF (by omega) ?_; conv => whnf)
    | (refine Case.strT (by assumption) ?_; conv => whnf)
    | (refine Case.strF (by assumption) ?_; conv => whnf)
    | (refine Case.strF (by simp only [*]; decide) ?_; conv => whnf)
    | (refine Owes.mk toks4_row ?_; conv => whnf)
    | (refine Elem.mk i _ rfl hg ?_; conv => whnf)
    | (refine Case.strT rfl ?_; conv => whnf)
    | (refine step_kinds 2 ?hk ?_; (case hk => decide +kernel); conv => whnf)
    | (refine step_kinds 3 ?hk ?_; (case hk => decide +kernel); conv => whnf)
    | (refine step_auto 2 ?hk ?_; (case hk => decide +kernel); conv => whnf)
    | (refine step_auto 3 ?hk ?_; (case hk => decide +kernel); conv => whnf)
    | (refine Num.id (by omega) (by omega) ?_; conv => whnf)
    | (refine Case.strI (fun _ => ?_) (fun _ => ?_) <;> conv => whnf)
    | (refine Both.mk ?_ ?_ <;> conv => whnf)
    | (refine Case.dec (fun _ => ?_) (fun _ => ?_) <;> conv => whnf)
    | (refine Case.beqI (fun _ => ?_) (fun _ => ?_) <;> conv => whnf)
    | (refine Case.mk (fun _ => ?_) (fun _ => ?_) <;> conv => whnf)
    | (refine Way.fst ?_; conv => whnf)
  all_goals first | (refine hQ _ _ _ ?_) | (exfalso; dsimp only at *; omega)
  all_goals
    repeat' first | exact trivial | exact rfl | exact Nat.zero_le _ | exact Nat.zero_lt_succ _ | exact (by decide : (0 : Nat) < 1) | exact (by decide : (1 : Nat) < 4) | exact (by decide : (2 : Nat) < 4) | exact (by decide : (3 : Nat) < 4) | exact (by decide : (1 : Nat) < 2) | exact (by decide : (2 : Nat) < 3) | exact congrArg int (by (try dsimp only); omega) | exact congrArg bool (by (try dsimp only); simp; omega) | (show _ < List.length _; simp; done) | apply And.intro
set_option maxHeartbeats 4000000 in
theorem kinds_r8 {bs : List UInt8} {i : Nat} {n : Int} {text : List UInt8} (k7 : text ≠ []) (h : KindAt bs i { kind := 8, text := text, n := n }) : KindRound bs i := by
  intro Q hQ
  obtain ⟨h1, hi, hk, hF1, hF2⟩ := h
  dsimp only at hF1 hF2
  have hml : ((ofB bs).map tokRow).length = (ofB bs).length := List.length_map ..
  have hg : ((ofB bs).map tokRow)[i]? = some (tokRow { kind := 8, text := text, n := n }) := by simp [hk]
  conv => whnf
  repeat' first
    | (refine Case.not ?_; conv => whnf)
    | (refine Case.yes ?_; conv => whnf)
    | (refine Case.no ?_; conv => whnf)
    | (refine Case.isTrue (by assumption) ?_; conv => whnf)
    | (refine Case.isFalse (by assumption) ?_; conv => whnf)
    | (refine Case.decT (by assumption) ?_; conv => whnf)
    | (refine Case.decF (by assumption) ?_; conv => whnf)
    | (refine Case.decT (by omega) ?_; conv => whnf)
    | (refine Case.decF (by omega) ?_; conv => whnf)
    | (refine Case.beqT (by omega) ?_; conv => whnf)
    | (refine Case.beqF (by omega) ?_; conv => whnf)
    | (refine Case.strT (by assumption) ?_; conv => whnf)
    | (refine Case.strF (by assumption) ?_; conv => whnf)
    | (refine Case.strF (by simp only [*]; decide) ?_; conv => whnf)
    | (refine Owes.mk toks4_row ?_; conv => whnf)
    | (refine Elem.mk i _ rfl hg ?_; conv => whnf)
    | (refine Case.strT rfl ?_; conv => whnf)
    | (refine step_kinds 2 ?hk ?_; (case hk => decide +kernel); conv => whnf)
    | (refine step_kinds 3 ?hk ?_; (case hk => decide +kernel); conv => whnf)
    | (refine step_auto 2 ?hk ?_; (case hk => decide +kernel); conv => whnf)
    | (refine step_auto 3 ?hk ?_; (case hk => decide +kernel); conv => whnf)
    | (refine Num.id (by omega) (by omega) ?_; conv => whnf)
    | (refine Case.strI (fun _ => ?_) (fun _ => ?_) <;> conv => whnf)
    | (refine Both.mk ?_ ?_ <;> conv => whnf)
    | (refine Case.dec (fun _ => ?_) (fun _ => ?_) <;> conv => whnf)
    | (refine Case.beqI (fun _ => ?_) (fun _ => ?_) <;> conv => whnf)
    | (refine Case.mk (fun _ => ?_) (fun _ => ?_) <;> conv => whnf)
    | (refine Way.fst ?_; conv => whnf)
  all_goals first | (refine hQ _ _ _ ?_) | (exfalso; dsimp only at *; omega)
  all_goals
    repeat' first | exact trivial | exact rfl | exact Nat.zero_le _ | exact Nat.zero_lt_succ _ | exact (by decide : (0 : Nat) < 1) | exact (by decide : (1 : Nat) < 4) | exact (by decide : (2 : Nat) < 4) | exact (by decide : (3 : Nat) < 4) | exact (by decide : (1 : Nat) < 2) | exact (by decide : (2 : Nat) < 3) | exact congrArg int (by (try dsimp only); omega) | exact congrArg bool (by (try dsimp only); simp; omega) | (show _ < List.length _; simp; done) | apply And.intro
set_option maxHeartbeats 4000000 in
theorem kinds_r9 {bs : List UInt8} {i : Nat} (hcm0 : Pure 24 [.f (.sl (bs.map byteRow))] (bool (comB bs))) (hww : ∀ k', 0 < i → (ofB bs)[i - 1]? = some k' → comB bs = false → ¬ k'.kind = 9) (h : KindAt bs i { kind := 9 }) : KindRound bs i := by
  intro Q hQ
  obtain ⟨h1, hi, hk, hF1, hF2⟩ := h
  dsimp only at hF1 hF2
  have hml : ((ofB bs).map tokRow).length = (ofB bs).length := List.length_map ..
  have hg : ((ofB bs).map tokRow)[i]? = some (tokRow { kind := 9 }) := by simp [hk]
  by_cases hp : 0 < i
  · obtain ⟨k', hk'⟩ : ∃ k', (ofB bs)[i - 1]? = some k' := ⟨_, List.getElem?_eq_getElem (by omega)⟩
    have hg' : ((ofB bs).map tokRow)[i - 1]? = some (tokRow k') := by simp [hk']
    have hw := hww k' hp hk'
    have hcm := hcm0
    clear hww hcm0
    cases hcb : comB bs with
    | true =>
      rw [hcb] at hcm
      clear hw
      conv => whnf
      repeat' first
        | (refine Case.not ?_; conv => whnf)
        | (refine Case.yes ?_; conv => whnf)
        | (refine Case.no ?_; conv => whnf)
        | (refine Case.isTrue (by assumption) ?_; conv => whnf)
        | (refine Case.isFalse (by assumption) ?_; conv => whnf)
        | (refine Case.decT (by assumption) ?_; conv => whnf)
        | (refine Case.decF (by assumption) ?_; conv => whnf)
        | (refine Case.decT (by omega) ?_; conv => whnf)
        | (refine Case.decF (by omega) ?_; conv => whnf)
        | (refine Case.beqT (by omega) ?_; conv => whnf)
        | (refine Case.beqF (by omega) ?_; conv => whnf)
        | (refine Case.strT (by assumption) ?_; conv => whnf)
        | (refine Case.strF (by assumption) ?_; conv => whnf)
        | (refine Case.strF (by simp only [*]; decide) ?_; conv => whnf)
        | (refine Owes.mk toks4_row ?_; conv => whnf)
        | (refine Elem.mk i _ rfl hg ?_; conv => whnf)
        | (refine Elem.mk (i - 1) _ (by omega) hg' ?_; conv => whnf)
        | (refine hcm.call ⟨rfl, rfl⟩ ?_; conv => whnf)
        | (refine hcm.callB ⟨rfl, rfl⟩ ?_; conv => whnf)
        | (refine Case.strT rfl ?_; conv => whnf)
        | (refine step_kinds 2 ?hk ?_; (case hk => decide +kernel); conv => whnf)
        | (refine step_kinds 3 ?hk ?_; (case hk => decide +kernel); conv => whnf)
        | (refine step_auto 2 ?hk ?_; (case hk => decide +kernel); conv => whnf)
        | (refine step_auto 3 ?hk ?_; (case hk => decide +kernel); conv => whnf)
        | (refine Num.id (by omega) (by omega) ?_; conv => whnf)
        | (refine Case.strI (fun _ => ?_) (fun _ => ?_) <;> conv => whnf)
        | (refine Both.mk ?_ ?_ <;> conv => whnf)
        | (refine Case.dec (fun _ => ?_) (fun _ => ?_) <;> conv => whnf)
        | (refine Case.beqI (fun _ => ?_) (fun _ => ?_) <;> conv => whnf)
        | (refine Case.mk (fun _ => ?_) (fun _ => ?_) <;> conv => whnf)
        | (refine Way.fst ?_; conv => whnf)
      all_goals first | (refine hQ _ _ _ ?_) | (exfalso; dsimp only at *; omega)
      all_goals
        repeat' first | exact trivial | exact rfl | exact Nat.zero_le _ | exact Nat.zero_lt_succ _ | exact (by decide : (0 : Nat) < 1) | exact (by decide : (1 : Nat) < 4) | exact (by decide : (2 : Nat) < 4) | exact (by decide : (3 : Nat) < 4) | exact (by decide : (1 : Nat) < 2) | exact (by decide : (2 : Nat) < 3) | exact congrArg int (by (try dsimp only); omega) | exact congrArg bool (by (try dsimp only); simp; omega) | (show _ < List.length _; simp; done) | apply And.intro
    | false =>
      rw [hcb] at hcm
      have hn9 : ¬ k'.kind = 9 := hw hcb
      clear hw
      conv => whnf
      repeat' first
        | (refine Case.not ?_; conv => whnf)
        | (refine Case.yes ?_; conv => whnf)
        | (refine Case.no ?_; conv => whnf)
        | (refine Case.isTrue (by assumption) ?_; conv => whnf)
        | (refine Case.isFalse (by assumption) ?_; conv => whnf)
        | (refine Case.decT (by assumption) ?_; conv => whnf)
        | (refine Case.decF (by assumption) ?_; conv => whnf)
        | (refine Case.decT (by omega) ?_; conv => whnf)
        | (refine Case.decF (by omega) ?_; conv => whnf)
        | (refine Case.beqT (by omega) ?_; conv => whnf)
        | (refine Case.beqF (by omega) ?_; conv => whnf)
        | (refine Case.strT (by assumption) ?_; conv => whnf)
        | (refine Case.strF (by assumption) ?_; conv => whnf)
        | (refine Case.strF (by simp only [*]; decide) ?_; conv => whnf)
        | (refine Owes.mk toks4_row ?_; conv => whnf)
        | (refine Elem.mk i _ rfl hg ?_; conv => whnf)
        | (refine Elem.mk (i - 1) _ (by omega) hg' ?_; conv => whnf)
        | (refine hcm.call ⟨rfl, rfl⟩ ?_; conv => whnf)
        | (refine hcm.callB ⟨rfl, rfl⟩ ?_; conv => whnf)
        | (refine Case.strT rfl ?_; conv => whnf)
        | (refine step_kinds 2 ?hk ?_; (case hk => decide +kernel); conv => whnf)
        | (refine step_kinds 3 ?hk ?_; (case hk => decide +kernel); conv => whnf)
        | (refine step_auto 2 ?hk ?_; (case hk => decide +kernel); conv => whnf)
        | (refine step_auto 3 ?hk ?_; (case hk => decide +kernel); conv => whnf)
        | (refine Num.id (by omega) (by omega) ?_; conv => whnf)
        | (refine Case.strI (fun _ => ?_) (fun _ => ?_) <;> conv => whnf)
        | (refine Both.mk ?_ ?_ <;> conv => whnf)
        | (refine Case.dec (fun _ => ?_) (fun _ => ?_) <;> conv => whnf)
        | (refine Case.beqI (fun _ => ?_) (fun _ => ?_) <;> conv => whnf)
        | (refine Case.mk (fun _ => ?_) (fun _ => ?_) <;> conv => whnf)
        | (refine Way.fst ?_; conv => whnf)
      all_goals first | (refine hQ _ _ _ ?_) | (exfalso; dsimp only at *; omega)
      all_goals
        repeat' first | exact trivial | exact rfl | exact Nat.zero_le _ | exact Nat.zero_lt_succ _ | exact (by decide : (0 : Nat) < 1) | exact (by decide : (1 : Nat) < 4) | exact (by decide : (2 : Nat) < 4) | exact (by decide : (3 : Nat) < 4) | exact (by decide : (1 : Nat) < 2) | exact (by decide : (2 : Nat) < 3) | exact congrArg int (by (try dsimp only); omega) | exact congrArg bool (by (try dsimp only); simp; omega) | (show _ < List.length _; simp; done) | apply And.intro
  · clear hww hcm0
    conv => whnf
    repeat' first
      | (refine Case.not ?_; conv => whnf)
      | (refine Case.yes ?_; conv => whnf)
      | (refine Case.no ?_; conv => whnf)
      | (refine Case.isTrue (by assumption) ?_; conv => whnf)
      | (refine Case.isFalse (by assumption) ?_; conv => whnf)
      | (refine Case.decT (by assumption) ?_; conv => whnf)
      | (refine Case.decF (by assumption) ?_; conv => whnf)
      | (refine Case.decT (by omega) ?_; conv => whnf)
      | (refine Case.decF (by omega) ?_; conv => whnf)
      | (refine Case.beqT (by omega) ?_; conv => whnf)
      | (refine Case.beqF (by omega) ?_; conv => whnf)
      | (refine Case.strT (by assumption) ?_; conv => whnf)
      | (refine Case.strF (by assumption) ?_; conv => whnf)
      | (refine Case.strF (by simp only [*]; decide) ?_; conv => whnf)
      | (refine Owes.mk toks4_row ?_; conv => whnf)
      | (refine Elem.mk i _ rfl hg ?_; conv => whnf)
      | (refine Case.strT rfl ?_; conv => whnf)
      | (refine step_kinds 2 ?hk ?_; (case hk => decide +kernel); conv => whnf)
      | (refine step_kinds 3 ?hk ?_; (case hk => decide +kernel); conv => whnf)
      | (refine step_auto 2 ?hk ?_; (case hk => decide +kernel); conv => whnf)
      | (refine step_auto 3 ?hk ?_; (case hk => decide +kernel); conv => whnf)
      | (refine Num.id (by omega) (by omega) ?_; conv => whnf)
      | (refine Case.strI (fun _ => ?_) (fun _ => ?_) <;> conv => whnf)
      | (refine Both.mk ?_ ?_ <;> conv => whnf)
      | (refine Case.dec (fun _ => ?_) (fun _ => ?_) <;> conv => whnf)
      | (refine Case.beqI (fun _ => ?_) (fun _ => ?_) <;> conv => whnf)
      | (refine Case.mk (fun _ => ?_) (fun _ => ?_) <;> conv => whnf)
      | (refine Way.fst ?_; conv => whnf)
    all_goals first | (refine hQ _ _ _ ?_) | (exfalso; dsimp only at *; omega)
    all_goals
      repeat' first | exact trivial | exact rfl | exact Nat.zero_le _ | exact Nat.zero_lt_succ _ | exact (by decide : (0 : Nat) < 1) | exact (by decide : (1 : Nat) < 4) | exact (by decide : (2 : Nat) < 4) | exact (by decide : (3 : Nat) < 4) | exact (by decide : (1 : Nat) < 2) | exact (by decide : (2 : Nat) < 3) | exact congrArg int (by (try dsimp only); omega) | exact congrArg bool (by (try dsimp only); simp; omega) | (show _ < List.length _; simp; done) | apply And.intro
set_option maxHeartbeats 4000000 in
theorem kinds_r10 {bs : List UInt8} {i : Nat} {c : Int} (h : KindAt bs i { kind := 10, c := c }) : KindRound bs i := by
  intro Q hQ
  obtain ⟨h1, hi, hk, hF1, hF2⟩ := h
  dsimp only at hF1 hF2
  have hml : ((ofB bs).map tokRow).length = (ofB bs).length := List.length_map ..
  have hg : ((ofB bs).map tokRow)[i]? = some (tokRow { kind := 10, c := c }) := by simp [hk]
  conv => whnf
  repeat' first
    | (refine Case.not ?_; conv => whnf)
    | (refine Case.yes ?_; conv => whnf)
    | (refine Case.no ?_; conv => whnf)
    | (refine Case.isTrue (by assumption) ?_; conv => whnf)
    | (refine Case.isFalse (by assumption) ?_; conv => whnf)
    | (refine Case.decT (by assumption) ?_; conv => whnf)
    | (refine Case.decF (by assumption) ?_; conv => whnf)
    | (refine Case.decT (by omega) ?_; conv => whnf)
    | (refine Case.decF (by omega) ?_; conv => whnf)
    | (refine Case.beqT (by omega) ?_; conv => whnf)
    | (refine Case.beqF (by omega) ?_; conv => whnf)
    | (refine Case.strT (by assumption) ?_; conv => whnf)
    | (refine Case.strF (by assumption) ?_; conv => whnf)
    | (refine Case.strF (by simp only [*]; decide) ?_; conv => whnf)
    | (refine Owes.mk toks4_row ?_; conv => whnf)
    | (refine Elem.mk i _ rfl hg ?_; conv => whnf)
    | (refine Case.strT rfl ?_; conv => whnf)
    | (refine step_kinds 2 ?hk ?_; (case hk => decide +kernel); conv => whnf)
    | (refine step_kinds 3 ?hk ?_; (case hk => decide +kernel); conv => whnf)
    | (refine step_auto 2 ?hk ?_; (case hk => decide +kernel); conv => whnf)
    | (refine step_auto 3 ?hk ?_; (case hk => decide +kernel); conv => whnf)
    | (refine Num.id (by omega) (by omega) ?_; conv => whnf)
    | (refine Case.strI (fun _ => ?_) (fun _ => ?_) <;> conv => whnf)
    | (refine Both.mk ?_ ?_ <;> conv => whnf)
    | (refine Case.dec (fun _ => ?_) (fun _ => ?_) <;> conv => whnf)
    | (refine Case.beqI (fun _ => ?_) (fun _ => ?_) <;> conv => whnf)
    | (refine Case.mk (fun _ => ?_) (fun _ => ?_) <;> conv => whnf)
    | (refine Way.fst ?_; conv => whnf)
  all_goals first | (refine hQ _ _ _ ?_) | (exfalso; dsimp only at *; omega)
  all_goals
    repeat' first | exact trivial | exact rfl | exact Nat.zero_le _ | exact Nat.zero_lt_succ _ | exact (by decide : (0 : Nat) < 1) | exact (by decide : (1 : Nat) < 4) | exact (by decide : (2 : Nat) < 4) | exact (by decide : (3 : Nat) < 4) | exact (by decide : (1 : Nat) < 2) | exact (by decide : (2 : Nat) < 3) | exact congrArg int (by (try dsimp only); omega) | exact congrArg bool (by (try dsimp only); simp; omega) | (show _ < List.length _; simp; done) | apply And.intro
set_option maxHeartbeats 4000000 in
theorem kinds_r11 {bs : List UInt8} {i : Nat} {kd : Int} (hkd : 11 ≤ kd ∧ kd ≤ 19) (h : KindAt bs i { kind := kd }) : KindRound bs i := by
  intro Q hQ
  obtain ⟨h1, hi, hk, hF1, hF2⟩ := h
  dsimp only at hF1 hF2
  have hml : ((ofB bs).map tokRow).length = (ofB bs).length := List.length_map ..
  have hg : ((ofB bs).map tokRow)[i]? = some (tokRow { kind := kd }) := by simp [hk]
  conv => whnf
  repeat' first
    | (refine Case.not ?_; conv => whnf)
    | (refine Case.yes ?_; conv => whnf)
    | (refine Case.no ?_; conv => whnf)
    | (refine Case.isTrue (by assumption) ?_; conv => whnf)
    | (refine Case.isFalse (by assumption) ?_; conv => whnf)
    | (refine Case.decT (by assumption) ?_; conv => whnf)
    | (refine Case.decF (by assumption) ?_; conv => whnf)
    | (refine Case.decT (by omega) ?_; conv => whnf)
    | (refine Case.decF (by omega) ?_; conv => whnf)
    | (refine Case.beqT (by omega) ?_; conv => whnf)
    | (refine Case.beqF (by omega) ?_; conv => whnf)
    | (refine Case.strT (by assumption) ?_; conv => whnf)
    | (refine Case.strF (by assumption) ?_; conv => whnf)
    | (refine Case.strF (by simp only [*]; decide) ?_; conv => whnf)
    | (refine Owes.mk toks4_row ?_; conv => whnf)
    | (refine Elem.mk i _ rfl hg ?_; conv => whnf)
    | (refine Case.strT rfl ?_; conv => whnf)
    | (refine step_kinds 2 ?hk ?_; (case hk => decide +kernel); conv => whnf)
    | (refine step_kinds 3 ?hk ?_; (case hk => decide +kernel); conv => whnf)
    | (refine step_auto 2 ?hk ?_; (case hk => decide +kernel); conv => whnf)
    | (refine step_auto 3 ?hk ?_; (case hk => decide +kernel); conv => whnf)
    | (refine Num.id (by omega) (by omega) ?_; conv => whnf)
    | (refine Case.strI (fun _ => ?_) (fun _ => ?_) <;> conv => whnf)
    | (refine Both.mk ?_ ?_ <;> conv => whnf)
    | (refine Case.dec (fun _ => ?_) (fun _ => ?_) <;> conv => whnf)
    | (refine Case.beqI (fun _ => ?_) (fun _ => ?_) <;> conv => whnf)
    | (refine Case.mk (fun _ => ?_) (fun _ => ?_) <;> conv => whnf)
    | (refine Way.fst ?_; conv => whnf)
  all_goals first | (refine hQ _ _ _ ?_) | (exfalso; dsimp only at *; omega)
  all_goals
    repeat' first | exact trivial | exact rfl | exact Nat.zero_le _ | exact Nat.zero_lt_succ _ | exact (by decide : (0 : Nat) < 1) | exact (by decide : (1 : Nat) < 4) | exact (by decide : (2 : Nat) < 4) | exact (by decide : (3 : Nat) < 4) | exact (by decide : (1 : Nat) < 2) | exact (by decide : (2 : Nat) < 3) | exact congrArg int (by (try dsimp only); omega) | exact congrArg bool (by (try dsimp only); simp; omega) | (show _ < List.length _; simp; done) | apply And.intro
end Go.Proofs.YtpkgnaajcibgnaaDoor.Aw
