/- TokKinds: the walk. -/
import Derived.Test.YtpkgnaajcibgnaaDoorXzK
namespace Go.Proofs.YtpkgnaajcibgnaaDoor.Aw
open Go Go.RowKit Go.Lib
set_option linter.unusedVariables false
set_option linter.unusedSimpArgs false
set_option maxRecDepth 100000
/-- The first loop of a text. -/
noncomputable def firstLoop : Code → Option Code
  | .loop k => some k
  | .seq a b => (match firstLoop a with
    | some k => some k
    | none => firstLoop b)
  | .block _ c => firstLoop c
  | .cond _ a b => (match firstLoop a with
    | some k => some k
    | none => firstLoop b)
  | _ => none
noncomputable def kindsBody : Code := (firstLoop (Tryd.f13.body.getD .skip)).getD .skip
abbrev kindsPat (bs : List UInt8) (i : Nat) : List D := padK [.f (.sl (bs.map byteRow)), .junk, .junk, bool true, .f (.sl ((ofB bs).map tokRow)), int i] 166
/-- A round at a token of this kind. -/
def KindRound (bs : List UInt8) (i : Nat) : Prop := ∀ (Q : X → List D → Hp → Nat → Prop), (∀ E H n, Into E H n (kindsPat bs (i + 1)) [] 0 → Q .normal E H n) → layK (kindsPat bs i) fun E => awp P tab kindsBody Q E [] 0
structure KindAt (bs : List UInt8) (i : Nat) (k : Tok) : Prop where
  len : (ofB bs).length ≤ 1000
  hi : i < (ofB bs).length
  hk : (ofB bs)[i]? = some k
  lo : -2147483647 ≤ k.n
  hi2 : k.n ≤ 2147483647
set_option maxHeartbeats 4000000 in
theorem kinds_r1 {bs : List UInt8} {i : Nat} {text : List UInt8} (k7 : text ≠ []) (h : KindAt bs i { kind := 1, text := text }) : KindRound bs i := by
  intro Q hQ
  obtain ⟨h1, hi, hk, hF1, hF2⟩ := h
  dsimp only at hF1 hF2
  have hml : ((ofB bs).map tokRow).length = (ofB bs).length := List.length_map ..
  have hg : ((ofB bs).map tokRow)[i]? = some (tokRow { kind := 1, text := text }) := by simp [hk]
  conv => whnf
  repeat' first
    | (refine Case.not ?_; conv => whnf)
    | (refine Case.yes ?_; conv => whnf)
    | (refine Case.no ?_; conv => whnf)
    | (refine Case.isTrue (by assumption) ?_; conv => whnf)
    | (refine Case.isFalse (by assumption) ?_; conv => whnf)
    | (refine Case.decT (by assumption) ?_; conv => whnf)
    | (refine Case.decF (by assumption) ?_; conv => whnf)
    | (refine Case.decT (by omega) ?_; conv => whnf)
    | (refine Case.decF (by omega) ?_; conv => whnf)
    | (refine Case.beqT (by omega) ?_; conv => whnf)
    | (refine Case.beqF (by omega) ?_; conv => whnf)
    | (refine Case.strT (by assumption) ?_; conv => whnf)
    | (refine Case.strF (by assumption) ?_; conv => whnf)
    | (refine Case.strF (by simp only [*]; decide) ?_; conv => whnf)
    | (refine Owes.mk toks4_row ?_; conv => whnf)
    | (refine Elem.mk i _ rfl hg ?_; conv => whnf)
    | (refine Case.strT rfl ?_; conv => whnf)
    | (refine step_kinds 2 ?hk ?_; (case hk => decide +kernel); conv => whnf)
    | (refine step_kinds 3 ?hk ?_; (case hk => decide +kernel); conv => whnf)
    | (refine step_auto 2 ?hk ?_; (case hk => decide +kernel); conv => whnf)
    | (refine step_auto 3 ?hk ?_; (case hk => decide +kernel); conv => whnf)
    | (refine Num.id (by omega) (by omega) ?_; conv => whnf)
    | (refine Case.strI (fun _ => ?_) (fun _ => ?_) <;> conv => whnf)
    | (refine Both.mk ?_ ?_ <;> conv => whnf)
    | (refine Case.dec (fun _ => ?_) (fun _ => ?_) <;> conv => whnf)
    | (refine Case.beqI (fun _ => ?_) (fun _ => ?_) <;> conv => whnf)
    | (refine Case.mk (fun _ => ?_) (fun _ => ?_) <;> conv => whnf)
    | (refine Way.fst ?_; conv => whnf)
  all_goals refine hQ _ _ _ ?_
  all_goals
    repeat' first | exact trivial | exact rfl | exact Nat.zero_le _ | exact Nat.zero_lt_succ _ | exact (by decide : (0 : Nat) < 1) | exact (by decide : (1 : Nat) < 4) | exact (by decide : (2 : Nat) < 4) | exact (by decide : (3 : Nat) < 4) | exact (by decide : (1 : Nat) < 2) | exact (by decide : (2 : Nat) < 3) | exact congrArg int (by (try dsimp only); omega) | exact congrArg bool (by (try dsimp only); simp; omega) | (show _ < List.length _; simp; done) | apply And.intro
set_option maxHeartbeats 4000000 in
theorem kinds_r2 {bs : List UInt8} {i : Nat} {text : List UInt8} (k7 : text ≠ []) (h : KindAt bs i { kind := 2, text := text }) : KindRound bs i := by
  intro Q hQ
  obtain ⟨h1, hi, hk, hF1, hF2⟩ := h
  dsimp only at hF1 hF2
  have hml : ((ofB bs).map tokRow).length = (ofB bs).length := List.length_map ..
  have hg : ((ofB bs).map tokRow)[i]? = some (tokRow { kind := 2, text := text }) := by simp [hk]
  conv => whnf
  repeat' first
    | (refine Case.not ?_; conv => whnf)
    | (refine Case.yes ?_; conv => whnf)
    | (refine Case.no ?_; conv => whnf)
    | (refine Case.isTrue (by assumption) ?_; conv => whnf)
    | (refine Case.isFalse (by assumption) ?_; conv => whnf)
    | (refine Case.decT (by assumption) ?_; conv => whnf)
    | (refine Case.decF (by assumption) ?_; conv => whnf)
    | (refine Case.decT (by omega) ?_; conv => whnf)
    | (refine Case.decF (by omega) ?_; conv => whnf)
    | (refine Case.beqT (by omega) ?_; conv => whnf)
    | (refine Case.beqF (by omega) ?_; conv => whnf)
    | (refine Case.strT (by assumption) ?_; conv => whnf)
    | (refine Case.strF (by assumption) ?_; conv => whnf)
    | (refine Case.strF (by simp only [*]; decide) ?_; conv => whnf)
    | (refine Owes.mk toks4_row ?_; conv => whnf)
    | (refine Elem.mk i _ rfl hg ?_; conv => whnf)
    | (refine Case.strT rfl ?_; conv => whnf)
    | (refine step_kinds 2 ?hk ?_; (case hk => decide +kernel); conv => whnf)
    | (refine step_kinds 3 ?hk ?_; (case hk => decide +kernel); conv => whnf)
    | (refine step_auto 2 ?hk ?_; (case hk => decide +kernel); conv => whnf)
    | (refine step_auto 3 ?hk ?_; (case hk => decide +kernel); conv => whnf)
    | (refine Num.id (by omega) (by omega) ?_; conv => whnf)
    | (refine Case.strI (fun _ => ?_) (fun _ => ?_) <;> conv => whnf)
    | (refine Both.mk ?_ ?_ <;> conv => whnf)
    | (refine Case.dec (fun _ => ?_) (fun _ => ?_) <;> conv => whnf)
    | (refine Case.beqI (fun _ => ?_) (fun _ => ?_) <;> conv => whnf)
    | (refine Case.mk (fun _ => ?_) (fun _ => ?_) <;> conv => whnf)
    | (refine Way.fst ?_; conv => whnf)
  all_goals refine hQ _ _ _ ?_
  all_goals
    repeat' first | exact trivial | exact rfl | exact Nat.zero_le _ | exact Nat.zero_lt_succ _ | exact (by decide : (0 : Nat) < 1) | exact (by decide : (1 : Nat) < 4) | exact (by decide : (2 : Nat) < 4) | exact (by decide : (3 : Nat) < 4) | exact (by decide : (1 : Nat) < 2) | exact (by decide : (2 : Nat) < 3) | exact congrArg int (by (try dsimp only); omega) | exact congrArg bool (by (try dsimp only); simp; omega) | (show _ < List.length _; simp; done) | apply And.intro
set_option maxHeartbeats 4000000 in
theorem kinds_r3 {bs : List UInt8} {i : Nat} {text : List UInt8} (k7 : text ≠ []) (h : KindAt bs i { kind := 3, text := text }) : KindRound bs i := by
  intro Q hQ
  obtain ⟨h1, hi, hk, hF1, hF2⟩ := h
  dsimp only at hF1 hF2
  have hml : ((ofB bs).map tokRow).length = (ofB bs).length := List.length_map ..
  have hg : ((ofB bs).map tokRow)[i]? = some (tokRow { kind := 3, text := text }) := by simp [hk]
  conv => whnf
  repeat' first
    | (refine Case.not ?_; conv => whnf)
    | (refine Case.yes ?_; conv => whnf)
    | (refine Case.no ?_; conv => whnf)
    | (refine Case.isTrue (by assumption) ?_; conv => whnf)
    | (refine Case.isFalse (by assumption) ?_; conv => whnf)
    | (refine Case.decT (by assumption) ?_; conv => whnf)
    | (refine Case.decF (by assumption) ?_; conv => whnf)
    | (refine Case.decT (by omega) ?_; conv => whnf)
    | (refine Case.decF (by omega) ?_; conv => whnf)
    | (refine Case.beqT (by omega) ?_; conv => whnf)
    | (refine Case.beqF (by omega) ?_; conv => whnf)
    | (refine Case.strT (by assumption) ?_; conv => whnf)
    | (refine Case.strF (by assumption) ?_; conv => whnf)
    | (refine Case.strF (by simp only [*]; decide) ?_; conv => whnf)
    | (refine Owes.mk toks4_row ?_; conv => whnf)
    | (refine Elem.mk i _ rfl hg ?_; conv => whnf)
    | (refine Case.strT rfl ?_; conv => whnf)
    | (refine step_kinds 2 ?hk ?_; (case hk => decide +kernel); conv => whnf)
    | (refine step_kinds 3 ?hk ?_; (case hk => decide +kernel); conv => whnf)
    | (refine step_auto 2 ?hk ?_; (case hk => decide +kernel); conv => whnf)
    | (refine step_auto 3 ?hk ?_; (case hk => decide +kernel); conv => whnf)
    | (refine Num.id (by omega) (by omega) ?_; conv => whnf)
    | (refine Case.strI (fun _ => ?_) (fun _ => ?_) <;> conv => whnf)
    | (refine Both.mk ?_ ?_ <;> conv => whnf)
    | (refine Case.dec (fun _ => ?_) (fun _ => ?_) <;> conv => whnf)
    | (refine Case.beqI (fun _ => ?_) (fun _ => ?_) <;> conv => whnf)
    | (refine Case.mk (fun _ => ?_) (fun _ => ?_) <;> conv => whnf)
    | (refine Way.fst ?_; conv => whnf)
  all_goals refine hQ _ _ _ ?_
  all_goals
    repeat' first | exact trivial | exact rfl | exact Nat.zero_le _ | exact Nat.zero_lt_succ _ | exact (by decide : (0 : Nat) < 1) | exact (by decide : (1 : Nat) < 4) | exact (by decide : (2 : Nat) < 4) | exact (by decide : (3 : Nat) < 4) | exact (by decide : (1 : Nat) < 2) | exact (by decide : (2 : Nat) < 3) | exact congrArg int (by (try dsimp only); omega) | exact congrArg bool (by (try dsimp only); simp; omega) | (show _ < List.length _; simp; done) | apply And.intro
set_option maxHeartbeats 4000000 in
theorem kinds_r20 {bs : List UInt8} {i : Nat} {text : List UInt8} (k7 : text ≠ []) (h : KindAt bs i { kind := 20, text := text }) : KindRound bs i := by
  intro Q hQ
  obtain ⟨h1, hi, hk, hF1, hF2⟩ := h
  dsimp only at hF1 hF2
  have hml : ((ofB bs).map tokRow).length = (ofB bs).length := List.length_map ..
  have hg : ((ofB bs).map tokRow)[i]? = some (tokRow { kind := 20, text := text }) := by simp [hk]
  conv => whnf
  repeat' first
    | (refine Case.not ?_; conv => whnf)
    | (refine Case.yes ?_; conv => whnf)
    | (refine Case.no ?_; conv => whnf)
    | (refine Case.isTrue (by assumption) ?_; conv => whnf)
    | (refine Case.isFalse (by assumption) ?_; conv => whnf)
    | (refine Case.decT (by assumption) ?_; conv => whnf)
    | (refine Case.decF (by assumption) ?_; conv => whnf)
    | (refine Case.decT (by omega) ?_; conv => whnf)
    | (refine Case.decF (by omega) ?_; conv => whnf)
    | (refine Case.beqT (by omega) ?_; conv => whnf)
    | (refine Case.beqF (by omega) ?_; conv => whnf)
    | (refine Case.strT (by assumption) ?_; conv => whnf)
    | (refine Case.strF (by assumption) ?_; conv => whnf)
    | (refine Case.strF (by simp only [*]; decide) ?_; conv => whnf)
    | (refine Owes.mk toks4_row ?_; conv => whnf)
    | (refine Elem.mk i _ rfl hg ?_; conv => whnf)
    | (refine Case.strT rfl ?_; conv => whnf)
    | (refine step_kinds 2 ?hk ?_; (case hk => decide +kernel); conv => whnf)
    | (refine step_kinds 3 ?hk ?_; (case hk => decide +kernel); conv => whnf)
    | (refine step_auto 2 ?hk ?_; (case hk => decide +kernel); conv => whnf)
    | (refine step_auto 3 ?hk ?_; (case hk => decide +kernel); conv => whnf)
    | (refine Num.id (by omega) (by omega) ?_; conv => whnf)
    | (refine Case.strI (fun _ => ?_) (fun _ => ?_) <;> conv => whnf)
    | (refine Both.mk ?_ ?_ <;> conv => whnf)
    | (refine Case.dec (fun _ => ?_) (fun _ => ?_) <;> conv => whnf)
    | (refine Case.beqI (fun _ => ?_) (fun _ => ?_) <;> conv => whnf)
    | (refine Case.mk (fun _ => ?_) (fun _ => ?_) <;> conv => whnf)
    | (refine Way.fst ?_; conv => whnf)
  all_goals refine hQ _ _ _ ?_
  all_goals
    repeat' first | exact trivial | exact rfl | exact Nat.zero_le _ | exact Nat.zero_lt_succ _ | exact (by decide : (0 : Nat) < 1) | exact (by decide : (1 : Nat) < 4) | exact (by decide : (2 : Nat) < 4) | exact (by decide : (3 : Nat) < 4) | exact (by decide : (1 : Nat) < 2) | exact (by decide : (2 : Nat) < 3) | exact congrArg int (by (try dsimp only); omega) | exact congrArg bool (by (try dsimp only); simp; omega) | (show _ < List.length _; simp; done) | apply And.intro
set_option maxHeartbeats 4000000 in
theorem kinds_r4 {bs : List UInt8} {i : Nat} {text : List UInt8} (h : KindAt bs i { kind := 4, text := text }) : KindRound bs i := by
  intro Q hQ
  obtain ⟨h1, hi, hk, hF1, hF2⟩ := h
  dsimp only at hF1 hF2
  have hml : ((ofB bs).map tokRow).length = (ofB bs).length := List.length_map ..
  have hg : ((ofB bs).map tokRow)[i]? = some (tokRow { kind := 4, text := text }) := by simp [hk]
  conv => whnf
  repeat' first
    | (refine Case.not ?_; conv => whnf)
    | (refine Case.yes ?_; conv => whnf)
    | (refine Case.no ?_; conv => whnf)
    | (refine Case.isTrue (by assumption) ?_; conv => whnf)
    | (refine Case.isFalse (by assumption) ?_; conv => whnf)
    | (refine Case.decT (by assumption) ?_; conv => whnf)
    | (refine Case.decF (by assumption) ?_; conv => whnf)
    | (refine Case.decT (by omega) ?_; conv => whnf)
    | (refine Case.decF (by omega) ?_; conv => whnf)
    | (refine Case.beqT (by omega) ?_; conv => whnf)
    | (refine Case.beqF (by omega) ?_; conv => whnf)
    | (refine Case.strT (by assumption) ?_; conv => whnf)
    | (refine Case.strF (by assumption) ?_; conv => whnf)
    | (refine Case.strF (by simp only [*]; decide) ?_; conv => whnf)
    | (refine Owes.mk toks4_row ?_; conv => whnf)
    | (refine Elem.mk i _ rfl hg ?_; conv => whnf)
    | (refine Case.strT rfl ?_; conv => whnf)
    | (refine step_kinds 2 ?hk ?_; (case hk => decide +kernel); conv => whnf)
    | (refine step_kinds 3 ?hk ?_; (case hk => decide +kernel); conv => whnf)
    | (refine step_auto 2 ?hk ?_; (case hk => decide +kernel); conv => whnf)
    | (refine step_auto 3 ?hk ?_; (case hk => decide +kernel); conv => whnf)
    | (refine Num.id (by omega) (by omega) ?_; conv => whnf)
    | (refine Case.strI (fun _ => ?_) (fun _ => ?_) <;> conv => whnf)
    | (refine Both.mk ?_ ?_ <;> conv => whnf)
    | (refine Case.dec (fun _ => ?_) (fun _ => ?_) <;> conv => whnf)
    | (refine Case.beqI (fun _ => ?_) (fun _ => ?_) <;> conv => whnf)
    | (refine Case.mk (fun _ => ?_) (fun _ => ?_) <;> conv => whnf)
    | (refine Way.fst ?_; conv => whnf)
  all_goals refine hQ _ _ _ ?_
  all_goals
    repeat' first | exact trivial | exact rfl | exact Nat.zero_le _ | exact Nat.zero_lt_succ _ | exact (by decide : (0 : Nat) < 1) | exact (by decide : (1 : Nat) < 4) | exact (by decide : (2 : Nat) < 4) | exact (by decide : (3 : Nat) < 4) | exact (by decide : (1 : Nat) < 2) | exact (by decide : (2 : Nat) < 3) | exact congrArg int (by (try dsimp only); omega) | exact congrArg bool (by (try dsimp only); simp; omega) | (show _ < List.length _; simp; done) | apply And.intro
set_option maxHeartbeats 4000000 in
theorem kinds_r5 {bs : List UInt8} {i : Nat}  (h : KindAt bs i { kind := 5 }) : KindRound bs i := by
  intro Q hQ
  obtain ⟨h1, hi, hk, hF1, hF2⟩ := h
  dsimp only at hF1 hF2
  have hml : ((ofB bs).map tokRow).length = (ofB bs).length := List.length_map ..
  have hg : ((ofB bs).map tokRow)[i]? = some (tokRow { kind := 5 }) := by simp [hk]
  conv => whnf
  repeat' first
    | (refine Case.not ?_; conv => whnf)
    | (refine Case.yes ?_; conv => whnf)
    | (refine Case.no ?_; conv => whnf)
    | (refine Case.isTrue (by assumption) ?_; conv => whnf)
    | (refine Case.isFalse (by assumption) ?_; conv => whnf)
    | (refine Case.decT (by assumption) ?_; conv => whnf)
    | (refine Case.decF (by assumption) ?_; conv => whnf)
    | (refine Case.decT (by omega) ?_; conv => whnf)
    | (refine Case.decF (by omega) ?_; conv => whnf)
    | (refine Case.beqT (by omega) ?_; conv => whnf)
    | (refine Case.beqF (by omega) ?_; conv => whnf)
    | (refine Case.strT (by assumption) ?_; conv => whnf)
    | (refine Case.strF (by assumption) ?_; conv => whnf)
    | (refine Case.strF (by simp only [*]; decide) ?_; conv => whnf)
    | (refine Owes.mk toks4_row ?_; conv => whnf)
    | (refine Elem.mk i _ rfl hg ?_; conv => whnf)
    | (refine Case.strT rfl ?_; conv => whnf)
    | (refine step_kinds 2 ?hk ?_; (case hk => decide +kernel); conv => whnf)
    | (refine step_kinds 3 ?hk ?_; (case hk => decide +kernel); conv => whnf)
    | (refine step_auto 2 ?hk ?_; (case hk => decide +kernel); conv => whnf)
    | (refine step_auto 3 ?hk ?_; (case hk => decide +kernel); conv => whnf)
    | (refine Num.id (by omega) (by omega) ?_; conv => whnf)
    | (refine Case.strI (fun _ => ?_) (fun _ => ?_) <;> conv => whnf)
    | (refine Both.mk ?_ ?_ <;> conv => whnf)
    | (refine Case.dec (fun _ => ?_) (fun _ => ?_) <;> conv => whnf)
    | (refine Case.beqI (fun _ => ?_) (fun _ => ?_) <;> conv => whnf)
    | (refine Case.mk (fun _ => ?_) (fun _ => ?_) <;> conv => whnf)
    | (refine Way.fst ?_; conv => whnf)
  all_goals refine hQ _ _ _ ?_
  all_goals
    repeat' first | exact trivial | exact rfl | exact Nat.zero_le _ | exact Nat.zero_lt_succ _ | exact (by decide : (0 : Nat) < 1) | exact (by decide : (1 : Nat) < 4) | exact (by decide : (2 : Nat) < 4) | exact (by decide : (3 : Nat) < 4) | exact (by decide : (1 : Nat) < 2) | exact (by decide : (2 : Nat) < 3) | exact congrArg int (by (try dsimp only); omega) | exact congrArg bool (by (try dsimp only); simp; omega) | (show _ < List.length _; simp; done) | apply And.intro
end Go.Proofs.YtpkgnaajcibgnaaDoor.Aw
