/- The program's scanner: tokens, comments. -/
import Derived.Test.YtdenafhfngnlfaaDoorXyF
import Derived.Test.YtdenafhfngnlfaaDoorXrL
namespace Go.Proofs.YtdenafhfngnlfaaDoor.Aw
open Go Go.RowKit Go.Lib
set_option linter.unusedVariables false
set_option linter.unusedSimpArgs false
set_option maxRecDepth 100000
/-- The token that stands here, and where it ends, no comment being here. -/
def tokT (l : List Int) (p : Nat) : Tok × Nat :=
  if white (see l p) then ({ kind := 9 }, whiteEnd l (l.length + 1) p)
  else if see l p = 34 ∨ see l p = 39 then (strT l p, strP l p)
  else if see l p = 35 ∧ (namePoint (see l (p + 1)) = true ∨ escape l (p + 1) = true) then ({ kind := 3, text := nameS l (p + 1) }, nameP l (p + 1))
  else if number l p then (numericT l p, numericP l p)
  else if see l p = 64 ∧ begins l (p + 1) = true then ({ kind := 2, text := nameS l (p + 1) }, nameP l (p + 1))
  else if begins l p then (if see l (nameP l p) = 40 then ({ kind := 20, text := nameS l p }, nameP l p + 1) else ({ kind := 1, text := nameS l p }, nameP l p))
  else (signT (see l p), p + 1)
theorem signT_is (c : Int) : signT c = if 0 < sign c then { kind := sign c } else { kind := 10, c := c } := by
  unfold signT signK sign
  (repeat' split) <;> first | rfl | omega | simp_all
theorem tokNext_T {l : List Int} {p : Nat} (h : ¬ (see l p = 47 ∧ see l (p + 1) = 42)) : tokNext l p = ([(tokT l p).1], (tokT l p).2) := by
  unfold tokNext tokT
  rw [if_neg h, signT_is]
  (repeat' split) <;> first | rfl | simp_all
structure WhI (l : List Int) (a p : Nat) : Prop where
  le : p ≤ l.length
  run : ∀ f, l.length - p < f → whiteEnd l f p = whiteEnd l (l.length + 1) a
set_option maxHeartbeats 2000000 in
theorem ytoken (l : List Int) (hl : l.length < 100000000) (a : Nat) (ha : a < l.length) : Meth 26 l a (tokT l a).1.d (tokT l a).2 := by
  refine ⟨tok_scal _, spec_mk tab_ok Tryd.func26 (by rfl) rfl ?_⟩
  by_cases hw : white (see l a) = true
  · have eT : tokT l a = ({ kind := 9 }, whiteEnd l (l.length + 1) a) := by unfold tokT; rw [if_pos hw]
    have w0 := ywhite_spec (see l a)
    rw [hw] at w0
    conv => whnf
    repeat' first
      | (refine Case.not ?_; conv => whnf)
      | (refine Case.yes ?_; conv => whnf)
      | (refine Case.no ?_; conv => whnf)
      | (refine Case.isTrue (by assumption) ?_; conv => whnf)
      | (refine Case.isFalse (by assumption) ?_; conv => whnf)
      | (refine Case.decT (by assumption) ?_; conv => whnf)
      | (refine Case.decF (by assumption) ?_; conv => whnf)
      | (refine Case.decT (by omega) ?_; conv => whnf)
      | (refine Case.decF (by omega) ?_; conv => whnf)
      | (refine Case.beqT (by omega) ?_; conv => whnf)
      | (refine Case.beqF (by omega) ?_; conv => whnf)
      | (refine (yat_at l (by omega) a (by omega) _ a (by omega) (by omega) (by omega)).call ⟨⟨rfl, rfl, trivial⟩, rfl, rfl⟩ ?_; conv => whnf)
      | (refine (yat_at l (by omega) a (by omega) _ (a + 1) (by omega) (by omega) (by omega)).call ⟨⟨rfl, rfl, trivial⟩, rfl, rfl⟩ ?_; conv => whnf)
      | (refine w0.call ⟨rfl, rfl⟩ ?_; conv => whnf)
      | (refine Num.id (by omega) (by omega) ?_; conv => whnf)
      | (refine Case.dec (fun _ => ?_) (fun _ => ?_) <;> conv => whnf)
      | (refine Case.beqI (fun _ => ?_) (fun _ => ?_) <;> conv => whnf)
      | (refine Case.mk (fun _ => ?_) (fun _ => ?_) <;> conv => whnf)
      | (refine Way.fst ?_; conv => whnf)
    refine step_loop tab_ok (fun p : Nat => padK [.ptr 0 0, .junk, .ptr 1 0] 64) (fun p => [some (rdr l p), some tok0]) 0 (WhI l a) (fun p => l.length - p) a ⟨by omega, fun f hf => whiteEnd_fuel l f _ _ hf (by omega)⟩ (fun _ => rfl) ?_ ?_
    ·
      repeat' first | exact trivial | exact rfl | exact (by decide : (0 : Nat) < 1) | exact Nat.le_refl _ | exact Nat.zero_lt_succ _ | exact congrArg int (by (try dsimp only); omega) | exact congrArg bool (by (try dsimp only); simp; omega) | (show _ < List.length _; simp; done) | apply And.intro
    · rintro p ⟨h1, h2⟩
      conv => whnf
      repeat' first
        | (refine Case.not ?_; conv => whnf)
        | (refine Case.yes ?_; conv => whnf)
        | (refine Case.no ?_; conv => whnf)
        | (refine Case.isTrue (by assumption) ?_; conv => whnf)
        | (refine Case.isFalse (by assumption) ?_; conv => whnf)
        | (refine Case.decT (by assumption) ?_; conv => whnf)
        | (refine Case.decF (by assumption) ?_; conv => whnf)
        | (refine Case.decT (by omega) ?_; conv => whnf)
        | (refine Case.decF (by omega) ?_; conv => whnf)
        | (refine Case.beqT (by omega) ?_; conv => whnf)
        | (refine Case.beqF (by omega) ?_; conv => whnf)
        | (refine (yat_at l (by omega) p (by omega) _ p (by omega) (by omega) (by omega)).call ⟨⟨rfl, rfl, trivial⟩, rfl, rfl⟩ ?_; conv => whnf)
        | (refine (yat_at l (by omega) p (by omega) _ (p + 1) (by omega) (by omega) (by omega)).call ⟨⟨rfl, rfl, trivial⟩, rfl, rfl⟩ ?_; conv => whnf)
        | (refine (ywhite_spec _).call ⟨rfl, rfl⟩ ?_; conv => whnf)
        | (refine Num.id (by omega) (by omega) ?_; conv => whnf)
        | (refine Case.dec (fun _ => ?_) (fun _ => ?_) <;> conv => whnf)
        | (refine Case.beqI (fun _ => ?_) (fun _ => ?_) <;> conv => whnf)
        | (refine Case.mk (fun _ => ?_) (fun _ => ?_) <;> conv => whnf)
        | (refine Way.fst ?_; conv => whnf)
      · have h3 := white_see (by assumption : white (see l p) = true)
        refine ⟨p + 1, ⟨h3, fun f hf => by rw [← h2 (f + 1) (by omega), whiteEnd, if_pos (by assumption)]⟩, by omega, ?_⟩
        repeat' first | exact trivial | exact rfl | exact (by decide : (0 : Nat) < 1) | exact Nat.le_refl _ | exact Nat.zero_lt_succ _ | exact congrArg int (by (try dsimp only); omega) | exact congrArg bool (by (try dsimp only); simp; omega) | (show _ < List.length _; simp; done) | apply And.intro
      · have e := h2 (l.length - p + 1) (by omega)
        rw [whiteEnd, if_neg (by simp [*])] at e
        refine Fin.rd p (tok_scal { kind := 9 }) rfl ⟨by rw [eT]; rfl, by rw [eT, ← e]⟩
  · have w0 := ywhite_spec (see l a)
    rw [Bool.eq_false_iff.2 hw] at w0
    have n0 := nameP_le (l := l) (p := a) (by omega)
    conv => whnf
    repeat' first
      | (refine Case.not ?_; conv => whnf)
      | (refine Case.yes ?_; conv => whnf)
      | (refine Case.no ?_; conv => whnf)
      | (refine Case.isTrue (by assumption) ?_; conv => whnf)
      | (refine Case.isFalse (by assumption) ?_; conv => whnf)
      | (refine Case.decT (by assumption) ?_; conv => whnf)
      | (refine Case.decF (by assumption) ?_; conv => whnf)
      | (refine Case.decT (by omega) ?_; conv => whnf)
      | (refine Case.decF (by omega) ?_; conv => whnf)
      | (refine Case.beqT (by omega) ?_; conv => whnf)
      | (refine Case.beqF (by omega) ?_; conv => whnf)
      | (refine (yat_at l (by omega) a (by omega) _ a (by omega) (by omega) (by omega)).call ⟨⟨rfl, rfl, trivial⟩, rfl, rfl⟩ ?_; conv => whnf)
      | (refine (yat_at l (by omega) a (by omega) _ (a + 1) (by omega) (by omega) (by omega)).call ⟨⟨rfl, rfl, trivial⟩, rfl, rfl⟩ ?_; conv => whnf)
      | (refine w0.call ⟨rfl, rfl⟩ ?_; conv => whnf)
      | (refine (yquoted l hl a ha (by omega)).call ?_; conv => whnf)
      | (refine (ypoint_spec _).call ⟨rfl, rfl⟩ ?_; conv => whnf)
      | (refine (yescape_at l (by omega) a (by omega) _ (a + 1) (by omega) (by omega) (by omega)).call ⟨⟨rfl, rfl, trivial⟩, rfl, rfl⟩ ?_; conv => whnf)
      | (refine (ybehind l hl a ha 3).call ?_; conv => whnf)
      | (refine (ybehind l hl a ha 2).call ?_; conv => whnf)
      | (refine (ynumber_spec l (by omega) a (by omega)).call ⟨⟨rfl, rfl, trivial⟩, rfl⟩ ?_; conv => whnf)
      | (refine (yamount l hl a (by omega)).call ?_; conv => whnf)
      | (refine (yname_at l (by omega) a (by omega) _ (a + 1) (by omega) (by omega) (by omega)).call ⟨⟨rfl, rfl, trivial⟩, rfl, rfl⟩ ?_; conv => whnf)
      | (refine (yname_at l (by omega) a (by omega) _ a (by omega) (by omega) (by omega)).call ⟨⟨rfl, rfl, trivial⟩, rfl, rfl⟩ ?_; conv => whnf)
      | (refine (yword l hl a (by omega)).call ?_; conv => whnf)
      | (refine (ysign l hl a (by omega)).call ?_; conv => whnf)
      | (refine Num.id (by omega) (by omega) ?_; conv => whnf)
      | (refine Case.dec (fun _ => ?_) (fun _ => ?_) <;> conv => whnf)
      | (refine Case.beqI (fun _ => ?_) (fun _ => ?_) <;> conv => whnf)
      | (refine Case.mk (fun _ => ?_) (fun _ => ?_) <;> conv => whnf)
      | (refine Way.fst ?_; conv => whnf)
    all_goals first
      | (have e : tokT l a = (strT l a, strP l a) := (by first | (unfold tokT; (repeat' first | rw [if_pos (by first | assumption | omega | (simp_all; done) | fail "x")] | rw [if_neg (by first | assumption | omega | (simp_all; done) | fail "x")]); done) | fail "x")
         exact Fin.rd (strP l a) (tok_scal (strT l a)) rfl ⟨by rw [e]; rfl, by rw [e]⟩)
      | (have e : tokT l a = ({ kind := 3, text := nameS l (a + 1) }, nameP l (a + 1)) := (by first | (unfold tokT; (repeat' first | rw [if_pos (by first | assumption | omega | (simp_all; done) | fail "x")] | rw [if_neg (by first | assumption | omega | (simp_all; done) | fail "x")]); done) | fail "x")
         exact Fin.rd (nameP l (a + 1)) (tok_scal { kind := 3, text := nameS l (a + 1) }) rfl ⟨by rw [e]; rfl, by rw [e]⟩)
      | (have e : tokT l a = (numericT l a, numericP l a) := (by first | (unfold tokT; (repeat' first | rw [if_pos (by first | assumption | omega | (simp_all; done) | fail "x")] | rw [if_neg (by first | assumption | omega | (simp_all; done) | fail "x")]); done) | fail "x")
         exact Fin.rd (numericP l a) (tok_scal (numericT l a)) rfl ⟨by rw [e]; rfl, by rw [e]⟩)
      | (have e : tokT l a = ({ kind := 2, text := nameS l (a + 1) }, nameP l (a + 1)) := (by first | (unfold tokT; (repeat' first | rw [if_pos (by first | assumption | omega | (simp_all; done) | fail "x")] | rw [if_neg (by first | assumption | omega | (simp_all; done) | fail "x")]); done) | fail "x")
         exact Fin.rd (nameP l (a + 1)) (tok_scal { kind := 2, text := nameS l (a + 1) }) rfl ⟨by rw [e]; rfl, by rw [e]⟩)
      | (have e : tokT l a = (if see l (nameP l a) = 40 then (({ kind := 20, text := nameS l a } : Tok), nameP l a + 1) else ({ kind := 1, text := nameS l a }, nameP l a)) := (by first | (unfold tokT; (repeat' first | rw [if_pos (by first | assumption | omega | (simp_all; done) | fail "x")] | rw [if_neg (by first | assumption | omega | (simp_all; done) | fail "x")]); done) | fail "x")
         rw [e]
         by_cases h40 : see l (nameP l a) = 40
         · simp only [if_pos h40]
           exact Fin.rd (nameP l a + 1) (tok_scal { kind := 20, text := nameS l a }) rfl ⟨rfl, rfl⟩
         · simp only [if_neg h40]
           exact Fin.rd (nameP l a) (tok_scal { kind := 1, text := nameS l a }) rfl ⟨rfl, rfl⟩)
      | (have e : tokT l a = (signT (see l a), a + 1) := (by first | (unfold tokT; (repeat' first | rw [if_pos (by first | assumption | omega | (simp_all; done) | fail "x")] | rw [if_neg (by first | assumption | omega | (simp_all; done) | fail "x")]); done) | fail "x")
         exact Fin.rd (a + 1) (tok_scal (signT (see l a))) rfl ⟨by rw [e]; rfl, by rw [e]⟩)
      | skip
/-- Where a comment that begins here ends. -/
def cmtP (l : List Int) (a : Nat) : Nat := if commentEnd l (l.length + 1) (a + 2) < l.length then commentEnd l (l.length + 1) (a + 2) + 2 else l.length
structure CmI (l : List Int) (a p : Nat) : Prop where
  le : p ≤ l.length
  run : ∀ f, l.length - p < f → commentEnd l f p = commentEnd l (l.length + 1) (a + 2)
theorem see_in {l : List Int} {i : Nat} (h : i < l.length) : 0 ≤ see l i := by
  unfold see
  rw [List.getElem?_eq_getElem h]
  dsimp only
  split
  · rename_i hr; exact (right_le hr).1
  · omega
theorem see_out {l : List Int} {i : Nat} (h : l.length ≤ i) : see l i = -1 := by unfold see; rw [List.getElem?_eq_none h]
def isCm (l : List Int) (a : Nat) : Prop := see l a = 47 ∧ see l (a + 1) = 42
instance (l : List Int) (a : Nat) : Decidable (isCm l a) := by unfold isCm; infer_instance
set_option maxHeartbeats 1000000 in
theorem ycomment (l : List Int) (hl : l.length < 100000000) (a : Nat) (ha : a < l.length) : Meth 25 l a (bool (decide (isCm l a))) (if isCm l a then cmtP l a else a) := by
  have hp := ptsF_length l
  refine ⟨trivial, spec_mk tab_ok Tryd.func25 (by rfl) rfl ?_⟩
  by_cases hc : isCm l a
  · have hc' := hc
    obtain ⟨hc1, hc2⟩ := hc
    have h2 := see_lt (l := l) (i := a + 1) (by omega)
    rw [if_pos hc', decide_eq_true hc']
    conv => whnf
    repeat' first
      | (refine Case.not ?_; conv => whnf)
      | (refine Case.yes ?_; conv => whnf)
      | (refine Case.no ?_; conv => whnf)
      | (refine Case.isTrue (by assumption) ?_; conv => whnf)
      | (refine Case.isFalse (by assumption) ?_; conv => whnf)
      | (refine Case.decT (by assumption) ?_; conv => whnf)
      | (refine Case.decF (by assumption) ?_; conv => whnf)
      | (refine Case.decT (by omega) ?_; conv => whnf)
      | (refine Case.decF (by omega) ?_; conv => whnf)
      | (refine Case.beqT (by omega) ?_; conv => whnf)
      | (refine Case.beqF (by omega) ?_; conv => whnf)
      | (refine (yat_at l (by omega) a (by omega) _ a (by omega) (by omega) (by omega)).call ⟨⟨rfl, rfl, trivial⟩, rfl, rfl⟩ ?_; conv => whnf)
      | (refine (yat_at l (by omega) a (by omega) _ (a + 1) (by omega) (by omega) (by omega)).call ⟨⟨rfl, rfl, trivial⟩, rfl, rfl⟩ ?_; conv => whnf)
      | (refine Num.id (by omega) (by omega) ?_; conv => whnf)
      | (refine Case.dec (fun _ => ?_) (fun _ => ?_) <;> conv => whnf)
      | (refine Case.beqI (fun _ => ?_) (fun _ => ?_) <;> conv => whnf)
      | (refine Case.mk (fun _ => ?_) (fun _ => ?_) <;> conv => whnf)
      | (refine Way.fst ?_; conv => whnf)
    refine step_loop tab_ok (fun p : Nat => padK [.ptr 0 0] 50) (fun p => [some (rdr l p)]) 0 (CmI l a) (fun p => l.length - p) (a + 2) ⟨by omega, fun f hf => commentEnd_fuel l f _ _ hf (by omega)⟩ (fun _ => rfl) ?_ ?_
    ·
      repeat' first | exact trivial | exact rfl | exact (by decide : (0 : Nat) < 1) | exact Nat.le_refl _ | exact Nat.zero_lt_succ _ | exact congrArg int (by (try dsimp only); omega) | exact congrArg bool (by (try dsimp only); simp; omega) | (show _ < List.length _; simp; done) | apply And.intro
    · rintro p ⟨h1, h3⟩
      conv => whnf
      have e := h3 (l.length - p + 1) (by omega)
      rw [commentEnd] at e
      repeat' first
        | (refine Case.not ?_; conv => whnf)
        | (refine Case.yes ?_; conv => whnf)
        | (refine Case.no ?_; conv => whnf)
        | (refine Case.isTrue (by assumption) ?_; conv => whnf)
        | (refine Case.isFalse (by assumption) ?_; conv => whnf)
        | (refine Case.decT (by assumption) ?_; conv => whnf)
        | (refine Case.decF (by assumption) ?_; conv => whnf)
        | (refine Case.decT (by omega) ?_; conv => whnf)
        | (refine Case.decF (by omega) ?_; conv => whnf)
        | (refine Case.beqT (by omega) ?_; conv => whnf)
        | (refine Case.beqF (by omega) ?_; conv => whnf)
        | (refine Case.strT (by assumption) ?_; conv => whnf)
        | (refine Case.strF (by assumption) ?_; conv => whnf)
        | (refine Case.strF (by simp only [*]; decide) ?_; conv => whnf)
        | (refine step_kinds 2 ?hk ?_; (case hk => decide +kernel); conv => whnf)
        | (refine step_kinds 3 ?hk ?_; (case hk => decide +kernel); conv => whnf)
        | (refine (yat_at l (by omega) p (by omega) _ p (by omega) (by omega) (by omega)).call ⟨⟨rfl, rfl, trivial⟩, rfl, rfl⟩ ?_; conv => whnf)
        | (refine (yat_at l (by omega) p (by omega) _ (p + 1) (by omega) (by omega) (by omega)).call ⟨⟨rfl, rfl, trivial⟩, rfl, rfl⟩ ?_; conv => whnf)
        | (refine Num.id (by omega) (by omega) ?_; conv => whnf)
        | (refine Case.strI (fun _ => ?_) (fun _ => ?_) <;> conv => whnf)
        | (refine Both.mk ?_ ?_ <;> conv => whnf)
        | (refine Case.dec (fun _ => ?_) (fun _ => ?_) <;> conv => whnf)
        | (refine Case.beqI (fun _ => ?_) (fun _ => ?_) <;> conv => whnf)
        | (refine Case.mk (fun _ => ?_) (fun _ => ?_) <;> conv => whnf)
        | (refine Way.fst ?_; conv => whnf)
      all_goals first
        | (refine ⟨p + 1, ⟨by omega, fun f hf => ?_⟩, by omega, ?_⟩
           · have h0 := see_in (l := l) (i := p) (by omega)
             rw [if_pos ⟨h0, by omega⟩] at e
             rw [← e]
             exact commentEnd_fuel l f _ _ hf (by omega)
           · (repeat' first | exact trivial | exact rfl | exact (by decide : (0 : Nat) < 1) | exact Nat.le_refl _ | exact Nat.zero_lt_succ _ | exact congrArg int (by (try dsimp only); omega) | apply And.intro))
        | (have h0 := see_in (l := l) (i := p) (by omega)
           rw [if_neg (by omega)] at e
           have e2 : cmtP l a = p + 2 := by unfold cmtP; rw [← e, if_pos (by omega)]
           rw [e2]
           exact Fin.rd (p + 2) trivial (by omega) ⟨rfl, rfl⟩)
        | (have h0 := see_out (l := l) (i := p) (by omega)
           rw [if_neg (by omega)] at e
           have e2 : cmtP l a = p := by unfold cmtP; rw [← e, if_neg (by omega)]; omega
           rw [e2]
           exact Fin.rd p trivial (by omega) ⟨rfl, rfl⟩)
        | skip
  · rw [if_neg hc, decide_eq_false hc]
    unfold isCm at hc
    conv => whnf
    repeat' first
      | (refine Case.not ?_; conv => whnf)
      | (refine Case.yes ?_; conv => whnf)
      | (refine Case.no ?_; conv => whnf)
      | (refine Case.isTrue (by assumption) ?_; conv => whnf)
      | (refine Case.isFalse (by assumption) ?_; conv => whnf)
      | (refine Case.decT (by assumption) ?_; conv => whnf)
      | (refine Case.decF (by assumption) ?_; conv => whnf)
      | (refine Case.decT (by omega) ?_; conv => whnf)
      | (refine Case.decF (by omega) ?_; conv => whnf)
      | (refine Case.beqT (by omega) ?_; conv => whnf)
      | (refine Case.beqF (by omega) ?_; conv => whnf)
      | (refine (yat_at l (by omega) a (by omega) _ a (by omega) (by omega) (by omega)).call ⟨⟨rfl, rfl, trivial⟩, rfl, rfl⟩ ?_; conv => whnf)
      | (refine (yat_at l (by omega) a (by omega) _ (a + 1) (by omega) (by omega) (by omega)).call ⟨⟨rfl, rfl, trivial⟩, rfl, rfl⟩ ?_; conv => whnf)
      | (refine Num.id (by omega) (by omega) ?_; conv => whnf)
      | (refine Case.dec (fun _ => ?_) (fun _ => ?_) <;> conv => whnf)
      | (refine Case.beqI (fun _ => ?_) (fun _ => ?_) <;> conv => whnf)
      | (refine Case.mk (fun _ => ?_) (fun _ => ?_) <;> conv => whnf)
      | (refine Way.fst ?_; conv => whnf)
    all_goals (refine Fin.rd a trivial rfl ⟨rfl, rfl⟩)
end Go.Proofs.YtdenafhfngnlfaaDoor.Aw
