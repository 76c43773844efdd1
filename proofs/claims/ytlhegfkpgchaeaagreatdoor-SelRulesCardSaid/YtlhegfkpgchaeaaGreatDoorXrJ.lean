/- The reference's Tokens. -/
import Derived.Test.YtlhegfkpgchaeaaGreatDoorXrI
namespace Go.Proofs.YtlhegfkpgchaeaaGreatDoor.Aw
open Go Go.RowKit Go.Lib
set_option linter.unusedVariables false
set_option linter.unusedSimpArgs false
set_option maxRecDepth 100000
def tokRow (t : Tok) : List F := [.v (.int .i64 t.kind), .v (.string ⟨t.text.toArray⟩), .v (.int .i64 t.n), .v (.bool t.whole), .v (.int .i64 t.c)]
abbrev toksD (ts : List Tok) : D := .own 0 69 5 (ts.map tokRow)
inductive TokC (l : List Int) (p : Nat) : List Tok × Nat → Prop
  | comment (h1 : see l p = 47) (h2 : see l (p + 1) = 42) : TokC l p ([], commentEnd l (l.length + 1) (p + 2) + 2)
  | blank (h1 : ¬ (see l p = 47 ∧ see l (p + 1) = 42)) (h2 : white (see l p) = true) : TokC l p ([{ kind := 9 }], whiteEnd l (l.length + 1) p)
  | quote (h1 : see l p = 34) (h2 : white (see l p) = false) : TokC l p ([strT l p], strP l p)
  | quote1 (h1 : see l p = 39) (h2 : white (see l p) = false) : TokC l p ([strT l p], strP l p)
  | hash (h1 : see l p = 35) (h2 : white (see l p) = false) (h3 : namePoint (see l (p + 1)) = true) : TokC l p ([{ kind := 3, text := nameS l (p + 1) }], nameP l (p + 1))
  | hashE (h1 : see l p = 35) (h2 : white (see l p) = false) (h3 : namePoint (see l (p + 1)) = false) (h4 : escape l (p + 1) = true) : TokC l p ([{ kind := 3, text := nameS l (p + 1) }], nameP l (p + 1))
  | num (h0 : ¬ (see l p = 47 ∧ see l (p + 1) = 42)) (h1 : ¬ see l p = 34) (h2 : ¬ see l p = 39) (h3 : see l p ≠ 35) (h4 : white (see l p) = false) (h5 : number l p = true) : TokC l p ([numericT l p], numericP l p)
  | atk (h1 : see l p = 64) (h4 : white (see l p) = false) (h5 : number l p = false) (h6 : begins l (p + 1) = true) : TokC l p ([{ kind := 2, text := nameS l (p + 1) }], nameP l (p + 1))
  | name (h0 : ¬ (see l p = 47 ∧ see l (p + 1) = 42)) (h1 : ¬ see l p = 34) (h2 : ¬ see l p = 39) (h3 : see l p ≠ 35) (h4 : white (see l p) = false) (h5 : number l p = false) (h6 : ¬ see l p = 64) (h7 : begins l p = true) (h8 : see l (nameP l p) = 40) : TokC l p ([{ kind := 20, text := nameS l p }], nameP l p + 1)
  | name1 (h0 : ¬ (see l p = 47 ∧ see l (p + 1) = 42)) (h1 : ¬ see l p = 34) (h2 : ¬ see l p = 39) (h3 : see l p ≠ 35) (h4 : white (see l p) = false) (h5 : number l p = false) (h6 : ¬ see l p = 64) (h7 : begins l p = true) (h8 : ¬ see l (nameP l p) = 40) : TokC l p ([{ kind := 1, text := nameS l p }], nameP l p)
  | sign (h0 : ¬ (see l p = 47 ∧ see l (p + 1) = 42)) (h1 : ¬ see l p = 34) (h2 : ¬ see l p = 39) (h3 : ¬ see l p = 35) (h4 : white (see l p) = false) (h5 : number l p = false) (h6 : ¬ see l p = 64) (h7 : begins l p = false) (h8 : 0 < sign (see l p)) : TokC l p ([{ kind := sign (see l p) }], p + 1)
  | delim35 (h1 : see l p = 35) (h4 : white (see l p) = false) (h5 : number l p = false) (h7 : begins l p = false) (h6 : namePoint (see l (p + 1)) = false) (h8 : escape l (p + 1) = false) (h9 : sign (see l p) = 0) : TokC l p ([{ kind := 10, c := see l p }], p + 1)
  | delim64 (h1 : see l p = 64) (h4 : white (see l p) = false) (h5 : number l p = false) (h7 : begins l p = false) (h6 : begins l (p + 1) = false) (h9 : sign (see l p) = 0) : TokC l p ([{ kind := 10, c := see l p }], p + 1)
  | delim (h0 : ¬ (see l p = 47 ∧ see l (p + 1) = 42)) (h1 : ¬ see l p = 34) (h2 : ¬ see l p = 39) (h3 : ¬ see l p = 35) (h4 : white (see l p) = false) (h5 : number l p = false) (h6 : ¬ see l p = 64) (h7 : begins l p = false) (h8 : sign (see l p) = 0) : TokC l p ([{ kind := 10, c := see l p }], p + 1)
theorem sign_ge (c : Int) : sign c = 0 ∨ 0 < sign c := by unfold sign; repeat' split
                                                          all_goals omega
theorem number_at {l : List Int} {p : Nat} {c : Int} (h : see l p = c) (h1 : digit c = false) (h2 : c ≠ 43 ∧ c ≠ 45 ∧ c ≠ 46) : number l p = false := by
  unfold number; rw [h, h1]; simp [h2]
theorem begins_at' {l : List Int} {p : Nat} {c : Int} (h : see l p = c) (h1 : nameStart c = false) (h2 : c ≠ 45 ∧ c ≠ 92) : begins l p = false := by
  unfold begins escape; rw [h, h1]; simp [h2]
theorem tokC (l : List Int) (p : Nat) : TokC l p (tokNext l p) := by
  unfold tokNext
  by_cases c1 : see l p = 47 ∧ see l (p + 1) = 42
  · rw [if_pos c1]; exact .comment c1.1 c1.2
  rw [if_neg c1]
  cases c2 : white (see l p) with
  | true => simp only [if_true]; exact .blank c1 c2
  | false =>
    simp only [Bool.false_eq_true, if_false]
    by_cases c3 : see l p = 34 ∨ see l p = 39
    · rw [if_pos c3]; exact c3.elim (fun h => .quote h c2) (fun h => .quote1 h c2)
    rw [if_neg c3]
    by_cases c4 : see l p = 35
    · have n1 := number_at c4 (by decide) (by decide)
      have n2 := begins_at' c4 (by decide) (by decide)
      have n3 : sign (see l p) = 0 := by rw [c4]; decide
      cases c5 : namePoint (see l (p + 1)) with
      | true => rw [if_pos ⟨c4, .inl rfl⟩]; exact .hash c4 c2 c5
      | false =>
        cases c6 : escape l (p + 1) with
        | true => rw [if_pos ⟨c4, .inr rfl⟩]; exact .hashE c4 c2 c5 c6
        | false =>
          rw [if_neg (by simp), n1, if_neg (by simp), if_neg (by omega), n2, if_neg (by simp), if_neg (by omega)]
          exact .delim35 c4 c2 n1 n2 c5 c6 n3
    · rw [if_neg (fun h => c4 h.1)]
      cases c5 : number l p with
      | true => simp only [if_true]; exact .num c1 (by omega) (by omega) c4 c2 c5
      | false =>
        simp only [Bool.false_eq_true, if_false]
        by_cases c6 : see l p = 64
        · have n2 := begins_at' c6 (by decide) (by decide)
          have n3 : sign (see l p) = 0 := by rw [c6]; decide
          cases c7 : begins l (p + 1) with
          | true => rw [if_pos ⟨c6, rfl⟩]; exact .atk c6 c2 c5 c7
          | false =>
            rw [if_neg (by simp), n2, if_neg (by simp), if_neg (by omega)]
            exact .delim64 c6 c2 c5 n2 c7 n3
        · rw [if_neg (fun h => c6 h.1)]
          cases c7 : begins l p with
          | true =>
            simp only [if_true]
            by_cases c8 : see l (nameP l p) = 40
            · rw [if_pos c8]; exact .name c1 (by omega) (by omega) c4 c2 c5 c6 c7 c8
            · rw [if_neg c8]; exact .name1 c1 (by omega) (by omega) c4 c2 c5 c6 c7 c8
          | false =>
            simp only [Bool.false_eq_true, if_false]
            by_cases c8 : 0 < sign (see l p)
            · rw [if_pos c8]; exact .sign c1 (by omega) (by omega) c4 c2 c5 c6 c7 c8
            · rw [if_neg c8]
              have := sign_ge (see l p)
              exact .delim c1 (by omega) (by omega) c4 c2 c5 c6 c7 (by omega)
structure TokI (l : List Int) (s : Nat × List Tok) : Prop where
  p : s.1 ≤ l.length + 2
  t : s.2.length ≤ s.1
  run : ∀ f, l.length - s.1 < f → tokRun l f s.1 s.2 = tokens l
theorem Fin.toks {ts : List Tok} {H : Hp} {n : Nat} {R : D → Hp → Prop} (hR : R (.f (.sl (ts.map tokRow))) []) : Fin (toksD ts) H n 0 0 R := by
  refine Fin.frz 0 (Fin.mk (.f (.sl (ts.map tokRow))) [] hR rfl ⟨?_, by unfold intoH; cases frzH 0 H <;> trivial⟩)
  unfold intoL intoL intoD
  exact ⟨rfl, rfl⟩
theorem TokI.next {l : List Int} {p q : Nat} {ts us : List Tok} (h2 : ts.length ≤ p) (hp : p < l.length) (e0 : tokRun l (l.length - p) q (ts ++ us) = tokens l) (hgt : p < q ∧ q ≤ l.length + 2 ∧ us.length ≤ 1) : TokI l (q, ts ++ us) :=
  ⟨hgt.2.1, by dsimp only; rw [List.length_append]; omega, fun f hf => by dsimp only at hf ⊢; rw [← e0]; exact tokRun_fuel l _ _ _ _ hf (by omega)⟩
structure WhiteI (l : List Int) (p q : Nat) : Prop where
  le : q ≤ l.length
  run : ∀ f, l.length - q < f → whiteEnd l f q = whiteEnd l (l.length + 1) p
structure CommI (l : List Int) (p q : Nat) : Prop where
  le : q ≤ l.length
  run : ∀ f, l.length - q < f → commentEnd l f q = commentEnd l (l.length + 1) p
set_option maxHeartbeats 4000000 in
theorem tokens_spec (l : List Int) (hl : l.length < 100000000) : Spec P 19 [.f (.sl (ptsF l))] [] 0 (fun d H => d = .f (.sl ((tokens l).map tokRow)) ∧ H = []) := by
  refine spec_mk tab_ok Tryz.func19 (by rfl) rfl ?_
  conv => whnf
  refine step_loop tab_ok (fun s : Nat × List Tok => padK [.f (.sl (ptsF l)), .junk, .junk, .ptr 0 0, toksD s.2] 208) (fun s => [some (rdr l s.1)]) 1 (TokI l) (fun s => l.length + 2 - s.1) (0, []) ⟨by simp, by simp, fun f hf => tokRun_fuel l _ _ _ _ hf (by dsimp only at hf; omega)⟩ (fun _ => rfl) ?_ ?_
  ·
    repeat' first | exact trivial | exact rfl | exact (by decide : 0 < 1) | exact Nat.le_refl _ | exact Nat.zero_lt_succ _ | apply And.intro
  · rintro ⟨p, ts⟩ ⟨h1, h2, h3⟩
    simp only at h1 h2 h3
    have e0 := h3 (l.length - p + 1) (by omega)
    rw [tokRun] at e0
    dsimp only
    conv => whnf
    refine (see_at l (by omega) p (by omega) _ p (by omega) (by omega) (by omega)).call ⟨⟨rfl, rfl, trivial⟩, rfl, rfl⟩ ?_
    conv => whnf
    refine Case.dec (fun h0 => ?_) (fun h0 => ?_)
    · have hp := see_lt h0
      rw [if_pos h0] at e0
      have hgt := tokNext_gt h0
      have hC := tokC l p
      generalize tokNext l p = Y at e0 hgt hC
      have hnp := nameP_le (l := l) (p := p) (by omega)
      cases hC
      all_goals dsimp only at e0 hgt
      all_goals conv => whnf
      all_goals
        repeat' first
          | (refine Case.yes ?_; conv => whnf)
          | (refine Case.no ?_; conv => whnf)
          | (refine Case.isTrue (by assumption) ?_; conv => whnf)
          | (refine Case.isFalse (by assumption) ?_; conv => whnf)
          | (refine Case.decT (by assumption) ?_; conv => whnf)
          | (refine Case.decF (by assumption) ?_; conv => whnf)
          | (refine Case.decF (by omega) ?_; conv => whnf)
          | (refine (see_at l (by omega) p (by omega) _ p (by omega) (by omega) (by omega)).call ⟨⟨rfl, rfl, trivial⟩, rfl, rfl⟩ ?_; conv => whnf)
          | (refine (see_at l (by omega) p (by omega) _ (p + 1) (by omega) (by omega) (by omega)).call ⟨⟨rfl, rfl, trivial⟩, rfl, rfl⟩ ?_; conv => whnf)
          | (refine (number_spec l (by omega) p (by omega)).call ⟨⟨rfl, rfl, trivial⟩, rfl⟩ ?_; conv => whnf)
          | (refine (begins_at l (by omega) p (by omega) _ p (by omega) (by omega) (by omega)).call ⟨⟨rfl, rfl, trivial⟩, rfl, rfl⟩ ?_; conv => whnf)
          | (refine (begins_at l (by omega) p (by omega) _ (p + 1) (by omega) (by omega) (by omega)).call ⟨⟨rfl, rfl, trivial⟩, rfl, rfl⟩ ?_; conv => whnf)
          | (refine (escape_at l (by omega) p (by omega) _ (p + 1) (by omega) (by omega) (by omega)).call ⟨⟨rfl, rfl, trivial⟩, rfl, rfl⟩ ?_; conv => whnf)
          | (refine (white_spec _).call ⟨rfl, rfl⟩ ?_; conv => whnf)
          | (refine (namePoint_spec _).call ⟨rfl, rfl⟩ ?_; conv => whnf)
          | (refine (sign_spec _).call ⟨rfl, rfl⟩ ?_; conv => whnf)
          | (refine (str_spec l hl p hp).call ?_; conv => whnf)
          | (refine (numeric_spec l hl p (by omega)).call ?_; conv => whnf)
          | (refine (name_spec l hl p (by omega)).call ?_; conv => whnf)
          | (refine Meth.call (a := p + 1) (name_spec l hl (p + 1) (by omega)) ?_; conv => whnf)
          | (refine Owes.mk (by simp; omega) ?_; conv => whnf)
          | (refine (see_at l (by omega) (nameP l p) (by omega) _ (nameP l p) (by omega) (by omega) (by omega)).call ⟨⟨rfl, rfl, trivial⟩, rfl, rfl⟩ ?_; conv => whnf)
          | (refine Num.id (by omega) (by omega) ?_; conv => whnf)
          | (refine Case.dec (fun _ => ?_) (fun _ => ?_) <;> conv => whnf)
      case comment =>
        have h42 := see_lt (l := l) (i := p + 1) (by omega)
        refine step_loop tab_ok (fun q : Nat => padK [.f (.sl (ptsF l)), .junk, .junk, .ptr 0 0, toksD ts] 208) (fun q => [some (rdr l q)]) 1 (CommI l (p + 2)) (fun q => l.length - q) (p + 2) ⟨by omega, fun f hf => commentEnd_fuel l _ _ _ hf (by omega)⟩ (fun _ => rfl) ?_ ?_
        ·
          repeat' first | exact trivial | exact rfl | exact (by decide : 0 < 1) | apply And.intro
        · rintro q ⟨g1, g2⟩
          have e1 := g2 (l.length - q + 1) (by omega)
          rw [commentEnd] at e1
          conv => whnf
          repeat' first | ((first | refine Case.not ?_ | refine Case.yes ?_ | refine Case.no ?_ | refine Case.decT (by assumption) ?_ | refine Case.decF (by assumption) ?_ | refine (see_at l (by omega) q (by omega) _ q (by omega) (by omega) (by omega)).call ⟨⟨rfl, rfl, trivial⟩, rfl, rfl⟩ ?_ | refine (see_at l (by omega) q (by omega) _ (q + 1) (by omega) (by omega) (by omega)).call ⟨⟨rfl, rfl, trivial⟩, rfl, rfl⟩ ?_ | refine Num.id (by omega) (by omega) ?_); conv => whnf) | (refine Case.dec (fun _ => ?_) (fun _ => ?_) <;> conv => whnf)
          · rw [if_neg (by omega)] at e1
            subst e1
            refine ⟨_, TokI.next h2 hp e0 hgt, by dsimp only; omega, ?_⟩
            repeat' first | exact trivial | exact rfl | exact (by decide : 0 < 1) | apply And.intro | exact congrArg (D.own _ _ _) (by simp [tokRow]; done)
          · have hq := see_lt (l := l) (i := q) (by omega)
            refine ⟨q + 1, ⟨by omega, fun f hf => by rw [← g2 (f + 1) (by omega), commentEnd, if_pos ⟨by omega, by omega⟩]⟩, by omega, ?_⟩
            repeat' first | exact trivial | exact rfl | exact (by decide : 0 < 1) | apply And.intro
          · have hq := see_lt (l := l) (i := q) (by omega)
            refine ⟨q + 1, ⟨by omega, fun f hf => by rw [← g2 (f + 1) (by omega), commentEnd, if_pos ⟨by omega, by omega⟩]⟩, by omega, ?_⟩
            repeat' first | exact trivial | exact rfl | exact (by decide : 0 < 1) | apply And.intro
          · rw [if_neg (by omega)] at e1
            subst e1
            refine ⟨_, TokI.next h2 hp e0 hgt, by dsimp only; omega, ?_⟩
            repeat' first | exact trivial | exact rfl | exact (by decide : 0 < 1) | apply And.intro | exact congrArg (D.own _ _ _) (by simp [tokRow]; done)
      case blank.refine_1 | blank.refine_2 =>
        refine step_loop tab_ok (fun q : Nat => padK [.f (.sl (ptsF l)), .junk, .junk, .ptr 0 0, toksD ts] 208) (fun q => [some (rdr l q)]) 1 (WhiteI l p) (fun q => l.length - q) p ⟨by omega, fun f hf => whiteEnd_fuel l _ _ _ hf (by omega)⟩ (fun _ => rfl) ?_ ?_
        ·
          repeat' first | exact trivial | exact rfl | exact (by decide : 0 < 1) | apply And.intro
        · rintro q ⟨g1, g2⟩
          have e1 := g2 (l.length - q + 1) (by omega)
          rw [whiteEnd] at e1
          conv => whnf
          repeat' first | ((first | refine (see_at l (by omega) q (by omega) _ q (by omega) (by omega) (by omega)).call ⟨⟨rfl, rfl, trivial⟩, rfl, rfl⟩ ?_ | refine (white_spec _).call ⟨rfl, rfl⟩ ?_ | (refine Owes.mk (by simp; omega) ?_) | refine Num.id (by omega) (by omega) ?_); conv => whnf) | (refine Case.mk (fun _ => ?_) (fun _ => ?_) <;> conv => whnf)
          · have hq := white_see (l := l) (i := q) (by assumption)
            refine ⟨q + 1, ⟨by omega, fun f hf => by rw [← g2 (f + 1) (by omega), whiteEnd, if_pos (by assumption)]⟩, by omega, ?_⟩
            repeat' first | exact trivial | exact rfl | exact (by decide : 0 < 1) | apply And.intro
          · rw [if_neg (by simp_all)] at e1
            subst e1
            refine ⟨_, TokI.next h2 hp e0 hgt, by dsimp only; omega, ?_⟩
            repeat' first | exact trivial | exact rfl | exact (by decide : 0 < 1) | apply And.intro | exact congrArg (D.own _ _ _) (by simp [tokRow]; done)
      all_goals
        refine ⟨_, TokI.next h2 hp e0 hgt, by dsimp only; omega, ?_⟩
        repeat' first | exact trivial | exact rfl | exact (by decide : 0 < 1) | apply And.intro | exact congrArg (D.own _ _ _) (by simp [tokRow]; done)
    · rw [if_neg h0] at e0
      subst e0
      conv => whnf
      exact Fin.toks ⟨rfl, rfl⟩
end Go.Proofs.YtlhegfkpgchaeaaGreatDoor.Aw
