/- The reference's Tokens. -/
import Derived.Test.YtofjmhigfihhbaaDoorXrI
namespace Go.Proofs.YtofjmhigfihhbaaDoor.Aw
open Go Go.RowKit Go.Lib
set_option linter.unusedVariables false
set_option linter.unusedSimpArgs false
set_option maxRecDepth 100000
def tokRow (t : Tok) : List F := [.v (.int .i64 t.kind), .v (.string ⟨t.text.toArray⟩), .v (.int .i64 t.n), .v (.bool t.whole), .v (.int .i64 t.c)]
abbrev toksD (ts : List Tok) : D := .own 0 25 5 (ts.map tokRow)
/-- The ways of the next token. -/
inductive TokC (l : List Int) (p : Nat) : List Tok × Nat → Prop
  | comment (h1 : see l p = 47) (h2 : see l (p + 1) = 42) : TokC l p ([], commentEnd l (l.length + 1) (p + 2) + 2)
  | blank (h1 : ¬ (see l p = 47 ∧ see l (p + 1) = 42)) (h2 : white (see l p) = true) : TokC l p ([{ kind := 9 }], whiteEnd l (l.length + 1) p)
  | quote (h1 : see l p = 34) (h2 : white (see l p) = false) : TokC l p ([strT l p], strP l p)
  | quote1 (h1 : see l p = 39) (h2 : white (see l p) = false) : TokC l p ([strT l p], strP l p)
  | hash (h1 : see l p = 35) (h2 : white (see l p) = false) (h3 : namePoint (see l (p + 1)) = true) : TokC l p ([{ kind := 3, text := nameS l (p + 1) }], nameP l (p + 1))
  | hashE (h1 : see l p = 35) (h2 : white (see l p) = false) (h3 : namePoint (see l (p + 1)) = false) (h4 : escape l (p + 1) = true) : TokC l p ([{ kind := 3, text := nameS l (p + 1) }], nameP l (p + 1))
  | num (h0 : ¬ (see l p = 47 ∧ see l (p + 1) = 42)) (h1 : ¬ see l p = 34) (h2 : ¬ see l p = 39) (h3 : see l p ≠ 35) (h4 : white (see l p) = false) (h5 : number l p = true) : TokC l p ([numericT l p], numericP l p)
  | atk (h1 : see l p = 64) (h4 : white (see l p) = false) (h5 : number l p = false) (h6 : begins l (p + 1) = true) : TokC l p ([{ kind := 2, text := nameS l (p + 1) }], nameP l (p + 1))
  | name (h0 : ¬ (see l p = 47 ∧ see l (p + 1) = 42)) (h1 : ¬ see l p = 34) (h2 : ¬ see l p = 39) (h3 : see l p ≠ 35) (h4 : white (see l p) = false) (h5 : number l p = false) (h6 : ¬ see l p = 64) (h7 : begins l p = true) (h8 : see l (nameP l p) = 40) : TokC l p ([{ kind := 20, text := nameS l p }], nameP l p + 1)
  | name1 (h0 : ¬ (see l p = 47 ∧ see l (p + 1) = 42)) (h1 : ¬ see l p = 34) (h2 : ¬ see l p = 39) (h3 : see l p ≠ 35) (h4 : white (see l p) = false) (h5 : number l p = false) (h6 : ¬ see l p = 64) (h7 : begins l p = true) (h8 : ¬ see l (nameP l p) = 40) : TokC l p ([{ kind := 1, text := nameS l p }], nameP l p)
  | sign (h0 : ¬ (see l p = 47 ∧ see l (p + 1) = 42)) (h1 : ¬ see l p = 34) (h2 : ¬ see l p = 39) (h3 : ¬ see l p = 35) (h4 : white (see l p) = false) (h5 : number l p = false) (h6 : ¬ see l p = 64) (h7 : begins l p = false) (h8 : 0 < sign (see l p)) : TokC l p ([{ kind := sign (see l p) }], p + 1)
  | delim35 (h1 : see l p = 35) (h4 : white (see l p) = false) (h5 : number l p = false) (h7 : begins l p = false) (h6 : namePoint (see l (p + 1)) = false) (h8 : escape l (p + 1) = false) (h9 : sign (see l p) = 0) : TokC l p ([{ kind := 10, c := see l p }], p + 1)
  | delim64 (h1 : see l p = 64) (h4 : white (see l p) = false) (h5 : number l p = false) (h7 : begins l p = false) (h6 : begins l (p + 1) = false) (h9 : sign (see l p) = 0) : TokC l p ([{ kind := 10, c := see l p }], p + 1)
  | delim (h0 : ¬ (see l p = 47 ∧ see l (p + 1) = 42)) (h1 : ¬ see l p = 34) (h2 : ¬ see l p = 39) (h3 : ¬ see l p = 35) (h4 : white (see l p) = false) (h5 : number l p = false) (h6 : ¬ see l p = 64) (h7 : begins l p = false) (h8 : sign (see l p) = 0) : TokC l p ([{ kind := 10, c := see l p }], p + 1)
theorem sign_ge (c : Int) : sign c = 0 ∨ 0 < sign c := by unfold sign; repeat' split
                                                          all_goals omega
theorem number_at {l : List Int} {p : Nat} {c : Int} (h : see l p = c) (h1 : digit c = false) (h2 : c ≠ 43 ∧ c ≠ 45 ∧ c ≠ 46) : number l p = false := by
  unfold number; rw [h, h1]; simp [h2]
theorem begins_at' {l : List Int} {p : Nat} {c : Int} (h : see l p = c) (h1 : nameStart c = false) (h2 : c ≠ 45 ∧ c ≠ 92) : begins l p = false := by
  unfold begins escape; rw [h, h1]; simp [h2]
theorem tokC (l : List Int) (p : Nat) : TokC l p (tokNext l p) := by
  unfold tokNext
  by_cases c1 : see l p = 47 ∧ see l (p + 1) = 42
  · rw [if_pos c1]; exact .comment c1.1 c1.2
  rw [if_neg c1]
  cases c2 : white (see l p) with
  | true => simp only [if_true]; exact .blank c1 c2
  | false =>
    simp only [Bool.false_eq_true, if_false]
    by_cases c3 : see l p = 34 ∨ see l p = 39
    · rw [if_pos c3]; exact c3.elim (fun h => .quote h c2) (fun h => .quote1 h c2)
    rw [if_neg c3]
    by_cases c4 : see l p = 35
    · have n1 := number_at c4 (by decide) (by decide)
      have n2 := begins_at' c4 (by decide) (by decide)
      have n3 : sign (see l p) = 0 := by rw [c4]; decide
      cases c5 : namePoint (see l (p + 1)) with
      | true => rw [if_pos ⟨c4, .inl rfl⟩]; exact .hash c4 c2 c5
      | false =>
        cases c6 : escape l (p + 1) with
        | true => rw [if_pos ⟨c4, .inr rfl⟩]; exact .hashE c4 c2 c5 c6
        | false =>
          rw [if_neg (by simp), n1, if_neg (by simp), if_neg (by omega), n2, if_neg (by simp), if_neg (by omega)]
          exact .delim35 c4 c2 n1 n2 c5 c6 n3
    · rw [if_neg (fun h => c4 h.1)]
      cases c5 : number l p with
      | true => simp only [if_true]; exact .num c1 (by omega) (by omega) c4 c2 c5
      | false =>
        simp only [Bool.false_eq_true, if_false]
        by_cases c6 : see l p = 64
        · have n2 := begins_at' c6 (by decide) (by decide)
          have n3 : sign (see l p) = 0 := by rw [c6]; decide
          cases c7 : begins l (p + 1) with
          | true => rw [if_pos ⟨c6, rfl⟩]; exact .atk c6 c2 c5 c7
          | false =>
            rw [if_neg (by simp), n2, if_neg (by simp), if_neg (by omega)]
            exact .delim64 c6 c2 c5 n2 c7 n3
        · rw [if_neg (fun h => c6 h.1)]
          cases c7 : begins l p with
          | true =>
            simp only [if_true]
            by_cases c8 : see l (nameP l p) = 40
            · rw [if_pos c8]; exact .name c1 (by omega) (by omega) c4 c2 c5 c6 c7 c8
            · rw [if_neg c8]; exact .name1 c1 (by omega) (by omega) c4 c2 c5 c6 c7 c8
          | false =>
            simp only [Bool.false_eq_true, if_false]
            by_cases c8 : 0 < sign (see l p)
            · rw [if_pos c8]; exact .sign c1 (by omega) (by omega) c4 c2 c5 c6 c7 c8
            · rw [if_neg c8]
              have := sign_ge (see l p)
              exact .delim c1 (by omega) (by omega) c4 c2 c5 c6 c7 (by omega)
structure TokI (l : List Int) (s : Nat × List Tok) : Prop where
  p : s.1 ≤ l.length + 2
  t : s.2.length ≤ s.1
  run : ∀ f, l.length - s.1 < f → tokRun l f s.1 s.2 = tokens l
theorem Fin.toks {ts : List Tok} {H : Hp} {n : Nat} {R : D → Hp → Prop} (hR : R (.f (.sl (ts.map tokRow))) []) : Fin (toksD ts) H n 0 0 R := by
  refine Fin.frz 0 (Fin.mk (.f (.sl (ts.map tokRow))) [] hR rfl ⟨?_, by unfold intoH; cases frzH 0 H <;> trivial⟩)
  unfold intoL intoL intoD
  exact ⟨rfl, rfl⟩
theorem TokI.next {l : List Int} {p q : Nat} {ts us : List Tok} (h2 : ts.length ≤ p) (hp : p < l.length) (e0 : tokRun l (l.length - p) q (ts ++ us) = tokens l) (hgt : p < q ∧ q ≤ l.length + 2 ∧ us.length ≤ 1) : TokI l (q, ts ++ us) :=
  ⟨hgt.2.1, by dsimp only; rw [List.length_append]; omega, fun f hf => by dsimp only at hf ⊢; rw [← e0]; exact tokRun_fuel l _ _ _ _ hf (by omega)⟩
structure WhiteI (l : List Int) (p q : Nat) : Prop where
  le : q ≤ l.length
  run : ∀ f, l.length - q < f → whiteEnd l f q = whiteEnd l (l.length + 1) p
structure CommI (l : List Int) (p q : Nat) : Prop where
  le : q ≤ l.length
  run : ∀ f, l.length - q < f → commentEnd l f q = commentEnd l (l.length + 1) p
end Go.Proofs.YtofjmhigfihhbaaDoor.Aw
