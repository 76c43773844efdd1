/- How far the reference's reader goes; its tokens. -/
/- The reference's Tokens. -/
/- The reference's code points of bytes. -/
/- The reference's Points and Prepare. -/
import Derived.Test.YtdfiegleaknleaaXrH
namespace Go.Proofs.Ytdfiegleaknleaa.Aw
open Go Go.RowKit Go.Lib
set_option linter.unusedVariables false
set_option linter.unusedSimpArgs false
theorem nameRun_le (l : List Int) : ∀ (f p : Nat) (bs : List UInt8), p ≤ l.length → p ≤ (nameRun l f p bs).2 ∧ (nameRun l f p bs).2 ≤ l.length
  | 0, p, bs, h => ⟨Nat.le_refl _, h⟩
  | f + 1, p, bs, h => by
    unfold nameRun
    split
    · rename_i h1
      have h2 := namePoint_lt h1
      have := nameRun_le l f (p + 1) (bs ++ putB (see l p)) h2
      omega
    · split
      · rename_i h1
        have h2 := escapedP_le h1
        have := nameRun_le l f (escapedP l p) (bs ++ putB (escapedV l p)) h2.2
        omega
      · exact ⟨Nat.le_refl _, h⟩
theorem nameP_le {l : List Int} {p : Nat} (h : p ≤ l.length) : p ≤ nameP l p ∧ nameP l p ≤ l.length := nameRun_le l _ _ _ h
theorem nameP_gt {l : List Int} {p : Nat} (h : begins l p = true) : p < nameP l p ∧ nameP l p ≤ l.length := by
  have h1 : namePoint (see l p) = true ∨ escape l p = true := by
    unfold begins at h
    split at h
    · left; rename_i h2; simp [namePoint, h2]
    · simp only [Bool.or_eq_true] at h
      rcases h with h | h
      · left; simp [namePoint, h]
      · exact .inr h
  unfold nameP
  rw [nameRun]
  rcases h1 with h1 | h1
  · rw [if_pos h1]
    have h2 := namePoint_lt h1
    have := nameRun_le l l.length (p + 1) ([] ++ putB (see l p)) h2
    omega
  · have h2 := escapedP_le h1
    split
    · rename_i h3
      have h4 := namePoint_lt h3
      have := nameRun_le l l.length (p + 1) ([] ++ putB (see l p)) h4
      omega
    · have := nameRun_le l l.length (escapedP l p) ([] ++ putB (escapedV l p)) h2.2
      omega
theorem digRun_le (l : List Int) : ∀ (f p : Nat) (bs : List UInt8), p ≤ l.length → p ≤ (digRun l f p bs).2 ∧ (digRun l f p bs).2 ≤ l.length
  | 0, p, bs, h => ⟨Nat.le_refl _, h⟩
  | f + 1, p, bs, h => by
    unfold digRun
    split
    · rename_i h1
      have h2 := digit_lt h1
      have := digRun_le l f (p + 1) (bs ++ putB (see l p)) h2
      omega
    · exact ⟨Nat.le_refl _, h⟩
theorem digRun_gt {l : List Int} {f p : Nat} {bs : List UInt8} (h : digit (see l p) = true) : p < (digRun l (f + 1) p bs).2 := by
  rw [digRun, if_pos h]
  have := digRun_le l f (p + 1) (bs ++ putB (see l p)) (digit_lt h)
  omega
theorem numB_gt {l : List Int} {p : Nat} (h : number l p = true) : p < (numB l p).2.1 ∧ (numB l p).2.1 ≤ l.length := by
  have hp : p < l.length := by
    refine see_lt ?_
    unfold number at h
    split at h
    · omega
    · simp only [Bool.or_eq_true, Bool.and_eq_true, digit, decide_eq_true_eq] at h
      omega
  have h1 : p ≤ (numSgn l p).2 ∧ (numSgn l p).2 ≤ l.length ∧ (p < (numSgn l p).2 ∨ (numSgn l p).2 = p ∧ ¬ (see l p = 43 ∨ see l p = 45)) := by
    unfold numSgn
    split
    · exact ⟨by dsimp only; omega, by dsimp only; omega, .inl (by dsimp only; omega)⟩
    · exact ⟨by dsimp only; omega, by dsimp only; omega, .inr ⟨rfl, by assumption⟩⟩
  have h2 := digRun_le l (l.length + 1) (numSgn l p).2 (numSgn l p).1 h1.2.1
  have h3 : (numInt l p).2 = (digRun l (l.length + 1) (numSgn l p).2 (numSgn l p).1).2 := rfl
  unfold numB
  split
  · rename_i h4
    have h5 := digit_lt h4.2
    have := digRun_le l (l.length + 1) ((numInt l p).2 + 1) ((numInt l p).1 ++ [46]) (by omega)
    dsimp only
    omega
  · rename_i h4
    dsimp only
    refine ⟨?_, by omega⟩
    rcases h1.2.2 with h5 | ⟨h5, h6⟩
    · omega
    · have h7 : digit (see l p) = true ∨ (see l p = 46 ∧ digit (see l (p + 1)) = true) := by
        unfold number at h
        rw [if_neg h6] at h
        simpa using h
      rcases h7 with h7 | h7
      · have := digRun_gt (l := l) (f := l.length) (p := p) (bs := (numSgn l p).1) h7
        rw [h5] at h3
        omega
      · exfalso
        have h8 : digit (see l p) = false := by rw [h7.1]; decide
        have h9 : numInt l p = ((numSgn l p).1, p) := by
          unfold numInt
          rw [h5, digRun, if_neg (by simp [h8])]
        rw [h9] at h4
        exact h4 h7
theorem numericP_gt {l : List Int} {p : Nat} (h : number l p = true) : p < numericP l p ∧ numericP l p ≤ l.length := by
  have h1 := numB_gt h
  unfold numericP
  generalize numB l p = x at h1
  obtain ⟨bs, q, w⟩ := x
  dsimp only at h1 ⊢
  split
  · have := nameP_le h1.2; omega
  · split
    · have := see_lt (l := l) (i := q) (by omega); omega
    · omega
theorem strRun_le (l : List Int) (e : Int) : ∀ (f p : Nat) (bs : List UInt8), p ≤ l.length → p ≤ (strRun l e f p bs).2 ∧ (strRun l e f p bs).2 ≤ l.length
  | 0, p, bs, h => ⟨Nat.le_refl _, h⟩
  | f + 1, p, bs, h => by
    unfold strRun
    split
    · exact ⟨Nat.le_refl _, h⟩
    · have hp := see_lt (l := l) (i := p) (by omega)
      split
      · exact ⟨Nat.le_succ _, hp⟩
      · split
        · exact ⟨Nat.le_refl _, h⟩
        · split
          · split
            · have := strRun_le l e f (p + 1) bs hp; omega
            · have hp1 := see_lt (l := l) (i := p + 1) (by omega)
              split
              · have := strRun_le l e f (p + 2) bs (by omega); omega
              · rename_i h92 hn h10
                have h2 := escapedP_le (escape_of h92 hn h10)
                have := strRun_le l e f (escapedP l p) (bs ++ putB (escapedV l p)) h2.2
                omega
          · have := strRun_le l e f (p + 1) (bs ++ putB (see l p)) hp; omega
theorem strP_gt {l : List Int} {p : Nat} (h : p < l.length) : p < strP l p ∧ strP l p ≤ l.length := by
  have := strRun_le l (see l p) (l.length + 1) (p + 1) [] h
  unfold strP
  omega
def commentEnd (l : List Int) : Nat → Nat → Nat
  | 0, p => p
  | f + 1, p => if 0 ≤ see l p ∧ (see l p ≠ 42 ∨ see l (p + 1) ≠ 47) then commentEnd l f (p + 1) else p
theorem commentEnd_le (l : List Int) : ∀ (f p : Nat), p ≤ l.length → p ≤ commentEnd l f p ∧ commentEnd l f p ≤ l.length
  | 0, p, h => ⟨Nat.le_refl _, h⟩
  | f + 1, p, h => by
    unfold commentEnd
    split
    · rename_i h1
      have := commentEnd_le l f (p + 1) (see_lt h1.1)
      omega
    · exact ⟨Nat.le_refl _, h⟩
theorem commentEnd_fuel (l : List Int) : ∀ (f g p : Nat), l.length - p < f → l.length - p < g → commentEnd l f p = commentEnd l g p
  | 0, _, _, h, _ => by omega
  | f + 1, 0, _, _, h => by omega
  | f + 1, g + 1, p, h1, h2 => by
    unfold commentEnd
    split
    · rename_i h
      have := see_lt h.1
      exact commentEnd_fuel l f g _ (by omega) (by omega)
    · rfl
def whiteEnd (l : List Int) : Nat → Nat → Nat
  | 0, p => p
  | f + 1, p => if white (see l p) then whiteEnd l f (p + 1) else p
theorem whiteEnd_le (l : List Int) : ∀ (f p : Nat), p ≤ l.length → p ≤ whiteEnd l f p ∧ whiteEnd l f p ≤ l.length
  | 0, p, h => ⟨Nat.le_refl _, h⟩
  | f + 1, p, h => by
    unfold whiteEnd
    split
    · rename_i h1
      have := whiteEnd_le l f (p + 1) (white_see h1)
      omega
    · exact ⟨Nat.le_refl _, h⟩
theorem whiteEnd_fuel (l : List Int) : ∀ (f g p : Nat), l.length - p < f → l.length - p < g → whiteEnd l f p = whiteEnd l g p
  | 0, _, _, h, _ => by omega
  | f + 1, 0, _, _, h => by omega
  | f + 1, g + 1, p, h1, h2 => by
    unfold whiteEnd
    split
    · rename_i h
      have := white_see h
      exact whiteEnd_fuel l f g _ (by omega) (by omega)
    · rfl
/-- The token that stands here (none: a comment), and where it ends. -/
def tokNext (l : List Int) (p : Nat) : List Tok × Nat :=
  if see l p = 47 ∧ see l (p + 1) = 42 then ([], commentEnd l (l.length + 1) (p + 2) + 2)
  else if white (see l p) then ([{ kind := 9 }], whiteEnd l (l.length + 1) p)
  else if see l p = 34 ∨ see l p = 39 then ([strT l p], strP l p)
  else if see l p = 35 ∧ (namePoint (see l (p + 1)) = true ∨ escape l (p + 1) = true) then ([{ kind := 3, text := nameS l (p + 1) }], nameP l (p + 1))
  else if number l p then ([numericT l p], numericP l p)
  else if see l p = 64 ∧ begins l (p + 1) = true then ([{ kind := 2, text := nameS l (p + 1) }], nameP l (p + 1))
  else if begins l p then (if see l (nameP l p) = 40 then ([{ kind := 20, text := nameS l p }], nameP l p + 1) else ([{ kind := 1, text := nameS l p }], nameP l p))
  else if 0 < sign (see l p) then ([{ kind := sign (see l p) }], p + 1)
  else ([{ kind := 10, c := see l p }], p + 1)
def tokRun (l : List Int) : Nat → Nat → List Tok → List Tok
  | 0, _, ts => ts
  | f + 1, p, ts => if 0 ≤ see l p then tokRun l f (tokNext l p).2 (ts ++ (tokNext l p).1) else ts
def tokens (l : List Int) : List Tok := tokRun l (l.length + 1) 0 []
theorem tokNext_gt {l : List Int} {p : Nat} (h : 0 ≤ see l p) : p < (tokNext l p).2 ∧ (tokNext l p).2 ≤ l.length + 2 ∧ (tokNext l p).1.length ≤ 1 := by
  have hp := see_lt h
  unfold tokNext
  split
  · have := see_lt (l := l) (i := p + 1) (by omega)
    have := commentEnd_le l (l.length + 1) (p + 2) (by omega)
    exact ⟨by dsimp only; omega, by dsimp only; omega, by simp⟩
  split
  · rename_i hw
    have := whiteEnd_le l l.length (p + 1) hp
    have e : whiteEnd l (l.length + 1) p = whiteEnd l l.length (p + 1) := by rw [whiteEnd, if_pos hw]
    exact ⟨by dsimp only; omega, by dsimp only; omega, by simp⟩
  split
  · have := strP_gt hp
    exact ⟨by dsimp only; omega, by dsimp only; omega, by simp⟩
  split
  · have := nameP_le (l := l) (p := p + 1) hp
    exact ⟨by dsimp only; omega, by dsimp only; omega, by simp⟩
  split
  · rename_i hn
    have := numericP_gt hn
    exact ⟨by dsimp only; omega, by dsimp only; omega, by simp⟩
  split
  · have := nameP_le (l := l) (p := p + 1) hp
    exact ⟨by dsimp only; omega, by dsimp only; omega, by simp⟩
  split
  · rename_i hb
    have := nameP_gt hb
    split
    · exact ⟨by dsimp only; omega, by dsimp only; omega, by simp⟩
    · exact ⟨by dsimp only; omega, by dsimp only; omega, by simp⟩
  split
  · exact ⟨by dsimp only; omega, by dsimp only; omega, by simp⟩
  · exact ⟨by dsimp only; omega, by dsimp only; omega, by simp⟩
theorem tokRun_fuel (l : List Int) : ∀ (f g p : Nat) (ts : List Tok), l.length - p < f → l.length - p < g → tokRun l f p ts = tokRun l g p ts
  | 0, _, _, _, h, _ => by omega
  | f + 1, 0, _, _, _, h => by omega
  | f + 1, g + 1, p, ts, h1, h2 => by
    unfold tokRun
    split
    · rename_i h
      have h3 := see_lt h
      have h4 := tokNext_gt h
      exact tokRun_fuel l f g _ _ (by omega) (by omega)
    · rfl
end Go.Proofs.Ytdfiegleaknleaa.Aw

namespace Go.Proofs.Ytdfiegleaknleaa.Aw
open Go Go.RowKit Go.Lib
set_option linter.unusedVariables false
set_option linter.unusedSimpArgs false
set_option maxRecDepth 100000
def tokRow (t : Tok) : List F := [.v (.int .i64 t.kind), .v (.string ⟨t.text.toArray⟩), .v (.int .i64 t.n), .v (.bool t.whole), .v (.int .i64 t.c)]
abbrev toksD (ts : List Tok) : D := .own 0 25 5 (ts.map tokRow)
/-- The ways of the next token. -/
inductive TokC (l : List Int) (p : Nat) : List Tok × Nat → Prop
  | comment (h1 : see l p = 47) (h2 : see l (p + 1) = 42) : TokC l p ([], commentEnd l (l.length + 1) (p + 2) + 2)
  | blank (h1 : ¬ (see l p = 47 ∧ see l (p + 1) = 42)) (h2 : white (see l p) = true) : TokC l p ([{ kind := 9 }], whiteEnd l (l.length + 1) p)
  | quote (h1 : see l p = 34) (h2 : white (see l p) = false) : TokC l p ([strT l p], strP l p)
  | quote1 (h1 : see l p = 39) (h2 : white (see l p) = false) : TokC l p ([strT l p], strP l p)
  | hash (h1 : see l p = 35) (h2 : white (see l p) = false) (h3 : namePoint (see l (p + 1)) = true) : TokC l p ([{ kind := 3, text := nameS l (p + 1) }], nameP l (p + 1))
  | hashE (h1 : see l p = 35) (h2 : white (see l p) = false) (h3 : namePoint (see l (p + 1)) = false) (h4 : escape l (p + 1) = true) : TokC l p ([{ kind := 3, text := nameS l (p + 1) }], nameP l (p + 1))
  | num (h0 : ¬ (see l p = 47 ∧ see l (p + 1) = 42)) (h1 : ¬ see l p = 34) (h2 : ¬ see l p = 39) (h3 : see l p ≠ 35) (h4 : white (see l p) = false) (h5 : number l p = true) : TokC l p ([numericT l p], numericP l p)
  | atk (h1 : see l p = 64) (h4 : white (see l p) = false) (h5 : number l p = false) (h6 : begins l (p + 1) = true) : TokC l p ([{ kind := 2, text := nameS l (p + 1) }], nameP l (p + 1))
  | name (h0 : ¬ (see l p = 47 ∧ see l (p + 1) = 42)) (h1 : ¬ see l p = 34) (h2 : ¬ see l p = 39) (h3 : see l p ≠ 35) (h4 : white (see l p) = false) (h5 : number l p = false) (h6 : ¬ see l p = 64) (h7 : begins l p = true) (h8 : see l (nameP l p) = 40) : TokC l p ([{ kind := 20, text := nameS l p }], nameP l p + 1)
  | name1 (h0 : ¬ (see l p = 47 ∧ see l (p + 1) = 42)) (h1 : ¬ see l p = 34) (h2 : ¬ see l p = 39) (h3 : see l p ≠ 35) (h4 : white (see l p) = false) (h5 : number l p = false) (h6 : ¬ see l p = 64) (h7 : begins l p = true) (h8 : ¬ see l (nameP l p) = 40) : TokC l p ([{ kind := 1, text := nameS l p }], nameP l p)
  | sign (h0 : ¬ (see l p = 47 ∧ see l (p + 1) = 42)) (h1 : ¬ see l p = 34) (h2 : ¬ see l p = 39) (h3 : ¬ see l p = 35) (h4 : white (see l p) = false) (h5 : number l p = false) (h6 : ¬ see l p = 64) (h7 : begins l p = false) (h8 : 0 < sign (see l p)) : TokC l p ([{ kind := sign (see l p) }], p + 1)
  | delim35 (h1 : see l p = 35) (h4 : white (see l p) = false) (h5 : number l p = false) (h7 : begins l p = false) (h6 : namePoint (see l (p + 1)) = false) (h8 : escape l (p + 1) = false) (h9 : sign (see l p) = 0) : TokC l p ([{ kind := 10, c := see l p }], p + 1)
  | delim64 (h1 : see l p = 64) (h4 : white (see l p) = false) (h5 : number l p = false) (h7 : begins l p = false) (h6 : begins l (p + 1) = false) (h9 : sign (see l p) = 0) : TokC l p ([{ kind := 10, c := see l p }], p + 1)
  | delim (h0 : ¬ (see l p = 47 ∧ see l (p + 1) = 42)) (h1 : ¬ see l p = 34) (h2 : ¬ see l p = 39) (h3 : ¬ see l p = 35) (h4 : white (see l p) = false) (h5 : number l p = false) (h6 : ¬ see l p = 64) (h7 : begins l p = false) (h8 : sign (see l p) = 0) : TokC l p ([{ kind := 10, c := see l p }], p + 1)
theorem sign_ge (c : Int) : sign c = 0 ∨ 0 < sign c := by unfold sign; repeat' split
                                                          all_goals omega
theorem number_at {l : List Int} {p : Nat} {c : Int} (h : see l p = c) (h1 : digit c = false) (h2 : c ≠ 43 ∧ c ≠ 45 ∧ c ≠ 46) : number l p = false := by
  unfold number; rw [h, h1]; simp [h2]
theorem begins_at' {l : List Int} {p : Nat} {c : Int} (h : see l p = c) (h1 : nameStart c = false) (h2 : c ≠ 45 ∧ c ≠ 92) : begins l p = false := by
  unfold begins escape; rw [h, h1]; simp [h2]
theorem tokC (l : List Int) (p : Nat) : TokC l p (tokNext l p) := by
  unfold tokNext
  by_cases c1 : see l p = 47 ∧ see l (p + 1) = 42
  · rw [if_pos c1]; exact .comment c1.1 c1.2
  rw [if_neg c1]
  cases c2 : white (see l p) with
  | true => simp only [if_true]; exact .blank c1 c2
  | false =>
    simp only [Bool.false_eq_true, if_false]
    by_cases c3 : see l p = 34 ∨ see l p = 39
    · rw [if_pos c3]; exact c3.elim (fun h => .quote h c2) (fun h => .quote1 h c2)
    rw [if_neg c3]
    by_cases c4 : see l p = 35
    · have n1 := number_at c4 (by decide) (by decide)
      have n2 := begins_at' c4 (by decide) (by decide)
      have n3 : sign (see l p) = 0 := by rw [c4]; decide
      cases c5 : namePoint (see l (p + 1)) with
      | true => rw [if_pos ⟨c4, .inl rfl⟩]; exact .hash c4 c2 c5
      | false =>
        cases c6 : escape l (p + 1) with
        | true => rw [if_pos ⟨c4, .inr rfl⟩]; exact .hashE c4 c2 c5 c6
        | false =>
          rw [if_neg (by simp), n1, if_neg (by simp), if_neg (by omega), n2, if_neg (by simp), if_neg (by omega)]
          exact .delim35 c4 c2 n1 n2 c5 c6 n3
    · rw [if_neg (fun h => c4 h.1)]
      cases c5 : number l p with
      | true => simp only [if_true]; exact .num c1 (by omega) (by omega) c4 c2 c5
      | false =>
        simp only [Bool.false_eq_true, if_false]
        by_cases c6 : see l p = 64
        · have n2 := begins_at' c6 (by decide) (by decide)
          have n3 : sign (see l p) = 0 := by rw [c6]; decide
          cases c7 : begins l (p + 1) with
          | true => rw [if_pos ⟨c6, rfl⟩]; exact .atk c6 c2 c5 c7
          | false =>
            rw [if_neg (by simp), n2, if_neg (by simp), if_neg (by omega)]
            exact .delim64 c6 c2 c5 n2 c7 n3
        · rw [if_neg (fun h => c6 h.1)]
          cases c7 : begins l p with
          | true =>
            simp only [if_true]
            by_cases c8 : see l (nameP l p) = 40
            · rw [if_pos c8]; exact .name c1 (by omega) (by omega) c4 c2 c5 c6 c7 c8
            · rw [if_neg c8]; exact .name1 c1 (by omega) (by omega) c4 c2 c5 c6 c7 c8
          | false =>
            simp only [Bool.false_eq_true, if_false]
            by_cases c8 : 0 < sign (see l p)
            · rw [if_pos c8]; exact .sign c1 (by omega) (by omega) c4 c2 c5 c6 c7 c8
            · rw [if_neg c8]
              have := sign_ge (see l p)
              exact .delim c1 (by omega) (by omega) c4 c2 c5 c6 c7 (by omega)
structure TokI (l : List Int) (s : Nat × List Tok) : Prop where
  p : s.1 ≤ l.length + 2
  t : s.2.length ≤ s.1
  run : ∀ f, l.length - s.1 < f → tokRun l f s.1 s.2 = tokens l
theorem Fin.toks {ts : List Tok} {H : Hp} {n : Nat} {R : D → Hp → Prop} (hR : R (.f (.sl (ts.map tokRow))) []) : Fin (toksD ts) H n 0 0 R := by
  refine Fin.frz 0 (Fin.mk (.f (.sl (ts.map tokRow))) [] hR rfl ⟨?_, by unfold intoH; cases frzH 0 H <;> trivial⟩)
  unfold intoL intoL intoD
  exact ⟨rfl, rfl⟩
theorem TokI.next {l : List Int} {p q : Nat} {ts us : List Tok} (h2 : ts.length ≤ p) (hp : p < l.length) (e0 : tokRun l (l.length - p) q (ts ++ us) = tokens l) (hgt : p < q ∧ q ≤ l.length + 2 ∧ us.length ≤ 1) : TokI l (q, ts ++ us) :=
  ⟨hgt.2.1, by dsimp only; rw [List.length_append]; omega, fun f hf => by dsimp only at hf ⊢; rw [← e0]; exact tokRun_fuel l _ _ _ _ hf (by omega)⟩
structure WhiteI (l : List Int) (p q : Nat) : Prop where
  le : q ≤ l.length
  run : ∀ f, l.length - q < f → whiteEnd l f q = whiteEnd l (l.length + 1) p
structure CommI (l : List Int) (p q : Nat) : Prop where
  le : q ≤ l.length
  run : ∀ f, l.length - q < f → commentEnd l f q = commentEnd l (l.length + 1) p
set_option maxHeartbeats 4000000 in
theorem tokens_spec (l : List Int) (hl : l.length < 100000000) : Spec P 23 [.f (.sl (ptsF l))] [] 0 (fun d H => d = .f (.sl ((tokens l).map tokRow)) ∧ H = []) := by
  refine spec_mk tab_ok Try.func23 (by rfl) rfl ?_
  conv => whnf
  refine step_loop tab_ok (fun s : Nat × List Tok => padK [.f (.sl (ptsF l)), .junk, .junk, .ptr 0 0, toksD s.2] 208) (fun s => [some (rdr l s.1)]) 1 (TokI l) (fun s => l.length + 2 - s.1) (0, []) ⟨by simp, by simp, fun f hf => tokRun_fuel l _ _ _ _ hf (by dsimp only at hf; omega)⟩ (fun _ => rfl) ?_ ?_
  ·
    repeat' first | exact trivial | exact rfl | exact (by decide : (0 : Nat) < 1) | exact Nat.le_refl _ | exact Nat.zero_lt_succ _ | exact congrArg int (by (try dsimp only); omega) | exact congrArg bool (by (try dsimp only); simp; omega) | (show _ < List.length _; simp; done) | apply And.intro
  · rintro ⟨p, ts⟩ ⟨h1, h2, h3⟩
    simp only at h1 h2 h3
    have e0 := h3 (l.length - p + 1) (by omega)
    rw [tokRun] at e0
    dsimp only
    conv => whnf
    refine (see_at l (by omega) p (by omega) _ p (by omega) (by omega) (by omega)).call ⟨⟨rfl, rfl, trivial⟩, rfl, rfl⟩ ?_
    conv => whnf
    refine Case.dec (fun h0 => ?_) (fun h0 => ?_)
    · have hp := see_lt h0
      rw [if_pos h0] at e0
      have hgt := tokNext_gt h0
      have hC := tokC l p
      generalize tokNext l p = Y at e0 hgt hC
      have hnp := nameP_le (l := l) (p := p) (by omega)
      cases hC
      all_goals dsimp only at e0 hgt
      all_goals conv => whnf
      all_goals
        repeat' first
          | (refine Case.not ?_; conv => whnf)
          | (refine Case.yes ?_; conv => whnf)
          | (refine Case.no ?_; conv => whnf)
          | (refine Case.isTrue (by assumption) ?_; conv => whnf)
          | (refine Case.isFalse (by assumption) ?_; conv => whnf)
          | (refine Case.decT (by assumption) ?_; conv => whnf)
          | (refine Case.decF (by assumption) ?_; conv => whnf)
          | (refine Case.decT (by omega) ?_; conv => whnf)
          | (refine Case.decF (by omega) ?_; conv => whnf)
          | (refine Case.beqT (by omega) ?_; conv => whnf)
          | (refine Case.beqF (by omega) ?_; conv => whnf)
          | (refine (see_at l (by omega) p (by omega) _ p (by omega) (by omega) (by omega)).call ⟨⟨rfl, rfl, trivial⟩, rfl, rfl⟩ ?_; conv => whnf)
          | (refine (see_at l (by omega) p (by omega) _ (p + 1) (by omega) (by omega) (by omega)).call ⟨⟨rfl, rfl, trivial⟩, rfl, rfl⟩ ?_; conv => whnf)
          | (refine (number_spec l (by omega) p (by omega)).call ⟨⟨rfl, rfl, trivial⟩, rfl⟩ ?_; conv => whnf)
          | (refine (begins_at l (by omega) p (by omega) _ p (by omega) (by omega) (by omega)).call ⟨⟨rfl, rfl, trivial⟩, rfl, rfl⟩ ?_; conv => whnf)
          | (refine (begins_at l (by omega) p (by omega) _ (p + 1) (by omega) (by omega) (by omega)).call ⟨⟨rfl, rfl, trivial⟩, rfl, rfl⟩ ?_; conv => whnf)
          | (refine (escape_at l (by omega) p (by omega) _ (p + 1) (by omega) (by omega) (by omega)).call ⟨⟨rfl, rfl, trivial⟩, rfl, rfl⟩ ?_; conv => whnf)
          | (refine (white_spec _).call ⟨rfl, rfl⟩ ?_; conv => whnf)
          | (refine (namePoint_spec _).call ⟨rfl, rfl⟩ ?_; conv => whnf)
          | (refine (sign_spec _).call ⟨rfl, rfl⟩ ?_; conv => whnf)
          | (refine (str_spec l hl p hp).call ?_; conv => whnf)
          | (refine (numeric_spec l hl p (by omega)).call ?_; conv => whnf)
          | (refine (name_spec l hl p (by omega)).call ?_; conv => whnf)
          | (refine Meth.call (a := p + 1) (name_spec l hl (p + 1) (by omega)) ?_; conv => whnf)
          | (refine Owes.mk (by simp; omega) ?_; conv => whnf)
          | (refine (see_at l (by omega) (nameP l p) (by omega) _ (nameP l p) (by omega) (by omega) (by omega)).call ⟨⟨rfl, rfl, trivial⟩, rfl, rfl⟩ ?_; conv => whnf)
          | (refine Num.id (by omega) (by omega) ?_; conv => whnf)
          | (refine Case.dec (fun _ => ?_) (fun _ => ?_) <;> conv => whnf)
          | (refine Case.beqI (fun _ => ?_) (fun _ => ?_) <;> conv => whnf)
          | (refine Case.mk (fun _ => ?_) (fun _ => ?_) <;> conv => whnf)
          | (refine Way.fst ?_; conv => whnf)
      case comment =>
        have h42 := see_lt (l := l) (i := p + 1) (by omega)
        refine step_loop tab_ok (fun q : Nat => padK [.f (.sl (ptsF l)), .junk, .junk, .ptr 0 0, toksD ts] 208) (fun q => [some (rdr l q)]) 1 (CommI l (p + 2)) (fun q => l.length - q) (p + 2) ⟨by omega, fun f hf => commentEnd_fuel l _ _ _ hf (by omega)⟩ (fun _ => rfl) ?_ ?_
        ·
          repeat' first | exact trivial | exact rfl | exact (by decide : (0 : Nat) < 1) | exact Nat.le_refl _ | exact Nat.zero_lt_succ _ | exact congrArg int (by (try dsimp only); omega) | exact congrArg bool (by (try dsimp only); simp; omega) | (show _ < List.length _; simp; done) | apply And.intro
        · rintro q ⟨g1, g2⟩
          have e1 := g2 (l.length - q + 1) (by omega)
          rw [commentEnd] at e1
          conv => whnf
          repeat' first
            | (refine Case.not ?_; conv => whnf)
            | (refine Case.yes ?_; conv => whnf)
            | (refine Case.no ?_; conv => whnf)
            | (refine Case.isTrue (by assumption) ?_; conv => whnf)
            | (refine Case.isFalse (by assumption) ?_; conv => whnf)
            | (refine Case.decT (by assumption) ?_; conv => whnf)
            | (refine Case.decF (by assumption) ?_; conv => whnf)
            | (refine Case.decT (by omega) ?_; conv => whnf)
            | (refine Case.decF (by omega) ?_; conv => whnf)
            | (refine Case.beqT (by omega) ?_; conv => whnf)
            | (refine Case.beqF (by omega) ?_; conv => whnf)
            | (refine (see_at l (by omega) q (by omega) _ q (by omega) (by omega) (by omega)).call ⟨⟨rfl, rfl, trivial⟩, rfl, rfl⟩ ?_; conv => whnf)
            | (refine (see_at l (by omega) q (by omega) _ (q + 1) (by omega) (by omega) (by omega)).call ⟨⟨rfl, rfl, trivial⟩, rfl, rfl⟩ ?_; conv => whnf)
            | (refine Num.id (by omega) (by omega) ?_; conv => whnf)
            | (refine Case.dec (fun _ => ?_) (fun _ => ?_) <;> conv => whnf)
            | (refine Case.beqI (fun _ => ?_) (fun _ => ?_) <;> conv => whnf)
            | (refine Case.mk (fun _ => ?_) (fun _ => ?_) <;> conv => whnf)
            | (refine Way.fst ?_; conv => whnf)
          · rw [if_neg (by omega)] at e1
            subst e1
            refine ⟨_, TokI.next h2 hp e0 hgt, by dsimp only; omega, ?_⟩
            repeat' first | exact trivial | exact rfl | exact (by decide : (0 : Nat) < 1) | exact Nat.le_refl _ | exact Nat.zero_lt_succ _ | exact congrArg int (by (try dsimp only); omega) | exact congrArg bool (by (try dsimp only); simp; omega) | (show _ < List.length _; simp; done) | apply And.intro | exact congrArg (D.own _ _ _) (by simp [tokRow]; done) | exact congrArg int (by unfold tokRow; (repeat' split) <;> omega)
          · have hq := see_lt (l := l) (i := q) (by omega)
            refine ⟨q + 1, ⟨by omega, fun f hf => by rw [← g2 (f + 1) (by omega), commentEnd, if_pos ⟨by omega, by omega⟩]⟩, by omega, ?_⟩
            repeat' first | exact trivial | exact rfl | exact (by decide : (0 : Nat) < 1) | exact Nat.le_refl _ | exact Nat.zero_lt_succ _ | exact congrArg int (by (try dsimp only); omega) | exact congrArg bool (by (try dsimp only); simp; omega) | (show _ < List.length _; simp; done) | apply And.intro
          · have hq := see_lt (l := l) (i := q) (by omega)
            refine ⟨q + 1, ⟨by omega, fun f hf => by rw [← g2 (f + 1) (by omega), commentEnd, if_pos ⟨by omega, by omega⟩]⟩, by omega, ?_⟩
            repeat' first | exact trivial | exact rfl | exact (by decide : (0 : Nat) < 1) | exact Nat.le_refl _ | exact Nat.zero_lt_succ _ | exact congrArg int (by (try dsimp only); omega) | exact congrArg bool (by (try dsimp only); simp; omega) | (show _ < List.length _; simp; done) | apply And.intro
          · rw [if_neg (by omega)] at e1
            subst e1
            refine ⟨_, TokI.next h2 hp e0 hgt, by dsimp only; omega, ?_⟩
            repeat' first | exact trivial | exact rfl | exact (by decide : (0 : Nat) < 1) | exact Nat.le_refl _ | exact Nat.zero_lt_succ _ | exact congrArg int (by (try dsimp only); omega) | exact congrArg bool (by (try dsimp only); simp; omega) | (show _ < List.length _; simp; done) | apply And.intro | exact congrArg (D.own _ _ _) (by simp [tokRow]; done) | exact congrArg int (by unfold tokRow; (repeat' split) <;> omega)
      case blank.refine_1 | blank.refine_2 =>
        refine step_loop tab_ok (fun q : Nat => padK [.f (.sl (ptsF l)), .junk, .junk, .ptr 0 0, toksD ts] 208) (fun q => [some (rdr l q)]) 1 (WhiteI l p) (fun q => l.length - q) p ⟨by omega, fun f hf => whiteEnd_fuel l _ _ _ hf (by omega)⟩ (fun _ => rfl) ?_ ?_
        ·
          repeat' first | exact trivial | exact rfl | exact (by decide : (0 : Nat) < 1) | exact Nat.le_refl _ | exact Nat.zero_lt_succ _ | exact congrArg int (by (try dsimp only); omega) | exact congrArg bool (by (try dsimp only); simp; omega) | (show _ < List.length _; simp; done) | apply And.intro
        · rintro q ⟨g1, g2⟩
          have e1 := g2 (l.length - q + 1) (by omega)
          rw [whiteEnd] at e1
          conv => whnf
          repeat' first
            | (refine Case.not ?_; conv => whnf)
            | (refine Case.yes ?_; conv => whnf)
            | (refine Case.no ?_; conv => whnf)
            | (refine Case.isTrue (by assumption) ?_; conv => whnf)
            | (refine Case.isFalse (by assumption) ?_; conv => whnf)
            | (refine Case.decT (by assumption) ?_; conv => whnf)
            | (refine Case.decF (by assumption) ?_; conv => whnf)
            | (refine Case.decT (by omega) ?_; conv => whnf)
            | (refine Case.decF (by omega) ?_; conv => whnf)
            | (refine Case.beqT (by omega) ?_; conv => whnf)
            | (refine Case.beqF (by omega) ?_; conv => whnf)
            | (refine (see_at l (by omega) q (by omega) _ q (by omega) (by omega) (by omega)).call ⟨⟨rfl, rfl, trivial⟩, rfl, rfl⟩ ?_; conv => whnf)
            | (refine (see_at l (by omega) q (by omega) _ (q + 1) (by omega) (by omega) (by omega)).call ⟨⟨rfl, rfl, trivial⟩, rfl, rfl⟩ ?_; conv => whnf)
            | (refine (white_spec _).call ⟨rfl, rfl⟩ ?_; conv => whnf)
            | (refine Owes.mk (by simp; omega) ?_; conv => whnf)
            | (refine Num.id (by omega) (by omega) ?_; conv => whnf)
            | (refine Case.dec (fun _ => ?_) (fun _ => ?_) <;> conv => whnf)
            | (refine Case.beqI (fun _ => ?_) (fun _ => ?_) <;> conv => whnf)
            | (refine Case.mk (fun _ => ?_) (fun _ => ?_) <;> conv => whnf)
            | (refine Way.fst ?_; conv => whnf)
          · have hq := white_see (l := l) (i := q) (by assumption)
            refine ⟨q + 1, ⟨by omega, fun f hf => by rw [← g2 (f + 1) (by omega), whiteEnd, if_pos (by assumption)]⟩, by omega, ?_⟩
            repeat' first | exact trivial | exact rfl | exact (by decide : (0 : Nat) < 1) | exact Nat.le_refl _ | exact Nat.zero_lt_succ _ | exact congrArg int (by (try dsimp only); omega) | exact congrArg bool (by (try dsimp only); simp; omega) | (show _ < List.length _; simp; done) | apply And.intro
          · rw [if_neg (by simp_all)] at e1
            subst e1
            refine ⟨_, TokI.next h2 hp e0 hgt, by dsimp only; omega, ?_⟩
            repeat' first | exact trivial | exact rfl | exact (by decide : (0 : Nat) < 1) | exact Nat.le_refl _ | exact Nat.zero_lt_succ _ | exact congrArg int (by (try dsimp only); omega) | exact congrArg bool (by (try dsimp only); simp; omega) | (show _ < List.length _; simp; done) | apply And.intro | exact congrArg (D.own _ _ _) (by simp [tokRow]; done) | exact congrArg int (by unfold tokRow; (repeat' split) <;> omega)
      all_goals
        refine ⟨_, TokI.next h2 hp e0 hgt, by dsimp only; omega, ?_⟩
        repeat' first | exact trivial | exact rfl | exact (by decide : (0 : Nat) < 1) | exact Nat.le_refl _ | exact Nat.zero_lt_succ _ | exact congrArg int (by (try dsimp only); omega) | exact congrArg bool (by (try dsimp only); simp; omega) | (show _ < List.length _; simp; done) | apply And.intro | exact congrArg (D.own _ _ _) (by simp [tokRow]; done) | exact congrArg int (by unfold tokRow; (repeat' split) <;> omega)
    · rw [if_neg h0] at e0
      subst e0
      conv => whnf
      exact Fin.toks ⟨rfl, rfl⟩
end Go.Proofs.Ytdfiegleaknleaa.Aw

namespace Go.Proofs.Ytdfiegleaknleaa.Aw
open Go Go.RowKit Go.Lib
set_option linter.unusedVariables false
set_option linter.unusedSimpArgs false
set_option maxRecDepth 100000
/-- A closed contract that hands back one value without names. -/
structure Val (g : FuncId) (args : List D) (d : D) : Prop where
  ga : renL [] [] args = args
  gr : refL 0 0 args
  gd : d.ren [] [] = d
  spec : Spec P g args [] 0 (fun d' H => H = [] ∧ d' = d)
theorem Val.call {g : FuncId} {as' E : List D} {H : Hp} {n : Nat} {K : KD} {d : D} (h : Val g as' d) (k : K d E H n) : Call P g as' E H n K := by
  have := call_gen (E := E) (H := H) (n := n) (K := K) [] [] h.spec (by simp) (by simp) (by simp) (by simp) trivial h.gr (fun d' Hs' hR _ => by
    obtain ⟨rfl, rfl⟩ := hR
    rw [h.gd, killsL_nil, killsH_nil]
    exact k)
  rwa [h.ga] at this
theorem and_mask {c : Int} (k : Nat) (hk : k ≤ 62) (h0 : 0 ≤ c) (h1 : c < 9223372036854775808) : andI .i64 c ((2 ^ k - 1 : Nat) : Int) = c % (2 ^ k : Nat) := by
  unfold andI
  obtain ⟨m, rfl⟩ : ∃ m : Nat, c = m := ⟨c.toNat, by omega⟩
  have hp : (2 : Nat) ^ k ≤ 2 ^ 62 := Nat.pow_le_pow_right (by omega) hk
  have hp0 : 0 < (2 : Nat) ^ k := Nat.pow_pos (by omega)
  have e : (BitVec.ofInt IntKind.i64.bits (m : Int) &&& BitVec.ofInt IntKind.i64.bits ((2 ^ k - 1 : Nat) : Int)).toNat = m % 2 ^ k := by
    rw [BitVec.toNat_and, BitVec.toNat_ofInt, BitVec.toNat_ofInt]
    have eb : ((2 ^ IntKind.i64.bits : Nat) : Int) = 18446744073709551616 := by decide
    have e1 : ((m : Int) % ((2 ^ IntKind.i64.bits : Nat) : Int)).toNat = m := by rw [eb]; omega
    have e2 : ((((2 ^ k - 1 : Nat)) : Int) % ((2 ^ IntKind.i64.bits : Nat) : Int)).toNat = 2 ^ k - 1 := by
      rw [eb]
      have : (2 : Nat) ^ 62 = 4611686018427387904 := by decide
      omega
    rw [e1, e2, Nat.and_two_pow_sub_one_eq_mod]
  rw [e]
  omega
theorem Num.mask {c m q : Int} {K : Int → Prop} (k : Nat) (hk : k ≤ 62) (h0 : 0 ≤ c) (h1 : c < 9223372036854775808) (hm : m = ((2 ^ k - 1 : Nat) : Int)) (hq : q = ((2 ^ k : Nat) : Int)) (h : K (c % q)) : Num .i64 (andI .i64 c m) K := by
  subst hm hq
  rw [and_mask k hk h0 h1]
  have hp0 : 0 < (2 : Nat) ^ k := Nat.pow_pos (by omega)
  have hp : (2 : Nat) ^ k ≤ 2 ^ 62 := Nat.pow_le_pow_right (by omega) hk
  have hb : (2 : Nat) ^ 62 = 4611686018427387904 := by decide
  have := Int.emod_nonneg c (b := ((2 ^ k : Nat) : Int)) (by omega)
  have := Int.emod_lt_of_pos c (b := ((2 ^ k : Nat) : Int)) (by omega)
  exact Num.id (by omega) (by omega) h
def bAt (bs : List UInt8) (i : Nat) : Int := ((bs.getD i 0).toNat : Int)
theorem bAt_le (bs : List UInt8) (i : Nat) : 0 ≤ bAt bs i ∧ bAt bs i < 256 := by
  unfold bAt
  have := (bs.getD i 0).toNat_lt
  omega
theorem byteRow_len {bs : List UInt8} : ∀ e ∈ bs.map byteRow, e.length = 1 := by simp [byteRow]
theorem rowAt {bs : List UInt8} {i : Nat} (h : i < bs.length) : (bs.map byteRow)[i]? = some [F.v (.int .u8 (bAt bs i))] := by
  simp [h, byteRow, bAt, List.getD]
theorem Part.tail {α β : Type} {f : α → β} {bs : List α} {lo hi : Int} {K : List β → Prop} (l : Nat) (h1 : lo = l) (h2 : hi = bs.length) (h3 : l ≤ bs.length) (h : K ((bs.drop l).map f)) : Part (bs.map f) lo hi K := by
  refine Part.mk l bs.length h1 h2 h3 (by simp) ?_
  rw [List.take_of_length_le (by simp), ← List.map_drop]
  exact h
def contRun (bs : List UInt8) : Nat → Nat → Int → Option Int
  | 0, _, c => some c
  | k + 1, i, c => if bAt bs i < 128 ∨ bAt bs i > 191 then none else contRun bs k (i + 1) (c * 64 + bAt bs i % 64)
def pointK (bs : List UInt8) (n : Nat) (least c : Int) : Int × Nat :=
  if bs.length < n then (65533, 1) else match contRun bs (n - 1) 1 c with
    | none => (65533, 1)
    | some c => if c < least ∨ right c = false then (65533, 1) else (c, n)
def pointV (bs : List UInt8) : Int × Nat :=
  if bAt bs 0 < 128 then (bAt bs 0, 1)
  else if 194 ≤ bAt bs 0 ∧ bAt bs 0 < 224 then pointK bs 2 128 (bAt bs 0 % 32)
  else if 224 ≤ bAt bs 0 ∧ bAt bs 0 < 240 then pointK bs 3 2048 (bAt bs 0 % 16)
  else if 240 ≤ bAt bs 0 ∧ bAt bs 0 < 245 then pointK bs 4 65536 (bAt bs 0 % 8)
  else (65533, 1)
theorem pointK_le (bs : List UInt8) (n : Nat) (least c : Int) (h : 1 ≤ bs.length) (hn : 1 ≤ n) : 1 ≤ (pointK bs n least c).2 ∧ (pointK bs n least c).2 ≤ bs.length := by
  unfold pointK
  split
  · exact ⟨Nat.le_refl _, h⟩
  · split
    · exact ⟨Nat.le_refl _, h⟩
    · split
      · exact ⟨Nat.le_refl _, h⟩
      · dsimp only; omega
theorem pointV_le {bs : List UInt8} (h : 1 ≤ bs.length) : 1 ≤ (pointV bs).2 ∧ (pointV bs).2 ≤ bs.length := by
  unfold pointV
  split
  · exact ⟨Nat.le_refl _, h⟩
  split
  · exact pointK_le bs _ _ _ h (by omega)
  split
  · exact pointK_le bs _ _ _ h (by omega)
  split
  · exact pointK_le bs _ _ _ h (by omega)
  · exact ⟨Nat.le_refl _, h⟩
theorem Fin.pt {x y : Int} {q : Int × Nat} {H : Hp} {n n0 : Nat} (e1 : x = q.1) (e2 : y = q.2) : Fin (.tup [int x, int y]) H n 0 n0 (fun d H => H = [] ∧ d = .tup [int q.1, int q.2]) := by
  subst e1 e2
  exact Fin.scal ⟨trivial, trivial, trivial⟩ ⟨rfl, rfl⟩
structure ContI (bs : List UInt8) (n : Nat) (b0 : Int) (s : Nat × Int) : Prop where
  i0 : 1 ≤ s.1
  i1 : s.1 ≤ n
  c0 : 0 ≤ s.2
  c1 : s.2 < 64 ^ s.1
  run : contRun bs (n - s.1) s.1 s.2 = contRun bs (n - 1) 1 b0
set_option maxHeartbeats 2000000 in
theorem point_spec (bs : List UInt8) (h1 : 1 ≤ bs.length) (hl : bs.length < 1000000000) : Pure 57 [.f (.sl (bs.map byteRow))] (.tup [int (pointV bs).1, int (pointV bs).2]) := by
  have hx := bAt_le bs 0
  have hlen : (bs.map byteRow).length = bs.length := by simp
  refine ⟨⟨trivial, trivial, trivial⟩, spec_step tab_ok Try.func57 (by rfl) rfl ?_⟩
  conv => whnf
  iterate 5
    refine step_seq tab_ok ?_
    conv => whnf
    repeat' first
      | (refine Case.not ?_; conv => whnf)
      | (refine Case.yes ?_; conv => whnf)
      | (refine Case.no ?_; conv => whnf)
      | (refine Case.isTrue (by assumption) ?_; conv => whnf)
      | (refine Case.isFalse (by assumption) ?_; conv => whnf)
      | (refine Case.decT (by assumption) ?_; conv => whnf)
      | (refine Case.decF (by assumption) ?_; conv => whnf)
      | (refine Case.decT (by omega) ?_; conv => whnf)
      | (refine Case.decF (by omega) ?_; conv => whnf)
      | (refine Case.beqT (by omega) ?_; conv => whnf)
      | (refine Case.beqF (by omega) ?_; conv => whnf)
      | (refine Elem.mk 0 _ (by omega) (rowAt (by omega)) ?_; conv => whnf)
      | (refine Owes.mk byteRow_len ?_; conv => whnf)
      | (refine Num.id (by omega) (by omega) ?_; conv => whnf)
      | (refine Case.dec (fun _ => ?_) (fun _ => ?_) <;> conv => whnf)
      | (refine Case.beqI (fun _ => ?_) (fun _ => ?_) <;> conv => whnf)
      | (refine Case.mk (fun _ => ?_) (fun _ => ?_) <;> conv => whnf)
      | (refine Way.fst ?_; conv => whnf)
  refine step_cut tab_ok (fun s : Nat × Int × Int => padK [.f (.sl (bs.map byteRow)), .junk, .junk, .junk, int (bAt bs 0), int s.1, int s.2.1, int s.2.2] 80) (fun _ => []) 0 (fun s => pointV bs = pointK bs s.1 s.2.1 s.2.2 ∧ 2 ≤ s.1 ∧ s.1 ≤ 4 ∧ 0 ≤ s.2.2 ∧ s.2.2 < 64) (fun _ => rfl) ?_ ?_
  · conv => whnf
    repeat' first
      | (refine Case.not ?_; conv => whnf)
      | (refine Case.yes ?_; conv => whnf)
      | (refine Case.no ?_; conv => whnf)
      | (refine Case.isTrue (by assumption) ?_; conv => whnf)
      | (refine Case.isFalse (by assumption) ?_; conv => whnf)
      | (refine Case.decT (by assumption) ?_; conv => whnf)
      | (refine Case.decF (by assumption) ?_; conv => whnf)
      | (refine Case.decT (by omega) ?_; conv => whnf)
      | (refine Case.decF (by omega) ?_; conv => whnf)
      | (refine Case.beqT (by omega) ?_; conv => whnf)
      | (refine Case.beqF (by omega) ?_; conv => whnf)
      | (refine Num.mask (q := 32) 5 (by omega) (by omega) (by omega) rfl rfl ?_; conv => whnf)
      | (refine Num.mask (q := 16) 4 (by omega) (by omega) (by omega) rfl rfl ?_; conv => whnf)
      | (refine Num.mask (q := 8) 3 (by omega) (by omega) (by omega) rfl rfl ?_; conv => whnf)
      | (refine Num.id (by omega) (by omega) ?_; conv => whnf)
      | (refine Case.dec (fun _ => ?_) (fun _ => ?_) <;> conv => whnf)
      | (refine Case.beqI (fun _ => ?_) (fun _ => ?_) <;> conv => whnf)
      | (refine Case.mk (fun _ => ?_) (fun _ => ?_) <;> conv => whnf)
      | (refine Way.fst ?_; conv => whnf)
    · refine Fin.pt ?_ ?_ <;> rw [pointV, if_pos (by assumption)] <;> rfl
    · refine ⟨(2, 128, _), ⟨by (first | (rw [pointV, if_pos (by omega)]) | (rw [pointV, if_neg (by omega), if_pos (by omega)]) | (rw [pointV, if_neg (by omega), if_neg (by omega), if_pos (by omega)]) | (rw [pointV, if_neg (by omega), if_neg (by omega), if_neg (by omega), if_pos (by omega)]) | (rw [pointV, if_neg (by omega), if_neg (by omega), if_neg (by omega), if_neg (by omega)])), by dsimp only; omega, by dsimp only; omega, by dsimp only; omega, by dsimp only; omega⟩, ?_⟩
      repeat' first | exact trivial | exact rfl | exact (by decide : (0 : Nat) < 1) | exact Nat.le_refl _ | exact Nat.zero_lt_succ _ | exact congrArg int (by (try dsimp only); omega) | exact congrArg bool (by (try dsimp only); simp; omega) | (show _ < List.length _; simp; done) | apply And.intro
    · refine ⟨(3, 2048, _), ⟨by (first | (rw [pointV, if_pos (by omega)]) | (rw [pointV, if_neg (by omega), if_pos (by omega)]) | (rw [pointV, if_neg (by omega), if_neg (by omega), if_pos (by omega)]) | (rw [pointV, if_neg (by omega), if_neg (by omega), if_neg (by omega), if_pos (by omega)]) | (rw [pointV, if_neg (by omega), if_neg (by omega), if_neg (by omega), if_neg (by omega)])), by dsimp only; omega, by dsimp only; omega, by dsimp only; omega, by dsimp only; omega⟩, ?_⟩
      repeat' first | exact trivial | exact rfl | exact (by decide : (0 : Nat) < 1) | exact Nat.le_refl _ | exact Nat.zero_lt_succ _ | exact congrArg int (by (try dsimp only); omega) | exact congrArg bool (by (try dsimp only); simp; omega) | (show _ < List.length _; simp; done) | apply And.intro
    · refine ⟨(4, 65536, _), ⟨by (first | (rw [pointV, if_pos (by omega)]) | (rw [pointV, if_neg (by omega), if_pos (by omega)]) | (rw [pointV, if_neg (by omega), if_neg (by omega), if_pos (by omega)]) | (rw [pointV, if_neg (by omega), if_neg (by omega), if_neg (by omega), if_pos (by omega)]) | (rw [pointV, if_neg (by omega), if_neg (by omega), if_neg (by omega), if_neg (by omega)])), by dsimp only; omega, by dsimp only; omega, by dsimp only; omega, by dsimp only; omega⟩, ?_⟩
      repeat' first | exact trivial | exact rfl | exact (by decide : (0 : Nat) < 1) | exact Nat.le_refl _ | exact Nat.zero_lt_succ _ | exact congrArg int (by (try dsimp only); omega) | exact congrArg bool (by (try dsimp only); simp; omega) | (show _ < List.length _; simp; done) | apply And.intro
    · refine Fin.pt ?_ ?_ <;> (first | (rw [pointV, if_pos (by omega)]) | (rw [pointV, if_neg (by omega), if_pos (by omega)]) | (rw [pointV, if_neg (by omega), if_neg (by omega), if_pos (by omega)]) | (rw [pointV, if_neg (by omega), if_neg (by omega), if_neg (by omega), if_pos (by omega)]) | (rw [pointV, if_neg (by omega), if_neg (by omega), if_neg (by omega), if_neg (by omega)])) <;> rfl
    · refine Fin.pt ?_ ?_ <;> (first | (rw [pointV, if_pos (by omega)]) | (rw [pointV, if_neg (by omega), if_pos (by omega)]) | (rw [pointV, if_neg (by omega), if_neg (by omega), if_pos (by omega)]) | (rw [pointV, if_neg (by omega), if_neg (by omega), if_neg (by omega), if_pos (by omega)]) | (rw [pointV, if_neg (by omega), if_neg (by omega), if_neg (by omega), if_neg (by omega)])) <;> rfl
  · rintro ⟨n, least, c⟩ ⟨e0, g1, g2, g3, g4⟩
    simp only at e0 g1 g2 g3 g4
    dsimp only
    rw [e0]
    conv => whnf
    refine step_of tab_ok ?_
    conv => whnf
    repeat' first
      | (refine Case.not ?_; conv => whnf)
      | (refine Case.yes ?_; conv => whnf)
      | (refine Case.no ?_; conv => whnf)
      | (refine Case.isTrue (by assumption) ?_; conv => whnf)
      | (refine Case.isFalse (by assumption) ?_; conv => whnf)
      | (refine Case.decT (by assumption) ?_; conv => whnf)
      | (refine Case.decF (by assumption) ?_; conv => whnf)
      | (refine Case.decT (by omega) ?_; conv => whnf)
      | (refine Case.decF (by omega) ?_; conv => whnf)
      | (refine Case.beqT (by omega) ?_; conv => whnf)
      | (refine Case.beqF (by omega) ?_; conv => whnf)
      | (refine Num.id (by omega) (by omega) ?_; conv => whnf)
      | (refine Case.dec (fun _ => ?_) (fun _ => ?_) <;> conv => whnf)
      | (refine Case.beqI (fun _ => ?_) (fun _ => ?_) <;> conv => whnf)
      | (refine Case.mk (fun _ => ?_) (fun _ => ?_) <;> conv => whnf)
      | (refine Way.fst ?_; conv => whnf)
    · have hp : pointK bs n least c = (65533, 1) := by unfold pointK; rw [if_pos (by omega)]
      rw [hp]
      exact Fin.pt rfl rfl
    · refine step_loop tab_ok (fun s : Nat × Int => padK [.f (.sl (bs.map byteRow)), .junk, .junk, .junk, int (bAt bs 0), int n, int least, int s.2, int s.1] 80) (fun _ => []) 0 (ContI bs n c) (fun s => n - s.1) (1, c) ⟨by simp, by dsimp only; omega, g3, by dsimp only; omega, rfl⟩ (fun _ => rfl) ?_ ?_
      ·
        repeat' first | exact trivial | exact rfl | exact (by decide : (0 : Nat) < 1) | exact Nat.le_refl _ | exact Nat.zero_lt_succ _ | exact congrArg int (by (try dsimp only); omega) | exact congrArg bool (by (try dsimp only); simp; omega) | (show _ < List.length _; simp; done) | apply And.intro
      · rintro ⟨i, d⟩ ⟨k0, k1, k2, k3, k4⟩
        simp only at k0 k1 k2 k3 k4
        have hp : (64 : Int) ^ i ≤ 16777216 := by
          have : i = 1 ∨ i = 2 ∨ i = 3 ∨ i = 4 := by omega
          rcases this with rfl | rfl | rfl | rfl <;> decide
        have hy := bAt_le bs i
        have hps : (64 : Int) ^ (i + 1) = 64 ^ i * 64 := Int.pow_succ ..
        have hu : pointK bs n least c = match contRun bs (n - i) i d with
            | none => (65533, 1)
            | some c => if c < least ∨ right c = false then (65533, 1) else (c, n) := by
          unfold pointK; rw [if_neg (by omega), k4]
        conv => whnf
        repeat' first
          | (refine Case.not ?_; conv => whnf)
          | (refine Case.yes ?_; conv => whnf)
          | (refine Case.no ?_; conv => whnf)
          | (refine Case.isTrue (by assumption) ?_; conv => whnf)
          | (refine Case.isFalse (by assumption) ?_; conv => whnf)
          | (refine Case.decT (by assumption) ?_; conv => whnf)
          | (refine Case.decF (by assumption) ?_; conv => whnf)
          | (refine Case.decT (by omega) ?_; conv => whnf)
          | (refine Case.decF (by omega) ?_; conv => whnf)
          | (refine Case.beqT (by omega) ?_; conv => whnf)
          | (refine Case.beqF (by omega) ?_; conv => whnf)
          | (refine Elem.mk i _ (by omega) (rowAt (by omega)) ?_; conv => whnf)
          | (refine Owes.mk byteRow_len ?_; conv => whnf)
          | (refine Num.mask (q := 64) 6 (by omega) (by omega) (by omega) rfl rfl ?_; conv => whnf)
          | (refine (right_spec _).call ⟨rfl, rfl⟩ ?_; conv => whnf)
          | (refine Num.id (by omega) (by omega) ?_; conv => whnf)
          | (refine Case.dec (fun _ => ?_) (fun _ => ?_) <;> conv => whnf)
          | (refine Case.beqI (fun _ => ?_) (fun _ => ?_) <;> conv => whnf)
          | (refine Case.mk (fun _ => ?_) (fun _ => ?_) <;> conv => whnf)
          | (refine Way.fst ?_; conv => whnf)
        · refine Fin.pt ?_ ?_ <;> rw [hu, show n - i = (n - i - 1) + 1 by dsimp only at *; omega, contRun, if_pos (by omega)] <;> rfl
        · refine Fin.pt ?_ ?_ <;> rw [hu, show n - i = (n - i - 1) + 1 by dsimp only at *; omega, contRun, if_pos (by omega)] <;> rfl
        · dsimp only at *
          refine ⟨(i + 1, d * 64 + bAt bs i % 64), ⟨by dsimp only; omega, by dsimp only; omega, by dsimp only; omega, by dsimp only; omega, ?_⟩, by dsimp only; omega, ?_⟩
          · dsimp only
            rw [← k4, show n - i = (n - (i + 1)) + 1 by omega, contRun, if_neg (by omega)]
          ·
            repeat' first | exact trivial | exact rfl | exact (by decide : (0 : Nat) < 1) | exact Nat.le_refl _ | exact Nat.zero_lt_succ _ | exact congrArg int (by (try dsimp only); omega) | exact congrArg bool (by (try dsimp only); simp; omega) | (show _ < List.length _; simp; done) | apply And.intro
        all_goals dsimp only at *
        all_goals rw [show n - i = 0 by omega, contRun] at hu
        all_goals dsimp only at hu
        · refine Fin.pt ?_ ?_ <;> rw [hu, if_pos (by omega)] <;> rfl
        · refine Fin.pt ?_ ?_ <;> rw [hu, if_neg (by simp_all)] <;> rfl
        · refine Fin.pt ?_ ?_ <;> rw [hu, if_pos (by simp_all)] <;> rfl
end Go.Proofs.Ytdfiegleaknleaa.Aw

namespace Go.Proofs.Ytdfiegleaknleaa.Aw
open Go Go.RowKit Go.Lib
set_option linter.unusedVariables false
set_option linter.unusedSimpArgs false
set_option maxRecDepth 100000
abbrev intsD (l : List Int) : D := .own 0 3 1 (ptsF l)
theorem Fin.ints {l : List Int} {H : Hp} {n : Nat} {R : D → Hp → Prop} (hR : R (.f (.sl (ptsF l))) []) : Fin (intsD l) H n 0 0 R := by
  refine Fin.frz 0 (Fin.mk (.f (.sl (ptsF l))) [] hR rfl ⟨?_, by unfold intoH; cases frzH 0 H <;> trivial⟩)
  unfold intoL intoL intoD
  exact ⟨rfl, rfl⟩
theorem ptsF_row {l : List Int} : ∀ e ∈ ptsF l, e.length = 1 := by simp [ptsF]
def ptsRun (bs : List UInt8) : Nat → Nat → List Int → List Int
  | 0, _, out => out
  | f + 1, i, out => if i < bs.length then ptsRun bs f (i + (pointV (bs.drop i)).2) (out ++ [(pointV (bs.drop i)).1]) else out
def points (bs : List UInt8) : List Int := ptsRun bs (bs.length + 1) 0 []
theorem pointV_drop {bs : List UInt8} {i : Nat} (h : i < bs.length) : 1 ≤ (pointV (bs.drop i)).2 ∧ i + (pointV (bs.drop i)).2 ≤ bs.length := by
  have := pointV_le (bs := bs.drop i) (by rw [List.length_drop]; omega)
  rw [List.length_drop] at this
  omega
theorem ptsRun_fuel (bs : List UInt8) : ∀ (f g i : Nat) (out : List Int), bs.length - i < f → bs.length - i < g → ptsRun bs f i out = ptsRun bs g i out
  | 0, _, _, _, h, _ => by omega
  | f + 1, 0, _, _, _, h => by omega
  | f + 1, g + 1, i, out, h1, h2 => by
    unfold ptsRun
    split
    · rename_i h
      have := pointV_drop h
      exact ptsRun_fuel bs f g _ _ (by omega) (by omega)
    · rfl
theorem ptsRun_len (bs : List UInt8) : ∀ (f i : Nat) (out : List Int), out.length ≤ i → i ≤ bs.length → (ptsRun bs f i out).length ≤ bs.length
  | 0, i, out, h, h1 => by unfold ptsRun; omega
  | f + 1, i, out, h, h1 => by
    unfold ptsRun
    split
    · rename_i hi
      have := pointV_drop hi
      exact ptsRun_len bs f _ _ (by rw [List.length_append]; simp; omega) (by omega)
    · omega
theorem points_len (bs : List UInt8) : (points bs).length ≤ bs.length := ptsRun_len bs _ _ _ (by simp) (by simp)
structure PtsI (bs : List UInt8) (s : Nat × List Int) : Prop where
  i : s.1 ≤ bs.length
  o : s.2.length ≤ s.1
  run : ∀ f, bs.length - s.1 < f → ptsRun bs f s.1 s.2 = points bs
theorem points_spec (bs : List UInt8) (hl : bs.length < 1000000000) : Val 44 [.f (.sl (bs.map byteRow))] (.f (.sl (ptsF (points bs)))) := by
  have hlen : (bs.map byteRow).length = bs.length := by simp
  refine ⟨rfl, ⟨trivial, trivial⟩, rfl, spec_mk tab_ok Try.func44 (by rfl) rfl ?_⟩
  conv => whnf
  refine step_loop tab_ok (fun s : Nat × List Int => padK [.f (.sl (bs.map byteRow)), .junk, .junk, intsD s.2, int s.1] 26) (fun _ => []) 1 (PtsI bs) (fun s => bs.length - s.1) (0, []) ⟨by simp, by simp, fun f hf => ptsRun_fuel bs _ _ _ _ hf (by dsimp only at hf ⊢; omega)⟩ (fun _ => rfl) ?_ ?_
  ·
    repeat' first | exact trivial | exact rfl | exact (by decide : (0 : Nat) < 1) | exact Nat.le_refl _ | exact Nat.zero_lt_succ _ | exact congrArg int (by (try dsimp only); omega) | exact congrArg bool (by (try dsimp only); simp; omega) | (show _ < List.length _; simp; done) | apply And.intro
  · rintro ⟨i, out⟩ ⟨h1, h2, h3⟩
    simp only at h1 h2 h3
    have e0 := h3 (bs.length - i + 1) (by omega)
    rw [ptsRun] at e0
    dsimp only
    conv => whnf
    refine Case.dec (fun h0 => ?_) (fun h0 => ?_)
    · have hi : i < bs.length := by omega
      have hd := pointV_drop hi
      have hdl : (bs.drop i).length = bs.length - i := List.length_drop ..
      rw [if_pos hi] at e0
      conv => whnf
      repeat' first
        | (refine Case.not ?_; conv => whnf)
        | (refine Case.yes ?_; conv => whnf)
        | (refine Case.no ?_; conv => whnf)
        | (refine Case.isTrue (by assumption) ?_; conv => whnf)
        | (refine Case.isFalse (by assumption) ?_; conv => whnf)
        | (refine Case.decT (by assumption) ?_; conv => whnf)
        | (refine Case.decF (by assumption) ?_; conv => whnf)
        | (refine Case.decT (by omega) ?_; conv => whnf)
        | (refine Case.decF (by omega) ?_; conv => whnf)
        | (refine Case.beqT (by omega) ?_; conv => whnf)
        | (refine Case.beqF (by omega) ?_; conv => whnf)
        | (refine Owes.mk byteRow_len ?_; conv => whnf)
        | (refine Part.tail i rfl (by omega) (by omega) ?_; conv => whnf)
        | (refine (point_spec (bs.drop i) (by omega) (by omega)).call ⟨rfl, rfl⟩ ?_; conv => whnf)
        | (refine Owes.mk (by simp [ptsF]; omega) ?_; conv => whnf)
        | (refine Num.id (by omega) (by omega) ?_; conv => whnf)
        | (refine Case.dec (fun _ => ?_) (fun _ => ?_) <;> conv => whnf)
        | (refine Case.beqI (fun _ => ?_) (fun _ => ?_) <;> conv => whnf)
        | (refine Case.mk (fun _ => ?_) (fun _ => ?_) <;> conv => whnf)
        | (refine Way.fst ?_; conv => whnf)
      refine ⟨(i + (pointV (bs.drop i)).2, out ++ [(pointV (bs.drop i)).1]), ⟨by dsimp only; omega, by dsimp only; rw [List.length_append]; simp; omega, fun f hf => ?_⟩, by dsimp only; omega, ?_⟩
      · dsimp only at hf ⊢
        rw [← e0]
        exact ptsRun_fuel bs _ _ _ _ hf (by omega)
      ·
        repeat' first | exact trivial | exact rfl | exact (by decide : (0 : Nat) < 1) | exact Nat.le_refl _ | exact Nat.zero_lt_succ _ | exact congrArg int (by (try dsimp only); omega) | exact congrArg bool (by (try dsimp only); simp; omega) | (show _ < List.length _; simp; done) | apply And.intro | exact congrArg (D.own _ _ _) (by simp [ptsF]; done) | exact congrArg int (by unfold ptsF; (repeat' split) <;> omega)
    · rw [if_neg (by omega)] at e0
      subst e0
      conv => whnf
      exact Fin.ints ⟨rfl, rfl⟩
def prep : List Int → List Int
  | [] => []
  | c :: r => if c = 13 ∧ r.head? = some 10 then prep r else if c = 13 ∨ c = 12 then 10 :: prep r else if c = 0 then 65533 :: prep r else c :: prep r
theorem prep_len : ∀ l : List Int, (prep l).length ≤ l.length
  | [] => Nat.le_refl _
  | c :: r => by
    have := prep_len r
    unfold prep
    repeat' split
    all_goals simp only [List.length_cons]; omega
def prepare (bs : List UInt8) : List Int := prep (points bs)
theorem prepare_len (bs : List UInt8) : (prepare bs).length ≤ bs.length := Nat.le_trans (prep_len _) (points_len bs)
structure PrepI (l : List Int) (s : Nat × List Int) : Prop where
  i : s.1 ≤ l.length
  o : s.2.length ≤ s.1
  run : s.2 ++ prep (l.drop s.1) = prep l
theorem drop_step {l : List Int} {i : Nat} {c : Int} (h : l[i]? = some c) : l.drop i = c :: l.drop (i + 1) := by
  obtain ⟨h1, h2⟩ := List.getElem?_eq_some_iff.1 h
  rw [List.drop_eq_getElem_cons h1, h2]
set_option maxHeartbeats 1000000 in
theorem prepare_spec (bs : List UInt8) (hl : bs.length < 1000000000) : Val 24 [.f (.sl (bs.map byteRow))] (.f (.sl (ptsF (prepare bs)))) := by
  have hlen : (bs.map byteRow).length = bs.length := by simp
  refine ⟨rfl, ⟨trivial, trivial⟩, rfl, spec_mk tab_ok Try.func24 (by rfl) rfl ?_⟩
  conv => whnf
  refine (points_spec bs hl).call ?_
  have hle := points_len bs
  unfold prepare
  generalize points bs = l at hle
  have hpl := ptsF_length l
  conv => whnf
  refine step_loop tab_ok (fun s : Nat × List Int => padK [.f (.sl (bs.map byteRow)), .junk, .junk, .f (.sl (ptsF l)), intsD s.2, int s.1] 68) (fun _ => []) 1 (PrepI l) (fun s => l.length - s.1) (0, []) ⟨by simp, by simp, by simp⟩ (fun _ => rfl) ?_ ?_
  ·
    repeat' first | exact trivial | exact rfl | exact (by decide : (0 : Nat) < 1) | exact Nat.le_refl _ | exact Nat.zero_lt_succ _ | exact congrArg int (by (try dsimp only); omega) | exact congrArg bool (by (try dsimp only); simp; omega) | (show _ < List.length _; simp; done) | apply And.intro
  · rintro ⟨i, out⟩ ⟨h1, h2, h3⟩
    simp only at h1 h2 h3
    dsimp only
    conv => whnf
    refine Case.dec (fun h0 => ?_) (fun h0 => ?_)
    · have hi : i < l.length := by omega
      obtain ⟨c, hc⟩ : ∃ c, l[i]? = some c := ⟨_, List.getElem?_eq_getElem hi⟩
      rw [drop_step hc, prep] at h3
      have hd : (l.drop (i + 1)).head? = l[i + 1]? := by simp
      rw [hd] at h3
      rcases hc1 : l[i + 1]? with _ | c1
      · have hi1 : l.length ≤ i + 1 := by simpa using hc1
        conv => whnf
        repeat' first
          | (refine Case.not ?_; conv => whnf)
          | (refine Case.yes ?_; conv => whnf)
          | (refine Case.no ?_; conv => whnf)
          | (refine Case.isTrue (by assumption) ?_; conv => whnf)
          | (refine Case.isFalse (by assumption) ?_; conv => whnf)
          | (refine Case.decT (by assumption) ?_; conv => whnf)
          | (refine Case.decF (by assumption) ?_; conv => whnf)
          | (refine Case.decT (by omega) ?_; conv => whnf)
          | (refine Case.decF (by omega) ?_; conv => whnf)
          | (refine Case.beqT (by omega) ?_; conv => whnf)
          | (refine Case.beqF (by omega) ?_; conv => whnf)
          | (refine Owes.mk ptsF_row ?_; conv => whnf)
          | (refine Elem.mk i _ rfl (ptsF_get hc) ?_; conv => whnf)
          | (refine Owes.mk (by simp [ptsF]; omega) ?_; conv => whnf)
          | (refine Num.id (by omega) (by omega) ?_; conv => whnf)
          | (refine Case.dec (fun _ => ?_) (fun _ => ?_) <;> conv => whnf)
          | (refine Case.beqI (fun _ => ?_) (fun _ => ?_) <;> conv => whnf)
          | (refine Case.mk (fun _ => ?_) (fun _ => ?_) <;> conv => whnf)
          | (refine Way.fst ?_; conv => whnf)
        all_goals rw [hc1] at h3
        · rw [if_neg (by simp), if_pos (by omega)] at h3
          refine ⟨(i + 1, out ++ [10]), ⟨by dsimp only; omega, by dsimp only; rw [List.length_append]; simp; omega, by simpa using h3⟩, by dsimp only; omega, ?_⟩
          repeat' first | exact trivial | exact rfl | exact (by decide : (0 : Nat) < 1) | exact Nat.le_refl _ | exact Nat.zero_lt_succ _ | exact congrArg int (by (try dsimp only); omega) | exact congrArg bool (by (try dsimp only); simp; omega) | (show _ < List.length _; simp; done) | apply And.intro | exact congrArg (D.own _ _ _) (by simp [ptsF]; done) | exact congrArg int (by unfold ptsF; (repeat' split) <;> omega)
        · rw [if_neg (by simp), if_pos (by omega)] at h3
          refine ⟨(i + 1, out ++ [10]), ⟨by dsimp only; omega, by dsimp only; rw [List.length_append]; simp; omega, by simpa using h3⟩, by dsimp only; omega, ?_⟩
          repeat' first | exact trivial | exact rfl | exact (by decide : (0 : Nat) < 1) | exact Nat.le_refl _ | exact Nat.zero_lt_succ _ | exact congrArg int (by (try dsimp only); omega) | exact congrArg bool (by (try dsimp only); simp; omega) | (show _ < List.length _; simp; done) | apply And.intro | exact congrArg (D.own _ _ _) (by simp [ptsF]; done) | exact congrArg int (by unfold ptsF; (repeat' split) <;> omega)
        · rw [if_neg (by simp), if_neg (by omega), if_pos (by omega)] at h3
          refine ⟨(i + 1, out ++ [65533]), ⟨by dsimp only; omega, by dsimp only; rw [List.length_append]; simp; omega, by simpa using h3⟩, by dsimp only; omega, ?_⟩
          repeat' first | exact trivial | exact rfl | exact (by decide : (0 : Nat) < 1) | exact Nat.le_refl _ | exact Nat.zero_lt_succ _ | exact congrArg int (by (try dsimp only); omega) | exact congrArg bool (by (try dsimp only); simp; omega) | (show _ < List.length _; simp; done) | apply And.intro | exact congrArg (D.own _ _ _) (by simp [ptsF]; done) | exact congrArg int (by unfold ptsF; (repeat' split) <;> omega)
        · rw [if_neg (by simp), if_neg (by omega), if_neg (by omega)] at h3
          refine ⟨(i + 1, out ++ [c]), ⟨by dsimp only; omega, by dsimp only; rw [List.length_append]; simp; omega, by simpa using h3⟩, by dsimp only; omega, ?_⟩
          repeat' first | exact trivial | exact rfl | exact (by decide : (0 : Nat) < 1) | exact Nat.le_refl _ | exact Nat.zero_lt_succ _ | exact congrArg int (by (try dsimp only); omega) | exact congrArg bool (by (try dsimp only); simp; omega) | (show _ < List.length _; simp; done) | apply And.intro | exact congrArg (D.own _ _ _) (by simp [ptsF]; done) | exact congrArg int (by unfold ptsF; (repeat' split) <;> omega)
      · have hi1 : i + 1 < l.length := (List.getElem?_eq_some_iff.1 hc1).1
        conv => whnf
        repeat' first
          | (refine Case.not ?_; conv => whnf)
          | (refine Case.yes ?_; conv => whnf)
          | (refine Case.no ?_; conv => whnf)
          | (refine Case.isTrue (by assumption) ?_; conv => whnf)
          | (refine Case.isFalse (by assumption) ?_; conv => whnf)
          | (refine Case.decT (by assumption) ?_; conv => whnf)
          | (refine Case.decF (by assumption) ?_; conv => whnf)
          | (refine Case.decT (by omega) ?_; conv => whnf)
          | (refine Case.decF (by omega) ?_; conv => whnf)
          | (refine Case.beqT (by omega) ?_; conv => whnf)
          | (refine Case.beqF (by omega) ?_; conv => whnf)
          | (refine Owes.mk ptsF_row ?_; conv => whnf)
          | (refine Elem.mk i _ rfl (ptsF_get hc) ?_; conv => whnf)
          | (refine Elem.mk (i + 1) _ (by omega) (ptsF_get hc1) ?_; conv => whnf)
          | (refine Owes.mk (by simp [ptsF]; omega) ?_; conv => whnf)
          | (refine Num.id (by omega) (by omega) ?_; conv => whnf)
          | (refine Case.dec (fun _ => ?_) (fun _ => ?_) <;> conv => whnf)
          | (refine Case.beqI (fun _ => ?_) (fun _ => ?_) <;> conv => whnf)
          | (refine Case.mk (fun _ => ?_) (fun _ => ?_) <;> conv => whnf)
          | (refine Way.fst ?_; conv => whnf)
        all_goals rw [hc1] at h3
        · rw [if_pos ⟨by assumption, by simp; omega⟩] at h3
          refine ⟨(i + 1, out), ⟨by dsimp only; omega, by dsimp only; omega, h3⟩, by dsimp only; omega, ?_⟩
          repeat' first | exact trivial | exact rfl | exact (by decide : (0 : Nat) < 1) | exact Nat.le_refl _ | exact Nat.zero_lt_succ _ | exact congrArg int (by (try dsimp only); omega) | exact congrArg bool (by (try dsimp only); simp; omega) | (show _ < List.length _; simp; done) | apply And.intro | exact congrArg (D.own _ _ _) (by simp [ptsF]; done) | exact congrArg int (by unfold ptsF; (repeat' split) <;> omega)
        · rw [if_neg (by simp; omega), if_pos (by omega)] at h3
          refine ⟨(i + 1, out ++ [10]), ⟨by dsimp only; omega, by dsimp only; rw [List.length_append]; simp; omega, by simpa using h3⟩, by dsimp only; omega, ?_⟩
          repeat' first | exact trivial | exact rfl | exact (by decide : (0 : Nat) < 1) | exact Nat.le_refl _ | exact Nat.zero_lt_succ _ | exact congrArg int (by (try dsimp only); omega) | exact congrArg bool (by (try dsimp only); simp; omega) | (show _ < List.length _; simp; done) | apply And.intro | exact congrArg (D.own _ _ _) (by simp [ptsF]; done) | exact congrArg int (by unfold ptsF; (repeat' split) <;> omega)
        · rw [if_neg (by simp; omega), if_pos (by omega)] at h3
          refine ⟨(i + 1, out ++ [10]), ⟨by dsimp only; omega, by dsimp only; rw [List.length_append]; simp; omega, by simpa using h3⟩, by dsimp only; omega, ?_⟩
          repeat' first | exact trivial | exact rfl | exact (by decide : (0 : Nat) < 1) | exact Nat.le_refl _ | exact Nat.zero_lt_succ _ | exact congrArg int (by (try dsimp only); omega) | exact congrArg bool (by (try dsimp only); simp; omega) | (show _ < List.length _; simp; done) | apply And.intro | exact congrArg (D.own _ _ _) (by simp [ptsF]; done) | exact congrArg int (by unfold ptsF; (repeat' split) <;> omega)
        · rw [if_neg (by simp; omega), if_neg (by omega), if_pos (by omega)] at h3
          refine ⟨(i + 1, out ++ [65533]), ⟨by dsimp only; omega, by dsimp only; rw [List.length_append]; simp; omega, by simpa using h3⟩, by dsimp only; omega, ?_⟩
          repeat' first | exact trivial | exact rfl | exact (by decide : (0 : Nat) < 1) | exact Nat.le_refl _ | exact Nat.zero_lt_succ _ | exact congrArg int (by (try dsimp only); omega) | exact congrArg bool (by (try dsimp only); simp; omega) | (show _ < List.length _; simp; done) | apply And.intro | exact congrArg (D.own _ _ _) (by simp [ptsF]; done) | exact congrArg int (by unfold ptsF; (repeat' split) <;> omega)
        · rw [if_neg (by simp; omega), if_neg (by omega), if_neg (by omega)] at h3
          refine ⟨(i + 1, out ++ [c]), ⟨by dsimp only; omega, by dsimp only; rw [List.length_append]; simp; omega, by simpa using h3⟩, by dsimp only; omega, ?_⟩
          repeat' first | exact trivial | exact rfl | exact (by decide : (0 : Nat) < 1) | exact Nat.le_refl _ | exact Nat.zero_lt_succ _ | exact congrArg int (by (try dsimp only); omega) | exact congrArg bool (by (try dsimp only); simp; omega) | (show _ < List.length _; simp; done) | apply And.intro | exact congrArg (D.own _ _ _) (by simp [ptsF]; done) | exact congrArg int (by unfold ptsF; (repeat' split) <;> omega)
    · have : l.drop i = [] := by rw [List.drop_eq_nil_iff]; omega
      rw [this, prep, List.append_nil] at h3
      subst h3
      conv => whnf
      exact Fin.ints ⟨rfl, rfl⟩
end Go.Proofs.Ytdfiegleaknleaa.Aw

