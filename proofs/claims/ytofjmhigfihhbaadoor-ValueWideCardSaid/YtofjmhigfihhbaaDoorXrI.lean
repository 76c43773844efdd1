/- How far the reference's reader goes; its tokens. -/
import Derived.Test.YtofjmhigfihhbaaDoorXrH
namespace Go.Proofs.YtofjmhigfihhbaaDoor.Aw
open Go Go.RowKit Go.Lib
set_option linter.unusedVariables false
set_option linter.unusedSimpArgs false
theorem nameRun_le (l : List Int) : ∀ (f p : Nat) (bs : List UInt8), p ≤ l.length → p ≤ (nameRun l f p bs).2 ∧ (nameRun l f p bs).2 ≤ l.length
  | 0, p, bs, h => ⟨Nat.le_refl _, h⟩
  | f + 1, p, bs, h => by
    unfold nameRun
    split
    · rename_i h1
      have h2 := namePoint_lt h1
      have := nameRun_le l f (p + 1) (bs ++ putB (see l p)) h2
      omega
    · split
      · rename_i h1
        have h2 := escapedP_le h1
        have := nameRun_le l f (escapedP l p) (bs ++ putB (escapedV l p)) h2.2
        omega
      · exact ⟨Nat.le_refl _, h⟩
theorem nameP_le {l : List Int} {p : Nat} (h : p ≤ l.length) : p ≤ nameP l p ∧ nameP l p ≤ l.length := nameRun_le l _ _ _ h
theorem nameP_gt {l : List Int} {p : Nat} (h : begins l p = true) : p < nameP l p ∧ nameP l p ≤ l.length := by
  have h1 : namePoint (see l p) = true ∨ escape l p = true := by
    unfold begins at h
    split at h
    · left; rename_i h2; simp [namePoint, h2]
    · simp only [Bool.or_eq_true] at h
      rcases h with h | h
      · left; simp [namePoint, h]
      · exact .inr h
  unfold nameP
  rw [nameRun]
  rcases h1 with h1 | h1
  · rw [if_pos h1]
    have h2 := namePoint_lt h1
    have := nameRun_le l l.length (p + 1) ([] ++ putB (see l p)) h2
    omega
  · have h2 := escapedP_le h1
    split
    · rename_i h3
      have h4 := namePoint_lt h3
      have := nameRun_le l l.length (p + 1) ([] ++ putB (see l p)) h4
      omega
    · have := nameRun_le l l.length (escapedP l p) ([] ++ putB (escapedV l p)) h2.2
      omega
theorem digRun_le (l : List Int) : ∀ (f p : Nat) (bs : List UInt8), p ≤ l.length → p ≤ (digRun l f p bs).2 ∧ (digRun l f p bs).2 ≤ l.length
  | 0, p, bs, h => ⟨Nat.le_refl _, h⟩
  | f + 1, p, bs, h => by
    unfold digRun
    split
    · rename_i h1
      have h2 := digit_lt h1
      have := digRun_le l f (p + 1) (bs ++ putB (see l p)) h2
      omega
    · exact ⟨Nat.le_refl _, h⟩
theorem digRun_gt {l : List Int} {f p : Nat} {bs : List UInt8} (h : digit (see l p) = true) : p < (digRun l (f + 1) p bs).2 := by
  rw [digRun, if_pos h]
  have := digRun_le l f (p + 1) (bs ++ putB (see l p)) (digit_lt h)
  omega
theorem numB_gt {l : List Int} {p : Nat} (h : number l p = true) : p < (numB l p).2.1 ∧ (numB l p).2.1 ≤ l.length := by
  have hp : p < l.length := by
    refine see_lt ?_
    unfold number at h
    split at h
    · omega
    · simp only [Bool.or_eq_true, Bool.and_eq_true, digit, decide_eq_true_eq] at h
      omega
  have h1 : p ≤ (numSgn l p).2 ∧ (numSgn l p).2 ≤ l.length ∧ (p < (numSgn l p).2 ∨ (numSgn l p).2 = p ∧ ¬ (see l p = 43 ∨ see l p = 45)) := by
    unfold numSgn
    split
    · exact ⟨by dsimp only; omega, by dsimp only; omega, .inl (by dsimp only; omega)⟩
    · exact ⟨by dsimp only; omega, by dsimp only; omega, .inr ⟨rfl, by assumption⟩⟩
  have h2 := digRun_le l (l.length + 1) (numSgn l p).2 (numSgn l p).1 h1.2.1
  have h3 : (numInt l p).2 = (digRun l (l.length + 1) (numSgn l p).2 (numSgn l p).1).2 := rfl
  unfold numB
  split
  · rename_i h4
    have h5 := digit_lt h4.2
    have := digRun_le l (l.length + 1) ((numInt l p).2 + 1) ((numInt l p).1 ++ [46]) (by omega)
    dsimp only
    omega
  · rename_i h4
    dsimp only
    refine ⟨?_, by omega⟩
    rcases h1.2.2 with h5 | ⟨h5, h6⟩
    · omega
    · have h7 : digit (see l p) = true ∨ (see l p = 46 ∧ digit (see l (p + 1)) = true) := by
        unfold number at h
        rw [if_neg h6] at h
        simpa using h
      rcases h7 with h7 | h7
      · have := digRun_gt (l := l) (f := l.length) (p := p) (bs := (numSgn l p).1) h7
        rw [h5] at h3
        omega
      · exfalso
        have h8 : digit (see l p) = false := by rw [h7.1]; decide
        have h9 : numInt l p = ((numSgn l p).1, p) := by
          unfold numInt
          rw [h5, digRun, if_neg (by simp [h8])]
        rw [h9] at h4
        exact h4 h7
theorem numericP_gt {l : List Int} {p : Nat} (h : number l p = true) : p < numericP l p ∧ numericP l p ≤ l.length := by
  have h1 := numB_gt h
  unfold numericP
  generalize numB l p = x at h1
  obtain ⟨bs, q, w⟩ := x
  dsimp only at h1 ⊢
  split
  · have := nameP_le h1.2; omega
  · split
    · have := see_lt (l := l) (i := q) (by omega); omega
    · omega
theorem strRun_le (l : List Int) (e : Int) : ∀ (f p : Nat) (bs : List UInt8), p ≤ l.length → p ≤ (strRun l e f p bs).2 ∧ (strRun l e f p bs).2 ≤ l.length
  | 0, p, bs, h => ⟨Nat.le_refl _, h⟩
  | f + 1, p, bs, h => by
    unfold strRun
    split
    · exact ⟨Nat.le_refl _, h⟩
    · have hp := see_lt (l := l) (i := p) (by omega)
      split
      · exact ⟨Nat.le_succ _, hp⟩
      · split
        · exact ⟨Nat.le_refl _, h⟩
        · split
          · split
            · have := strRun_le l e f (p + 1) bs hp; omega
            · have hp1 := see_lt (l := l) (i := p + 1) (by omega)
              split
              · have := strRun_le l e f (p + 2) bs (by omega); omega
              · rename_i h92 hn h10
                have h2 := escapedP_le (escape_of h92 hn h10)
                have := strRun_le l e f (escapedP l p) (bs ++ putB (escapedV l p)) h2.2
                omega
          · have := strRun_le l e f (p + 1) (bs ++ putB (see l p)) hp; omega
theorem strP_gt {l : List Int} {p : Nat} (h : p < l.length) : p < strP l p ∧ strP l p ≤ l.length := by
  have := strRun_le l (see l p) (l.length + 1) (p + 1) [] h
  unfold strP
  omega
def commentEnd (l : List Int) : Nat → Nat → Nat
  | 0, p => p
  | f + 1, p => if 0 ≤ see l p ∧ (see l p ≠ 42 ∨ see l (p + 1) ≠ 47) then commentEnd l f (p + 1) else p
theorem commentEnd_le (l : List Int) : ∀ (f p : Nat), p ≤ l.length → p ≤ commentEnd l f p ∧ commentEnd l f p ≤ l.length
  | 0, p, h => ⟨Nat.le_refl _, h⟩
  | f + 1, p, h => by
    unfold commentEnd
    split
    · rename_i h1
      have := commentEnd_le l f (p + 1) (see_lt h1.1)
      omega
    · exact ⟨Nat.le_refl _, h⟩
theorem commentEnd_fuel (l : List Int) : ∀ (f g p : Nat), l.length - p < f → l.length - p < g → commentEnd l f p = commentEnd l g p
  | 0, _, _, h, _ => by omega
  | f + 1, 0, _, _, h => by omega
  | f + 1, g + 1, p, h1, h2 => by
    unfold commentEnd
    split
    · rename_i h
      have := see_lt h.1
      exact commentEnd_fuel l f g _ (by omega) (by omega)
    · rfl
def whiteEnd (l : List Int) : Nat → Nat → Nat
  | 0, p => p
  | f + 1, p => if white (see l p) then whiteEnd l f (p + 1) else p
theorem whiteEnd_le (l : List Int) : ∀ (f p : Nat), p ≤ l.length → p ≤ whiteEnd l f p ∧ whiteEnd l f p ≤ l.length
  | 0, p, h => ⟨Nat.le_refl _, h⟩
  | f + 1, p, h => by
    unfold whiteEnd
    split
    · rename_i h1
      have := whiteEnd_le l f (p + 1) (white_see h1)
      omega
    · exact ⟨Nat.le_refl _, h⟩
theorem whiteEnd_fuel (l : List Int) : ∀ (f g p : Nat), l.length - p < f → l.length - p < g → whiteEnd l f p = whiteEnd l g p
  | 0, _, _, h, _ => by omega
  | f + 1, 0, _, _, h => by omega
  | f + 1, g + 1, p, h1, h2 => by
    unfold whiteEnd
    split
    · rename_i h
      have := white_see h
      exact whiteEnd_fuel l f g _ (by omega) (by omega)
    · rfl
/-- The token that stands here (none: a comment), and where it ends. -/
def tokNext (l : List Int) (p : Nat) : List Tok × Nat :=
  if see l p = 47 ∧ see l (p + 1) = 42 then ([], commentEnd l (l.length + 1) (p + 2) + 2)
  else if white (see l p) then ([{ kind := 9 }], whiteEnd l (l.length + 1) p)
  else if see l p = 34 ∨ see l p = 39 then ([strT l p], strP l p)
  else if see l p = 35 ∧ (namePoint (see l (p + 1)) = true ∨ escape l (p + 1) = true) then ([{ kind := 3, text := nameS l (p + 1) }], nameP l (p + 1))
  else if number l p then ([numericT l p], numericP l p)
  else if see l p = 64 ∧ begins l (p + 1) = true then ([{ kind := 2, text := nameS l (p + 1) }], nameP l (p + 1))
  else if begins l p then (if see l (nameP l p) = 40 then ([{ kind := 20, text := nameS l p }], nameP l p + 1) else ([{ kind := 1, text := nameS l p }], nameP l p))
  else if 0 < sign (see l p) then ([{ kind := sign (see l p) }], p + 1)
  else ([{ kind := 10, c := see l p }], p + 1)
def tokRun (l : List Int) : Nat → Nat → List Tok → List Tok
  | 0, _, ts => ts
  | f + 1, p, ts => if 0 ≤ see l p then tokRun l f (tokNext l p).2 (ts ++ (tokNext l p).1) else ts
def tokens (l : List Int) : List Tok := tokRun l (l.length + 1) 0 []
theorem tokNext_gt {l : List Int} {p : Nat} (h : 0 ≤ see l p) : p < (tokNext l p).2 ∧ (tokNext l p).2 ≤ l.length + 2 ∧ (tokNext l p).1.length ≤ 1 := by
  have hp := see_lt h
  unfold tokNext
  split
  · have := see_lt (l := l) (i := p + 1) (by omega)
    have := commentEnd_le l (l.length + 1) (p + 2) (by omega)
    exact ⟨by dsimp only; omega, by dsimp only; omega, by simp⟩
  split
  · rename_i hw
    have := whiteEnd_le l l.length (p + 1) hp
    have e : whiteEnd l (l.length + 1) p = whiteEnd l l.length (p + 1) := by rw [whiteEnd, if_pos hw]
    exact ⟨by dsimp only; omega, by dsimp only; omega, by simp⟩
  split
  · have := strP_gt hp
    exact ⟨by dsimp only; omega, by dsimp only; omega, by simp⟩
  split
  · have := nameP_le (l := l) (p := p + 1) hp
    exact ⟨by dsimp only; omega, by dsimp only; omega, by simp⟩
  split
  · rename_i hn
    have := numericP_gt hn
    exact ⟨by dsimp only; omega, by dsimp only; omega, by simp⟩
  split
  · have := nameP_le (l := l) (p := p + 1) hp
    exact ⟨by dsimp only; omega, by dsimp only; omega, by simp⟩
  split
  · rename_i hb
    have := nameP_gt hb
    split
    · exact ⟨by dsimp only; omega, by dsimp only; omega, by simp⟩
    · exact ⟨by dsimp only; omega, by dsimp only; omega, by simp⟩
  split
  · exact ⟨by dsimp only; omega, by dsimp only; omega, by simp⟩
  · exact ⟨by dsimp only; omega, by dsimp only; omega, by simp⟩
theorem tokRun_fuel (l : List Int) : ∀ (f g p : Nat) (ts : List Tok), l.length - p < f → l.length - p < g → tokRun l f p ts = tokRun l g p ts
  | 0, _, _, _, h, _ => by omega
  | f + 1, 0, _, _, _, h => by omega
  | f + 1, g + 1, p, ts, h1, h2 => by
    unfold tokRun
    split
    · rename_i h
      have h3 := see_lt h
      have h4 := tokNext_gt h
      exact tokRun_fuel l f g _ _ (by omega) (by omega)
    · rfl
end Go.Proofs.YtofjmhigfihhbaaDoor.Aw
