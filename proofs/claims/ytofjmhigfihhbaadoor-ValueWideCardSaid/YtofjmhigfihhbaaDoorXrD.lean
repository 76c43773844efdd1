/- The reference's reader: escapes, names. -/
import Derived.Test.YtofjmhigfihhbaaDoorXrC
namespace Go.Proofs.YtofjmhigfihhbaaDoor.Aw
open Go Go.RowKit Go.Lib
set_option linter.unusedVariables false
set_option linter.unusedSimpArgs false
set_option maxRecDepth 100000
/-- An end of one of the reader's methods. -/
theorem Fin.rd {d : D} {l : List Int} {p : Int} {more : Hp} {n : Nat} {R : D → Hp → Prop} (a : Nat) (hs : scalD d) (hp : p = a) (hR : R d [some (rdr l a)]) : Fin d (some [.f (.sl (ptsF l)), int p] :: more) n 1 0 R := by
  subst hp
  exact Fin.mk d [some (rdr l a)] hR rfl ⟨by unfold intoL; exact ⟨into_scal _ _ _ d hs, by unfold intoL; rfl⟩, ⟨rfl, rfl, rfl⟩, by unfold intoH; cases more <;> trivial⟩
theorem hex_le (c : Int) : -1 ≤ hex c ∧ hex c ≤ 15 := by
  unfold hex
  repeat' split
  all_goals omega
theorem see_lt {l : List Int} {i : Nat} (h : 0 ≤ see l i) : i < l.length := by
  unfold see at h
  rcases Nat.lt_or_ge i l.length with h1 | h1
  · exact h1
  · rw [List.getElem?_eq_none h1] at h; simp at h
theorem hex_see {l : List Int} {i : Nat} (h : 0 ≤ hex (see l i)) : i < l.length := see_lt (by unfold hex at h; (repeat' split at h) <;> omega)
theorem white_see {l : List Int} {i : Nat} (h : white (see l i) = true) : i < l.length := see_lt (by simp only [white, Bool.or_eq_true, decide_eq_true_eq] at h; omega)
def hexRun (l : List Int) : Nat → Nat → Int → Nat × Int
  | 0, p, n => (p, n)
  | k + 1, p, n => if 0 ≤ hex (see l p) then hexRun l k (p + 1) (n * 16 + hex (see l p)) else (p, n)
def escapedV (l : List Int) (a : Nat) : Int := if hex (see l (a + 1)) < 0 then see l (a + 1) else
  let n := (hexRun l 6 (a + 1) 0).2
  if n = 0 ∨ right n = false then 65533 else n
def escapedP (l : List Int) (a : Nat) : Nat := if hex (see l (a + 1)) < 0 then a + 2 else
  let p := (hexRun l 6 (a + 1) 0).1
  if white (see l p) then p + 1 else p
theorem p16 : ∀ j : Nat, j ≤ 6 → (16 : Int) ^ j ≤ 16777216 := by
  intro j hj
  have : j = 0 ∨ j = 1 ∨ j = 2 ∨ j = 3 ∨ j = 4 ∨ j = 5 ∨ j = 6 := by omega
  rcases this with rfl | rfl | rfl | rfl | rfl | rfl | rfl <;> decide
structure EscI (l : List Int) (a : Nat) (s : Nat × Nat × Int) : Prop where
  j : s.1 ≤ 6
  p : s.2.1 ≤ a + 1 + s.1
  n0 : 0 ≤ s.2.2
  n1 : s.2.2 < 16 ^ s.1
  run : hexRun l (6 - s.1) s.2.1 s.2.2 = hexRun l 6 (a + 1) 0
theorem hexRun_end {l : List Int} {j p : Nat} {n : Int} {r : Nat × Int} (h5 : hexRun l (6 - j) p n = r) (h1 : j ≤ 6) (h : ¬ (j : Int) < 6 ∨ ¬ 0 ≤ hex (see l p)) : r = (p, n) := by
  rw [← h5]
  rcases Nat.lt_or_ge j 6 with h2 | h2
  · rw [show 6 - j = (5 - j) + 1 by omega, hexRun, if_neg (by omega)]
  · rw [show 6 - j = 0 by omega]; rfl
theorem escapedV_of {l : List Int} {a p : Nat} {n : Int} (h : ¬ hex (see l (a + 1)) < 0) (hx : hexRun l 6 (a + 1) 0 = (p, n)) : escapedV l a = if n = 0 ∨ right n = false then 65533 else n := by
  unfold escapedV; rw [if_neg h, hx]
theorem escapedP_of {l : List Int} {a p : Nat} {n : Int} (h : ¬ hex (see l (a + 1)) < 0) (hx : hexRun l 6 (a + 1) 0 = (p, n)) : escapedP l a = if white (see l p) then p + 1 else p := by
  unfold escapedP; rw [if_neg h, hx]
end Go.Proofs.YtofjmhigfihhbaaDoor.Aw
