/- The reference's numeric. -/
import Derived.Test.YtofjmhigfihhbaaDoorXrF
namespace Go.Proofs.YtofjmhigfihhbaaDoor.Aw
open Go Go.RowKit Go.Lib
set_option linter.unusedVariables false
set_option linter.unusedSimpArgs false
set_option maxRecDepth 100000
structure Tok where
  kind : Int := 0
  text : List UInt8 := []
  n : Int := 0
  whole : Bool := false
  c : Int := 0
deriving DecidableEq
def Tok.cells (t : Tok) : Cells := [int t.kind, .str ⟨t.text.toArray⟩, int t.n, bool t.whole, int t.c]
abbrev Tok.d (t : Tok) : D := .agg t.cells
def tok0 : Cells := [int 0, .str ⟨#[]⟩, int 0, bool false, int 0]
theorem digit_lt {l : List Int} {a : Nat} (h : digit (see l a) = true) : a < l.length := by
  refine see_lt ?_
  simp only [digit, Bool.and_eq_true, decide_eq_true_eq] at h
  omega
def digRun (l : List Int) : Nat → Nat → List UInt8 → List UInt8 × Nat
  | 0, p, bs => (bs, p)
  | f + 1, p, bs => if digit (see l p) then digRun l f (p + 1) (bs ++ putB (see l p)) else (bs, p)
theorem digRun_fuel (l : List Int) : ∀ (f g p : Nat) (bs : List UInt8), l.length - p < f → l.length - p < g → digRun l f p bs = digRun l g p bs
  | 0, _, _, _, h, _ => by omega
  | f + 1, 0, _, _, _, h => by omega
  | f + 1, g + 1, p, bs, h1, h2 => by
    unfold digRun
    split
    · rename_i h
      have := digit_lt h
      exact digRun_fuel l f g _ _ (by omega) (by omega)
    · rfl
def numSgn (l : List Int) (a : Nat) : List UInt8 × Nat := if see l a = 43 ∨ see l a = 45 then (putB (see l a), a + 1) else ([], a)
def numInt (l : List Int) (a : Nat) : List UInt8 × Nat := digRun l (l.length + 1) (numSgn l a).2 (numSgn l a).1
def numB (l : List Int) (a : Nat) : List UInt8 × Nat × Bool :=
  if see l (numInt l a).2 = 46 ∧ digit (see l ((numInt l a).2 + 1)) = true then
    ((digRun l (l.length + 1) ((numInt l a).2 + 1) ((numInt l a).1 ++ [46])).1, (digRun l (l.length + 1) ((numInt l a).2 + 1) ((numInt l a).1 ++ [46])).2, false)
  else ((numInt l a).1, (numInt l a).2, true)
def numericT (l : List Int) (a : Nat) : Tok :=
  match numB l a with
  | (bs, p, w) => if begins l p then { kind := 8, n := (numV bs).1, text := nameS l p } else if see l p = 37 then { kind := 7, n := (numV bs).1 } else { kind := 6, n := (numV bs).1, whole := w }
def numericP (l : List Int) (a : Nat) : Nat :=
  match numB l a with
  | (bs, p, w) => if begins l p then nameP l p else if see l p = 37 then p + 1 else p
structure DigI (l : List Int) (r : List UInt8 × Nat) (w : Bool) (s : Nat × List UInt8 × Bool) : Prop where
  p : s.1 ≤ l.length
  b : s.2.1.length ≤ 4 * s.1
  w : s.2.2 = w
  run : ∀ f, l.length - s.1 < f → digRun l f s.1 s.2.1 = r
theorem digRun_end {l : List Int} {r : List UInt8 × Nat} {p : Nat} {bs : List UInt8} (h : ∀ f, l.length - p < f → digRun l f p bs = r) (hd : digit (see l p) = false) : r = (bs, p) := by
  rw [← h (l.length - p + 1) (by omega), digRun, if_neg (by simp [hd])]
end Go.Proofs.YtofjmhigfihhbaaDoor.Aw
