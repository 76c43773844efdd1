/- The reference's str. -/
import Derived.Test.YtofjmhigfihhbaaDoorXrG
namespace Go.Proofs.YtofjmhigfihhbaaDoor.Aw
open Go Go.RowKit Go.Lib
set_option linter.unusedVariables false
set_option linter.unusedSimpArgs false
set_option maxRecDepth 100000
def strRun (l : List Int) (e : Int) : Nat → Nat → List UInt8 → Tok × Nat
  | 0, p, bs => ({}, p)
  | f + 1, p, bs => if see l p < 0 then ({ kind := 4, text := bs }, p)
    else if see l p = e then ({ kind := 4, text := bs }, p + 1)
    else if see l p = 10 then ({ kind := 5 }, p)
    else if see l p = 92 then
      (if see l (p + 1) < 0 then strRun l e f (p + 1) bs
       else if see l (p + 1) = 10 then strRun l e f (p + 2) bs
       else strRun l e f (escapedP l p) (bs ++ putB (escapedV l p)))
    else strRun l e f (p + 1) (bs ++ putB (see l p))
theorem escape_of {l : List Int} {p : Nat} (h1 : see l p = 92) (h2 : ¬ see l (p + 1) < 0) (h3 : ¬ see l (p + 1) = 10) : escape l p = true := by
  simp only [escape, Bool.and_eq_true, decide_eq_true_eq, Bool.not_eq_true', decide_eq_false_iff_not]
  omega
theorem strRun_fuel (l : List Int) (e : Int) : ∀ (f g p : Nat) (bs : List UInt8), l.length - p < f → l.length - p < g → strRun l e f p bs = strRun l e g p bs
  | 0, _, _, _, h, _ => by omega
  | f + 1, 0, _, _, _, h => by omega
  | f + 1, g + 1, p, bs, h1, h2 => by
    unfold strRun
    split
    · rfl
    · rename_i h0
      have hlt := see_lt (l := l) (i := p) (by omega)
      split
      · rfl
      · split
        · rfl
        · split
          · split
            · exact strRun_fuel l e f g _ _ (by omega) (by omega)
            · split
              · exact strRun_fuel l e f g _ _ (by omega) (by omega)
              · rename_i h92 hn h10
                have := escapedP_le (escape_of h92 hn h10)
                exact strRun_fuel l e f g _ _ (by omega) (by omega)
          · exact strRun_fuel l e f g _ _ (by omega) (by omega)
def strT (l : List Int) (a : Nat) : Tok := (strRun l (see l a) (l.length + 1) (a + 1) []).1
def strP (l : List Int) (a : Nat) : Nat := (strRun l (see l a) (l.length + 1) (a + 1) []).2
structure StrI (l : List Int) (a : Nat) (s : Nat × List UInt8) : Prop where
  p : s.1 ≤ l.length
  b : s.2.length ≤ 4 * s.1
  run : ∀ f, l.length - s.1 < f → strRun l (see l a) f s.1 s.2 = strRun l (see l a) (l.length + 1) (a + 1) []
end Go.Proofs.YtofjmhigfihhbaaDoor.Aw
