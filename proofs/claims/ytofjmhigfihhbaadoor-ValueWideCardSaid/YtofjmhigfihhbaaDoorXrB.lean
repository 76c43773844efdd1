/- The reference's reader of code points: what only looks. -/
import Derived.Test.YtofjmhigfihhbaaDoorXrA
namespace Go.Proofs.YtofjmhigfihhbaaDoor.Aw
open Go Go.RowKit Go.Lib
set_option linter.unusedVariables false
set_option linter.unusedSimpArgs false
set_option maxRecDepth 100000
def ptsF (l : List Int) : List (List F) := l.map fun i => [.v (.int .i64 i)]
theorem ptsF_length (l : List Int) : (ptsF l).length = l.length := by simp [ptsF]
theorem ptsF_get {l : List Int} {i : Nat} {c : Int} (h : l[i]? = some c) : (ptsF l)[i]? = some [.v (.int .i64 c)] := by simp [ptsF, h]
def see (l : List Int) (i : Nat) : Int := match l[i]? with
  | none => -1
  | some c => if right c then c else 65533
abbrev rip (l : List Int) (a : Nat) : D := .ip [.sl (ptsF l), .v (.int .i64 a)]
/-- Of the reader's object, to one who looks. -/
abbrev rdr (l : List Int) (a : Nat) : Cells := [.f (.sl (ptsF l)), int a]
def escape (l : List Int) (i : Nat) : Bool := decide (see l i = 92) && decide (0 ≤ see l (i + 1)) && !decide (see l (i + 1) = 10)
def begins (l : List Int) (i : Nat) : Bool := if see l i = 45 then nameStart (see l (i + 1)) || decide (see l (i + 1) = 45) || escape l (i + 1) else nameStart (see l i) || escape l i
def number (l : List Int) (i : Nat) : Bool := if see l i = 43 ∨ see l i = 45 then digit (see l (i + 1)) || (decide (see l (i + 1) = 46) && digit (see l (i + 2))) else digit (see l i) || (decide (see l i = 46) && digit (see l (i + 1)))
end Go.Proofs.YtofjmhigfihhbaaDoor.Aw
