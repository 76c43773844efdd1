/- TokSigns: the plain law. -/
import Derived.Test.YtdenafhfngnlfaaDoorXyQ
namespace Go.Proofs.YtdenafhfngnlfaaDoor.Aw
open Go Go.RowKit Go.Lib
set_option linter.unusedVariables false
set_option linter.unusedSimpArgs false
set_option maxRecDepth 100000
def signL : List UInt8 := [58, 59, 44, 123, 125, 40, 41, 91, 93]
/-- Which bytes are a delimiter by themselves. -/
def delimB (c : Nat) : Bool := decide (32 < c) && decide (c < 127) && !(c == 34) && !(c == 39) && !(c == 95) && !(decide (48 ≤ c) && decide (c ≤ 57)) && !(decide (97 ≤ c) && decide (c ≤ 122)) && !(decide (65 ≤ c) && decide (c ≤ 90))
def signOk (c : UInt8) : Bool := ((List.range 9).all fun i => signL.getD i 0 != c || decide (ofB [c] = [{ kind := 11 + i }])) && (signL.contains c || !delimB c.toNat || decide (ofB [c] = [{ kind := 10, c := c.toNat }])) && decide ((ofB [c]).length ≤ 1)
theorem signOk_all : ((List.range 256).all fun n => signOk (UInt8.ofNat n)) = true := by decide +kernel
end Go.Proofs.YtdenafhfngnlfaaDoor.Aw
