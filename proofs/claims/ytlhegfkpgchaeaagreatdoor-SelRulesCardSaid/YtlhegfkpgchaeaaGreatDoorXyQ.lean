/- A contract at a frozen slice, called with an own slice, which turns no more. -/
import Derived.Test.YtlhegfkpgchaeaaGreatDoorXyO
namespace Go.Proofs.YtlhegfkpgchaeaaGreatDoor.Aw
open Go Go.RowKit Go.Lib
set_option linter.unusedVariables false
set_option linter.unusedSimpArgs false
set_option maxRecDepth 100000

end Go.Proofs.YtlhegfkpgchaeaaGreatDoor.Aw
