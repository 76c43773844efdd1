/- What TokKinds' row is made of. -/
import Derived.Test.YtpkgnaajcibgnaaDoorXzL
import Derived.Test.YtpkgnaajcibgnaaDoorXzQ
namespace Go.Proofs.YtpkgnaajcibgnaaDoor.Aw
end Go.Proofs.YtpkgnaajcibgnaaDoor.Aw
