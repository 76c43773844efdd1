/- What the rows of the three statements with tok.Text are made of. -/
import Derived.Test.YtpkgnaajcibgnaaDoorXzR
import Derived.Test.YtpkgnaajcibgnaaDoorXlR
namespace Go.Proofs.YtpkgnaajcibgnaaDoor.Aw
end Go.Proofs.YtpkgnaajcibgnaaDoor.Aw
