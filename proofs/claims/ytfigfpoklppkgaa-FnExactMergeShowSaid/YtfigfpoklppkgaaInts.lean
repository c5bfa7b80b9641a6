/- Walks: sz, to, eq of []int. -/
import Derived.Test.YtfigfpoklppkgaaText
namespace Go.Proofs.Ytfigfpoklppkgaa
open Go.RowKit



end Go.Proofs.Ytfigfpoklppkgaa
