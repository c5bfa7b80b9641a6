/- Walks: sz, to, eq of []int. -/
import Derived.Test.YthjjocimpkjldaaText
namespace Go.Proofs.Ythjjocimpkjldaa
open Go.RowKit



end Go.Proofs.Ythjjocimpkjldaa
