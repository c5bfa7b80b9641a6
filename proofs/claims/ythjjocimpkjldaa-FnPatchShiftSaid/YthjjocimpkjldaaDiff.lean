/- Walks: the pieces of a difference, the program's and the reference's. -/
import Derived.Test.YthjjocimpkjldaaCopy
import Derived.Test.YthjjocimpkjldaaMatch
import Derived.Test.YthjjocimpkjldaaHHunk
import Derived.Deep.RegionHeld3
namespace Go.Proofs.Ythjjocimpkjldaa
open Go.RowKit

end Go.Proofs.Ythjjocimpkjldaa
