/- Walks: sz, to, eq of []int. -/
import Derived.Test.YtmilojppcleccaaDoorText
namespace Go.Proofs.YtmilojppcleccaaDoor
open Go.RowKit



end Go.Proofs.YtmilojppcleccaaDoor
