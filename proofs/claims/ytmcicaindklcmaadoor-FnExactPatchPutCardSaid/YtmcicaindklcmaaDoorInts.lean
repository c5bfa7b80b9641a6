/- Walks: sz, to, eq of []int. -/
import Derived.Test.YtmcicaindklcmaaDoorText
namespace Go.Proofs.YtmcicaindklcmaaDoor
open Go.RowKit



end Go.Proofs.YtmcicaindklcmaaDoor
