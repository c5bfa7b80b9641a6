/- Walks: sz, to, eq of []int. -/
import Derived.Test.YtbkcgphikafieaaDoorText
namespace Go.Proofs.YtbkcgphikafieaaDoor
open Go.RowKit



end Go.Proofs.YtbkcgphikafieaaDoor
