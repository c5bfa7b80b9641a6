/- Walks: sz, to, eq of []int. -/
import Derived.Test.YteeenieomfnanaaText
namespace Go.Proofs.Yteeenieomfnanaa
open Go.RowKit



end Go.Proofs.Yteeenieomfnanaa
