/- Walks: sz, to, eq of []int. -/
import Derived.Test.YteofafgleojmhaaDoorText
namespace Go.Proofs.YteofafgleojmhaaDoor
open Go.RowKit



end Go.Proofs.YteofafgleojmhaaDoor
