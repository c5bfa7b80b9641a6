/- Walks: sz, to, eq of []int. -/
import Derived.Test.YtianpeokdojkbaaDoorText
namespace Go.Proofs.YtianpeokdojkbaaDoor
open Go.RowKit



end Go.Proofs.YtianpeokdojkbaaDoor
