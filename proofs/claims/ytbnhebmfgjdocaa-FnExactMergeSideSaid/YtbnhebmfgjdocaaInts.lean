/- Walks: sz, to, eq of []int. -/
import Derived.Test.YtbnhebmfgjdocaaText
namespace Go.Proofs.Ytbnhebmfgjdocaa
open Go.RowKit



end Go.Proofs.Ytbnhebmfgjdocaa
