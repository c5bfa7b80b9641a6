/- Walks: two texts drawn: l30Two and the draws that are it. -/
import Derived.Test.YtbnhebmfgjdocaaDraw3
namespace Go.Proofs.Ytbnhebmfgjdocaa
open Go.RowKit





end Go.Proofs.Ytbnhebmfgjdocaa
