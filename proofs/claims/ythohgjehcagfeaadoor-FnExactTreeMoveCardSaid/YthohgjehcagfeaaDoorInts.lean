/- Walks: sz, to, eq of []int. -/
import Derived.Test.YthohgjehcagfeaaDoorText
namespace Go.Proofs.YthohgjehcagfeaaDoor
open Go.RowKit



end Go.Proofs.YthohgjehcagfeaaDoor
