/- Walks: PatchFree, the program's and the reference's. -/
import Derived.Test.YtianpeokdojkbaaDoorPatchOk2
import Derived.Test.YtianpeokdojkbaaDoorPatchPlain
import Derived.StillTailTactics
namespace Go.Proofs.YtianpeokdojkbaaDoor
open Go.RowKit

def apart (x y : PHunk) : Bool := decide (x.stop < y.at_) || decide (y.stop < x.at_)
def freeAll (a b : List PHunk) : Bool := a.all fun x => b.all fun y => apart x y
def patchFree (a b : List PHunk) : Bool := patchOk a && (patchOk b && freeAll a b)



theorem apart_eq (x y : PHunk) : apart x y = !(decide (y.at_ ≤ x.stop) && decide (x.at_ ≤ y.stop)) := by
  unfold apart
  by_cases h1 : x.stop < y.at_ <;> by_cases h2 : y.stop < x.at_ <;> simp [h1, h2] <;> omega

end Go.Proofs.YtianpeokdojkbaaDoor
