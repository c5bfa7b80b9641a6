/- How many cells a law's helper counts in a slice of Head, against the law's own measure of size. Printed by wip/marks.py. -/
import Derived.Test.YtifeflneodmmlaaDoorKHead
import Derived.Test.YtifeflneodmmlaaDoorHHead
namespace Go.Proofs.YtifeflneodmmlaaDoor
theorem cntHead_le (x : PHead) : cntHead x ≤ 8 * (1 + szHead x) := by
  unfold cntHead szHead
  omega
theorem cntHeads_le : ∀ xs : List PHead, cntHeads xs ≤ 8 * szHeads xs
  | [] => by simp [cntHeads, szHeads]
  | x :: xs => by
    have h1 := cntHead_le x
    have h2 := cntHeads_le xs
    simp only [cntHeads, szHeads, List.map_cons, List.sum_cons, List.length_cons] at *
    omega
end Go.Proofs.YtifeflneodmmlaaDoor
