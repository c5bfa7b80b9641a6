/- How many cells a law's helper counts in a slice of Change, against the law's own measure of size. Printed by wip/marks.py. -/
import Derived.Test.YtianpeokdojkbaaDoorKChange
import Derived.Test.YtianpeokdojkbaaDoorHChange
import Derived.Test.YtianpeokdojkbaaDoorCHunk
namespace Go.Proofs.YtianpeokdojkbaaDoor
theorem cntChange_le (x : PChange) : cntChange x ≤ 8 * (1 + szChange x) := by
  have h_patch := cntHunks_le x.patch
  unfold cntChange szChange
  unfold total
  omega
theorem cntChanges_le : ∀ xs : List PChange, cntChanges xs ≤ 8 * szChanges xs
  | [] => by simp [cntChanges, szChanges]
  | x :: xs => by
    have h1 := cntChange_le x
    have h2 := cntChanges_le xs
    simp only [cntChanges, szChanges, List.map_cons, List.sum_cons, List.length_cons] at *
    omega
end Go.Proofs.YtianpeokdojkbaaDoor
