/- How many cells a law's helper counts in a slice of Commit, against the law's own measure of size. Printed by wip/marks.py. -/
import Derived.Test.YtifeflneodmmlaaDoorKCommit
import Derived.Test.YtifeflneodmmlaaDoorHCommit
import Derived.Test.YtifeflneodmmlaaDoorCFile
namespace Go.Proofs.YtifeflneodmmlaaDoor
theorem cntCommit_le (x : PCommit) : cntCommit x ≤ 8 * (1 + szCommit x) := by
  have h_tree := cntFiles_le x.tree
  unfold cntCommit szCommit
  omega
theorem cntCommits_le : ∀ xs : List PCommit, cntCommits xs ≤ 8 * szCommits xs
  | [] => by simp [cntCommits, szCommits]
  | x :: xs => by
    have h1 := cntCommit_le x
    have h2 := cntCommits_le xs
    simp only [cntCommits, szCommits, List.map_cons, List.sum_cons, List.length_cons] at *
    omega
end Go.Proofs.YtifeflneodmmlaaDoor
