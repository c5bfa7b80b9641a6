/- How many cells a law's helper counts in a slice of Hunk, against the law's own measure of size. Printed by wip/marks.py. -/
import Derived.Test.YteofafgleojmhaaDoorKHunk
import Derived.Test.YteofafgleojmhaaDoorHHunk
namespace Go.Proofs.YteofafgleojmhaaDoor
theorem cntHunk_le (x : PHunk) : cntHunk x ≤ 8 * (1 + szHunk x) := by
  unfold cntHunk szHunk
  unfold total
  omega
theorem cntHunks_le : ∀ xs : List PHunk, cntHunks xs ≤ 8 * szHunks xs
  | [] => by simp [cntHunks, szHunks]
  | x :: xs => by
    have h1 := cntHunk_le x
    have h2 := cntHunks_le xs
    simp only [cntHunks, szHunks, List.map_cons, List.sum_cons, List.length_cons] at *
    omega
end Go.Proofs.YteofafgleojmhaaDoor
