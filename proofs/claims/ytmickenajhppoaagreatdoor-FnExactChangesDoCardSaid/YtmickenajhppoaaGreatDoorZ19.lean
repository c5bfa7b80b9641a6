/- Several of my texts in one: CFile, CHunk, CChange. -/
import Derived.Test.YtmickenajhppoaaGreatDoorZ13
import Derived.Test.YtmickenajhppoaaGreatDoorHFile
import Derived.Test.YtmickenajhppoaaGreatDoorKHunk
import Derived.Test.YtmickenajhppoaaGreatDoorHHunk
import Derived.Test.YtmickenajhppoaaGreatDoorKChange
import Derived.Test.YtmickenajhppoaaGreatDoorHChange
/- How many cells a law's helper counts in a slice of File, against the law's own measure of size. Printed by wip/marks.py. -/
namespace Go.Proofs.YtmickenajhppoaaGreatDoor
theorem cntFile_le (x : PFile) : cntFile x ≤ 8 * (1 + szFile x) := by
  unfold cntFile szFile
  unfold total
  omega
theorem cntFiles_le : ∀ xs : List PFile, cntFiles xs ≤ 8 * szFiles xs
  | [] => by simp [cntFiles, szFiles]
  | x :: xs => by
    have h1 := cntFile_le x
    have h2 := cntFiles_le xs
    simp only [cntFiles, szFiles, List.map_cons, List.sum_cons, List.length_cons] at *
    omega
end Go.Proofs.YtmickenajhppoaaGreatDoor

/- How many cells a law's helper counts in a slice of Hunk, against the law's own measure of size. Printed by wip/marks.py. -/
namespace Go.Proofs.YtmickenajhppoaaGreatDoor
theorem cntHunk_le (x : PHunk) : cntHunk x ≤ 8 * (1 + szHunk x) := by
  unfold cntHunk szHunk
  unfold total
  omega
theorem cntHunks_le : ∀ xs : List PHunk, cntHunks xs ≤ 8 * szHunks xs
  | [] => by simp [cntHunks, szHunks]
  | x :: xs => by
    have h1 := cntHunk_le x
    have h2 := cntHunks_le xs
    simp only [cntHunks, szHunks, List.map_cons, List.sum_cons, List.length_cons] at *
    omega
end Go.Proofs.YtmickenajhppoaaGreatDoor

/- How many cells a law's helper counts in a slice of Change, against the law's own measure of size. Printed by wip/marks.py. -/
namespace Go.Proofs.YtmickenajhppoaaGreatDoor
theorem cntChange_le (x : PChange) : cntChange x ≤ 8 * (1 + szChange x) := by
  have h_patch := cntHunks_le x.patch
  unfold cntChange szChange
  unfold total
  omega
theorem cntChanges_le : ∀ xs : List PChange, cntChanges xs ≤ 8 * szChanges xs
  | [] => by simp [cntChanges, szChanges]
  | x :: xs => by
    have h1 := cntChange_le x
    have h2 := cntChanges_le xs
    simp only [cntChanges, szChanges, List.map_cons, List.sum_cons, List.length_cons] at *
    omega
end Go.Proofs.YtmickenajhppoaaGreatDoor
