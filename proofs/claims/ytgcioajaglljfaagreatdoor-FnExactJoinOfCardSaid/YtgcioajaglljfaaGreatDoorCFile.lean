/- How many cells a law's helper counts in a slice of File, against the law's own measure of size. Printed by wip/marks.py. -/
import Derived.Test.YtgcioajaglljfaaGreatDoorKFile
import Derived.Test.YtgcioajaglljfaaGreatDoorHFile
namespace Go.Proofs.YtgcioajaglljfaaGreatDoor
theorem cntFile_le (x : PFile) : cntFile x ≤ 8 * (1 + szFile x) := by
  unfold cntFile szFile
  unfold total
  omega
theorem cntFiles_le : ∀ xs : List PFile, cntFiles xs ≤ 8 * szFiles xs
  | [] => by simp [cntFiles, szFiles]
  | x :: xs => by
    have h1 := cntFile_le x
    have h2 := cntFiles_le xs
    simp only [cntFiles, szFiles, List.map_cons, List.sum_cons, List.length_cons] at *
    omega
end Go.Proofs.YtgcioajaglljfaaGreatDoor
