/- How many cells a law's helper counts in a slice of Part, against the law's own measure of size. Printed by wip/marks.py. -/
import Derived.Test.YtbnhebmfgjdocaaKPart
import Derived.Test.YtbnhebmfgjdocaaHPart
namespace Go.Proofs.Ytbnhebmfgjdocaa
theorem cntPart_le (x : PPart) : cntPart x ≤ 8 * (1 + szPart x) := by
  unfold cntPart szPart
  unfold total
  omega
theorem cntParts_le : ∀ xs : List PPart, cntParts xs ≤ 8 * szParts xs
  | [] => by simp [cntParts, szParts]
  | x :: xs => by
    have h1 := cntPart_le x
    have h2 := cntParts_le xs
    simp only [cntParts, szParts, List.map_cons, List.sum_cons, List.length_cons] at *
    omega
end Go.Proofs.Ytbnhebmfgjdocaa
