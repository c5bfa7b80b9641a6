/- How many cells a law's helper counts in a slice of Clash, against the law's own measure of size. Printed by wip/marks.py. -/
import Derived.Test.YtgcioajaglljfaaGreatDoorKClash
import Derived.Test.YtgcioajaglljfaaGreatDoorHClash
namespace Go.Proofs.YtgcioajaglljfaaGreatDoor
theorem cntClash_le (x : PClash) : cntClash x ≤ 8 * (1 + szClash x) := by
  unfold cntClash szClash
  omega
theorem cntClashs_le : ∀ xs : List PClash, cntClashs xs ≤ 8 * szClashs xs
  | [] => by simp [cntClashs, szClashs]
  | x :: xs => by
    have h1 := cntClash_le x
    have h2 := cntClashs_le xs
    simp only [cntClashs, szClashs, List.map_cons, List.sum_cons, List.length_cons] at *
    omega
end Go.Proofs.YtgcioajaglljfaaGreatDoor
