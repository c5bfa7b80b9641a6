/- Walks: AncIs, AncAll: the program's and the reference's. -/
import Derived.Test.YtifeflneodmmlaaDoorAncIs
namespace Go.Proofs.YtifeflneodmmlaaDoor
open Go.RowKit

theorem ancIs_no {r : PRepo} {a b : Int} (h : (repoOk r && areIn r.commits.length [a, b]) = false) : ancIs r a b = false := by unfold ancIs; rw [← Bool.and_assoc, h]; rfl
theorem ancIs_yes {r : PRepo} {a b : Nat} {x : Bool} (h : (repoOk r && areIn r.commits.length [(a : Int), (b : Int)]) = true) (hx : (ancs r.commits b)[a]? = some x) : ancIs r a b = x := by
  unfold ancIs; rw [← Bool.and_assoc, h]; simp [List.getD, hx]
theorem are_two {r : PRepo} {a b : Int} (h : (repoOk r && areIn r.commits.length [a, b]) = true) : repoOk r = true ∧ (∃ k : Nat, a = k ∧ k < r.commits.length) ∧ ∃ k : Nat, b = k ∧ k < r.commits.length := by
  simp only [areIn, List.all_cons, List.all_nil, Bool.and_eq_true, and_true] at h
  exact ⟨h.1, inRange_nat h.2.1, inRange_nat h.2.2⟩


theorem ancIs_ok {r : PRepo} {a b : Int} (h : repoOk r = false) : ancIs r a b = false := by unfold ancIs; rw [h]; rfl
theorem ancIs_a {r : PRepo} {a b : Int} (h : inRange a 0 ((r.commits.length : Int) - 1) = false) : ancIs r a b = false := by unfold ancIs areIn; simp [h]
theorem ancIs_b {r : PRepo} {a b : Int} (h : inRange b 0 ((r.commits.length : Int) - 1) = false) : ancIs r a b = false := by unfold ancIs areIn; simp [h]
theorem ancIs_in {r : PRepo} {a b : Nat} (h : repoOk r = true) (ha : inRange a 0 ((r.commits.length : Int) - 1) = true) (hb : inRange b 0 ((r.commits.length : Int) - 1) = true) : ancIs r a b = hasI (idxOf (ancs r.commits b)) a := by
  unfold ancIs areIn; rw [hasI_idx]; simp [h, ha, hb]
theorem idxOf_len (m : List Bool) : (idxOf m).length ≤ m.length := idxTo_len m m.length

end Go.Proofs.YtifeflneodmmlaaDoor
