/- Walks: AncAll: the program's and the reference's. -/
import Derived.Test.YtifeflneodmmlaaDoorAncIs2
namespace Go.Proofs.YtifeflneodmmlaaDoor
open Go.RowKit

def ancAll (r : PRepo) (a : Int) : List Int := if repoOk r && areIn r.commits.length [a] then idxOf (ancs r.commits a.toNat) else []
theorem bnd_AncAll (r : PRepo) (a : Int) : (ancAll r a).length ≤ 16 := by
  unfold ancAll
  split
  · rename_i h
    simp only [Bool.and_eq_true] at h
    have := idxOf_len (ancs r.commits a.toNat)
    rw [ancs_len] at this
    have := (repoOk_iff.1 h.1).1
    omega
  · simp
theorem ancAll_no {r : PRepo} {a : Int} (h : (repoOk r && areIn r.commits.length [a]) = false) : ancAll r a = [] := by unfold ancAll; rw [h]; rfl
theorem ancAll_yes {r : PRepo} {a : Nat} (h : (repoOk r && areIn r.commits.length [(a : Int)]) = true) : ancAll r a = idxOf (ancs r.commits a) := by
  unfold ancAll; rw [h]; rfl
theorem are_one {r : PRepo} {a : Int} (h : (repoOk r && areIn r.commits.length [a]) = true) : repoOk r = true ∧ ∃ k : Nat, a = k ∧ k < r.commits.length := by
  simp only [areIn, List.all_cons, List.all_nil, Bool.and_eq_true, and_true] at h
  exact ⟨h.1, inRange_nat h.2⟩
theorem fresh_none (w w' : World) (h : w.heap.size ≤ w'.heap.size) : Fresh w' w.heap.size w'.heap.size (encInts []) (.slice none 0 0) := (Fresh.of_row (World.ownsRow_nil w' w'.heap.size _ _) (owns_ints w' [])).mono h (Nat.le_refl _)


theorem ancAll_ok {r : PRepo} {a : Int} (h : repoOk r = false) : ancAll r a = [] := ancAll_no (by rw [h]; rfl)
theorem ancAll_a {r : PRepo} {a : Int} (h : inRange a 0 ((r.commits.length : Int) - 1) = false) : ancAll r a = [] := ancAll_no (by unfold areIn; simp [h])
theorem ancAll_in {r : PRepo} {a : Nat} (h : repoOk r = true) (ha : inRange a 0 ((r.commits.length : Int) - 1) = true) : ancAll r a = idxOf (ancs r.commits a) := ancAll_yes (by unfold areIn; simp [h, ha])

end Go.Proofs.YtifeflneodmmlaaDoor
