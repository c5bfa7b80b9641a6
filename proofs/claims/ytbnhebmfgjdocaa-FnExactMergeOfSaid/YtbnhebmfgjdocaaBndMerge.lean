/- How great the results are: parts. -/
import Derived.Test.YtbnhebmfgjdocaaMergeFn
import Derived.Test.YtbnhebmfgjdocaaKPart
namespace Go.Proofs.Ytbnhebmfgjdocaa
open Go.RowKit
theorem parts_cnt {m : Nat} : ∀ (ps : List PPart), (∀ p ∈ ps, p.lines.length ≤ m ∧ p.old.length ≤ 16 ∧ p.one.length ≤ 16 ∧ p.two.length ≤ 16) → cntParts ps ≤ ps.length * (49 + m)
  | [], _ => by simp [cntParts]
  | p :: ps, h => by
    have h1 := h p (by simp)
    have h2 := parts_cnt ps (fun q hq => h q (by simp [hq]))
    unfold cntParts cntPart at *
    simp only [List.map_cons, List.sum_cons, List.length_cons, Nat.add_mul, Nat.one_mul]
    omega
theorem bnd_MergeOf (xs ys zs : List Str) : cntParts (mergeParts xs ys zs) ≤ 8822 := by
  unfold mergeParts
  split
  · rename_i h
    obtain ⟨l1, l2, l3⟩ := mergeOk_len h
    obtain ⟨f1, f2⟩ := mergeOf_few l1 l2 l3
    have := parts_cnt (m := 352) _ (fun p hp => by have := f2 p hp; omega)
    have h3 : (mergeOf xs ys zs).length * (49 + 352) ≤ 22 * 401 := Nat.mul_le_mul (by omega) (by omega)
    omega
  · simp [cntParts]
end Go.Proofs.Ytbnhebmfgjdocaa
