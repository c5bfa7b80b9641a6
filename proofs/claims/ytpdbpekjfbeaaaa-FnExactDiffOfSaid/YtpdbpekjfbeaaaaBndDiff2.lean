/- How great the results are: differences. -/
import Derived.Test.YtpdbpekjfbeaaaaDiffFn
import Derived.Test.YtpdbpekjfbeaaaaKHunk
namespace Go.Proofs.Ytpdbpekjfbeaaaa
open Go.RowKit
theorem cutHunks_cnt (a b : List Str) : ∀ (ps : List Int) (i fa fb : Nat), cntHunks (cutHunks a b ps i fa fb) ≤ ps.length * (1 + a.length + b.length)
  | [], _, _, _ => by simp [cutHunks, cntHunks]
  | j :: ps, i, fa, fb => by
    rw [cutHunks, List.length_cons, Nat.add_mul]
    split
    · have := cutHunks_cnt a b ps (i + 1) fa fb
      omega
    · have h := cutHunks_cnt a b ps (i + 1) (i + 1) (j.toNat + 1)
      unfold cntHunks at *
      rw [List.map_append, List.sum_append]
      split
      · simp only [List.map_cons, List.map_nil, List.sum_cons, List.sum_nil, cntHunk, List.length_take, List.length_drop]
        omega
      · simp only [List.map_nil, List.sum_nil]
        omega
theorem bnd_DiffOf (a b : List Str) : cntHunks (diffOfOk a b) ≤ 231 := by
  unfold diffOfOk
  split
  · rename_i h
    simp at h
    have h1 := textOk_len h.1
    have h2 := textOk_len h.2
    have h3 := cutHunks_cnt a b (pairsOf a b) 0 0 0
    rw [pairsOf_len] at h3
    unfold diffOf
    have : (a.length + 1) * (1 + a.length + b.length) ≤ 11 * 21 := Nat.mul_le_mul (by omega) (by omega)
    omega
  · simp [cntHunks]
end Go.Proofs.Ytpdbpekjfbeaaaa
