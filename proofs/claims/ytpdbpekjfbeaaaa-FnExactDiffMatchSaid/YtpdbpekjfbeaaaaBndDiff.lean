/- How great the results are. -/
import Derived.Test.YtpdbpekjfbeaaaaMatchFn
import Derived.Test.YtpdbpekjfbeaaaaMark
namespace Go.Proofs.Ytpdbpekjfbeaaaa
open Go.RowKit
theorem bnd_DiffMatch (a b : List Str) : (diffMatch a b).length ≤ 10 := by
  unfold diffMatch
  split
  · rename_i h
    rw [mtch_len]
    simp at h
    exact textOk_len h.1
  · simp
end Go.Proofs.Ytpdbpekjfbeaaaa
