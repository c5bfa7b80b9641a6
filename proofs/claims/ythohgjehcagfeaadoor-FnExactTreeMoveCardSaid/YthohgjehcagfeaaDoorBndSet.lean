/- How much TreeSet and TreeMove hold at most. -/
import Derived.Test.YthohgjehcagfeaaDoorSetPlain
import Derived.Test.YthohgjehcagfeaaDoorBndTree
namespace Go.Proofs.YthohgjehcagfeaaDoor
open Go.RowKit
theorem cnt_tree {t : List PFile} (h : treeOk t = true) : cntFiles t ≤ 100 := cnt_ok (treeOk_iff.1 h).1 (treeOk_texts h)
theorem bnd_TreeSet (xs : List PFile) (f : PFile) : cntFiles (treeSet xs f) ≤ 100 := by
  unfold treeSet
  split
  · rename_i h
    split
    · rename_i h2; exact cnt_tree h2
    · exact cnt_tree h
  · simp [cntFiles]
theorem bnd_TreeMove (xs : List PFile) (p q : Str) : cntFiles (treeMove xs p q) ≤ 100 := by
  unfold treeMove
  split
  · rename_i h
    split
    · rename_i h2
      unfold treeMoveB at h2
      simp only [Bool.and_eq_true] at h2
      exact cnt_tree h2.2.1.2
    · exact cnt_tree h
  · simp [cntFiles]
end Go.Proofs.YthohgjehcagfeaaDoor
