/- How long a file's text is at most. -/
import Derived.Test.YtbkcgphikafieaaDoorTreeGet
namespace Go.Proofs.YtbkcgphikafieaaDoor
open Go.RowKit
theorem bnd_TreeGet (xs : List PFile) (s : Str) : ((treeGet xs s).getD []).length ≤ 10 := by
  unfold treeGet
  split
  · rename_i h
    cases hg : getAt xs s with
    | none => simp
    | some y =>
      obtain ⟨f, hf, _, e⟩ := getAt_mem hg
      obtain ⟨k, hk⟩ := List.getElem?_of_mem hf
      have := textOk_len (treeAt_parts hk ((treeOk_iff.1 h).2 k (List.getElem?_eq_some_iff.1 hk).1)).1
      rw [e] at this
      exact this
  · simp
end Go.Proofs.YtbkcgphikafieaaDoor
