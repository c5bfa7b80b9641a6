/- How much the results on trees hold at most. -/
import Derived.Test.YthohgjehcagfeaaDoorTreeDrop
import Derived.Test.YthohgjehcagfeaaDoorKFile
namespace Go.Proofs.YthohgjehcagfeaaDoor
open Go.RowKit
theorem cnt_ok {t : List PFile} (h : t.length ≤ 8) (h2 : ∀ x ∈ t, x.text.length ≤ 10) : cntFiles t ≤ 100 := by
  have key : ∀ l : List PFile, (∀ x ∈ l, x.text.length ≤ 10) → cntFiles l ≤ 11 * l.length := by
    intro l
    induction l with
    | nil => intro _; simp [cntFiles]
    | cons x l ih =>
      intro hl
      have h1 := ih (fun y hy => hl y (by simp [hy]))
      have h2 := hl x (by simp)
      simp only [cntFiles, cntFile, List.map_cons, List.sum_cons, List.length_cons] at *
      omega
  have := key t h2
  omega
theorem treeOk_texts {t : List PFile} (h : treeOk t = true) : ∀ x ∈ t, x.text.length ≤ 10 := fun x hx => by
  obtain ⟨k, hk⟩ := List.getElem?_of_mem hx
  exact textOk_len (treeAt_parts hk ((treeOk_iff.1 h).2 k (List.getElem?_eq_some_iff.1 hk).1)).1
theorem bnd_TreeDrop (xs : List PFile) (s : Str) : cntFiles (treeDrop xs s) ≤ 100 := by
  unfold treeDrop
  split
  · rename_i h
    refine cnt_ok (Nat.le_trans (List.length_filter_le _ _) (treeOk_iff.1 h).1) fun x hx => treeOk_texts h x (List.mem_filter.1 hx).1
  · simp [cntFiles]
theorem bnd_TreeUnder (xs : List PFile) (s : Str) : (treeUnder xs s).length ≤ 8 := by
  unfold treeUnder
  split
  · rename_i h
    rw [List.length_map]
    exact Nat.le_trans (List.length_filter_le _ _) (treeOk_iff.1 h).1
  · simp
end Go.Proofs.YthohgjehcagfeaaDoor
