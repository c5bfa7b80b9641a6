import Derived.Test.YtmickenajhppoaaGreatDoorZ32
import Derived.Test.YtmickenajhppoaaGreatDoorZ13
/- How much the changed tree holds at most. -/
namespace Go.Proofs.YtmickenajhppoaaGreatDoor
open Go.RowKit
theorem cntFiles_small : ∀ {l : List PFile}, (∀ x ∈ l, x.text.length ≤ 10) → cntFiles l ≤ 11 * l.length
  | [], _ => by simp [cntFiles]
  | x :: l, hl => by
    have h1 := cntFiles_small (l := l) (fun y hy => hl y (by simp [hy]))
    have h2 := hl x (by simp)
    simp only [cntFiles, cntFile, List.map_cons, List.sum_cons, List.length_cons] at *
    omega
theorem tree_texts {t : List PFile} (h : treeOk t = true) : ∀ x ∈ t, x.text.length ≤ 10 := fun x hx => by
  obtain ⟨k, hk⟩ := List.getElem?_of_mem hx
  exact textOk_len (treeAt_parts hk ((treeOk_iff.1 h).2 k (List.getElem?_eq_some_iff.1 hk).1)).1
theorem bnd_ChangesDo (xs : List PFile) (ys : List PChange) : cntFiles ((changesDo xs ys).getD []) ≤ 100 := by
  have h0 : cntFiles ((none : Option (List PFile)).getD []) ≤ 100 := by simp [cntFiles]
  unfold changesDo
  split
  · split
    · cases h : putAll xs ys (takes xs ys) with
      | none => exact h0
      | some o =>
        show cntFiles ((if treeOk o = true then some o else none).getD []) ≤ 100
        split
        · rename_i h2
          have h3 := (treeOk_iff.1 h2).1
          have h4 := cntFiles_small (tree_texts h2)
          simp only [Option.getD_some]
          omega
        · exact h0
    · exact h0
  · exact h0
end Go.Proofs.YtmickenajhppoaaGreatDoor
