import Derived.Test.YtenkceeicmfjhaaGreatDoorJoinAtPlain
import Derived.Test.YtenkceeicmfjhaaGreatDoorZ14
/- How much what is joined holds at most. -/
namespace Go.Proofs.YtenkceeicmfjhaaGreatDoor
open Go.RowKit
theorem cntFiles_small : ∀ {l : List PFile}, (∀ x ∈ l, x.text.length ≤ 10) → cntFiles l ≤ 11 * l.length
  | [], _ => by simp [cntFiles]
  | x :: l, hl => by
    have h1 := cntFiles_small (l := l) (fun y hy => hl y (by simp [hy]))
    have h2 := hl x (by simp)
    simp only [cntFiles, cntFile, List.map_cons, List.sum_cons, List.length_cons] at *
    omega
theorem tree_texts {t : List PFile} (h : treeOk t = true) : ∀ x ∈ t, x.text.length ≤ 10 := fun x hx => by
  obtain ⟨k, hk⟩ := List.getElem?_of_mem hx
  exact textOk_len (treeAt_parts hk ((treeOk_iff.1 h).2 k (List.getElem?_eq_some_iff.1 hk).1)).1
theorem trees3_all {xs ys zs : List PFile} (h : trees3 xs ys zs = true) : treeOk xs = true ∧ treeOk ys = true ∧ treeOk zs = true := by
  unfold trees3 at h
  rw [Bool.and_eq_true, Bool.and_eq_true] at h
  exact ⟨h.1, h.2.1, h.2.2⟩
theorem joinPair_cnt {xs ys zs : List PFile} (h : trees3 xs ys zs = true) : cntFiles (joinPair xs ys zs).1 ≤ 400 := by
  obtain ⟨t1, t2, t3⟩ := trees3_all h
  have l1 := (treeOk_iff.1 t1).1
  have l2 := (treeOk_iff.1 t2).1
  have l3 := (treeOk_iff.1 t3).1
  have hp := paths3_len xs ys zs
  unfold joinPair
  split
  · have h1 := cntFiles_small (tree_texts t1)
    dsimp only; omega
  · have h1 : cntFiles (joinOut xs ys zs (paths3 xs ys zs)) ≤ 11 * (joinOut xs ys zs (paths3 xs ys zs)).length := cntFiles_small (fun x hx => by
      unfold joinOut at hx
      obtain ⟨p, _, hq⟩ := List.mem_flatMap.1 hx
      unfold outOne at hq
      split at hq
      · rename_i t ht
        simp at hq
        subst hq
        exact joinHere_len t1 t2 t3 ht
      · cases hq)
    have h2 := joinOut_len xs ys zs (paths3 xs ys zs)
    dsimp only; omega
theorem bnd_JoinTree (xs ys zs : List PFile) : cntFiles ((joinTree xs ys zs).getD []) ≤ 400 := by
  unfold joinTree
  split
  · rename_i h
    split
    · exact joinPair_cnt h
    · simp [cntFiles]
  · simp [cntFiles]
end Go.Proofs.YtenkceeicmfjhaaGreatDoor
