/- How much what is joined holds at most. -/
import Derived.Test.YtgcioajaglljfaaGreatDoorJoinAtPlain
import Derived.Test.YtgcioajaglljfaaGreatDoorKFile
import Derived.Test.YtgcioajaglljfaaGreatDoorKClash
namespace Go.Proofs.YtgcioajaglljfaaGreatDoor
open Go.RowKit
theorem cntFiles_small : ∀ {l : List PFile}, (∀ x ∈ l, x.text.length ≤ 10) → cntFiles l ≤ 11 * l.length
  | [], _ => by simp [cntFiles]
  | x :: l, hl => by
    have h1 := cntFiles_small (l := l) (fun y hy => hl y (by simp [hy]))
    have h2 := hl x (by simp)
    simp only [cntFiles, cntFile, List.map_cons, List.sum_cons, List.length_cons] at *
    omega
theorem cntClashs_small (l : List PClash) : cntClashs l ≤ 2 * l.length := by
  induction l with
  | nil => simp [cntClashs]
  | cons x l ih =>
    simp only [cntClashs, cntClash, List.map_cons, List.sum_cons, List.length_cons] at *
    omega
theorem tree_texts {t : List PFile} (h : treeOk t = true) : ∀ x ∈ t, x.text.length ≤ 10 := fun x hx => by
  obtain ⟨k, hk⟩ := List.getElem?_of_mem hx
  exact textOk_len (treeAt_parts hk ((treeOk_iff.1 h).2 k (List.getElem?_eq_some_iff.1 hk).1)).1
theorem trees3_all {xs ys zs : List PFile} (h : trees3 xs ys zs = true) : treeOk xs = true ∧ treeOk ys = true ∧ treeOk zs = true := by
  unfold trees3 at h
  rw [Bool.and_eq_true, Bool.and_eq_true] at h
  exact ⟨h.1, h.2.1, h.2.2⟩
theorem joinPair_cnt {xs ys zs : List PFile} (h : trees3 xs ys zs = true) : cntFiles (joinPair xs ys zs).1 ≤ 400 ∧ cntClashs (joinPair xs ys zs).2 ≤ 400 := by
  obtain ⟨t1, t2, t3⟩ := trees3_all h
  have l1 := (treeOk_iff.1 t1).1
  have l2 := (treeOk_iff.1 t2).1
  have l3 := (treeOk_iff.1 t3).1
  have hp := paths3_len xs ys zs
  unfold joinPair
  split
  · have h1 := cntFiles_small (tree_texts t1)
    exact ⟨by dsimp only; omega, by simp [cntClashs, cntClash]⟩
  · have h1 : cntFiles (joinOut xs ys zs (paths3 xs ys zs)) ≤ 11 * (joinOut xs ys zs (paths3 xs ys zs)).length := cntFiles_small (fun x hx => by
      unfold joinOut at hx
      obtain ⟨p, _, hq⟩ := List.mem_flatMap.1 hx
      unfold outOne at hq
      split at hq
      · rename_i t ht
        simp at hq
        subst hq
        exact joinHere_len t1 t2 t3 ht
      · cases hq)
    have h2 := joinOut_len xs ys zs (paths3 xs ys zs)
    have h3 := joinBad_len xs ys zs (paths3 xs ys zs)
    have h4 := cntClashs_small (joinBad xs ys zs (paths3 xs ys zs))
    exact ⟨by dsimp only; omega, by dsimp only; omega⟩
theorem bnd_JoinTree (xs ys zs : List PFile) : cntFiles ((joinTree xs ys zs).getD []) ≤ 400 := by
  unfold joinTree
  split
  · rename_i h
    split
    · exact (joinPair_cnt h).1
    · simp [cntFiles]
  · simp [cntFiles]
theorem bnd_JoinOf (xs ys zs : List PFile) : cntFiles (joinOf xs ys zs).1 ≤ 400 ∧ cntClashs (joinOf xs ys zs).2 ≤ 400 := by
  unfold joinOf
  split
  · rename_i h
    exact joinPair_cnt h
  · simp [cntFiles, cntClashs]
end Go.Proofs.YtgcioajaglljfaaGreatDoor
