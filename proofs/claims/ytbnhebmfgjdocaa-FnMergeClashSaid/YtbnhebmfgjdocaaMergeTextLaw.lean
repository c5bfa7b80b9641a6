/- In plain words: the merged text, where one side left it as it was; how many clashes there are. -/
import Derived.Test.YtbnhebmfgjdocaaMergeLaw
import Derived.Test.YtbnhebmfgjdocaaMerged
namespace Go.Proofs.Ytbnhebmfgjdocaa
open Go.RowKit

theorem join_noClash {res : PPart → Option (List Str)} : ∀ {ps : List PPart}, noClash ps → joinParts res ps = some (linesOf ps)
  | [], _ => rfl
  | p :: ps, h => by
    have hc := h p (by simp)
    rw [joinParts, hc]
    simp only [Bool.false_eq_true, if_false, join_noClash (ps := ps) (fun q hq => h q (by simp [hq])), Option.map_some]
    simp [linesOf]
theorem join_clash : ∀ {ps : List PPart}, ¬ noClash ps → joinParts noRes ps = none
  | [], h => absurd (fun p hp => by cases hp) h
  | p :: ps, h => by
    rw [joinParts]
    cases hc : p.clash
    · have : ¬ noClash ps := fun h2 => h (fun q hq => by
        rcases List.mem_cons.1 hq with rfl | hq
        · exact hc
        · exact h2 q hq)
      simp only [Bool.false_eq_true, if_false, join_clash this, Option.map_none]
    · rfl
theorem text_is {o a b c : List Str} (h : noClash (mergeOf o a b) ∧ linesOf (mergeOf o a b) = c) (hm : mergeOk o a b = true) (hc : textOk c = true) : mergeText o a b = some c := by
  unfold mergeText
  rw [mergedOf_yes hm, joinOk_some (join_noClash h.1), h.2, if_pos hc]
theorem mergeText_left {o a b : List Str} (h : mergeOk o a b = true) : mergeText o o b = some b ∧ mergeText o a o = some a ∧ mergeText o a a = some a := by
  unfold mergeOk at h
  simp only [Bool.and_eq_true] at h
  obtain ⟨h1, h2, h3⟩ := h
  exact ⟨text_is (merge_left o b) (by unfold mergeOk; rw [h1, h3]; rfl) h3, text_is (merge_right o a) (by unfold mergeOk; rw [h1, h2]; rfl) h2, text_is (merge_both o a) (by unfold mergeOk; rw [h1, h2]; rfl) h2⟩
end Go.Proofs.Ytbnhebmfgjdocaa
