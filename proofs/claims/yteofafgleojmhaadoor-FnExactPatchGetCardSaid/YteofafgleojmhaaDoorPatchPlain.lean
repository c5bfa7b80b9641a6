/- In plain words: what is known of a patch that is ok. -/
import Derived.Test.YteofafgleojmhaaDoorPatchOk
namespace Go.Proofs.YteofafgleojmhaaDoor
open Go.RowKit

theorem hunkOk_of_patchOk {d : List PHunk} (h : patchOk d = true) : ∀ x ∈ d, hunkOk x = true := by
  intro x hx
  simp only [patchOk, Bool.and_eq_true] at h
  obtain ⟨k, hk⟩ := List.getElem?_of_mem hx
  have hlt := (List.getElem?_eq_some_iff.1 hk).1
  have mono : ∀ q, hunksOk (d.take (d.length - q)) = true := by
    intro q
    induction q with
    | zero => simpa using h.2
    | succ q ih =>
      by_cases hq : q < d.length
      · rw [show d.length - q = (d.length - (q + 1)) + 1 by omega, hunksOk_take d _ (by omega)] at ih
        simp only [Bool.and_eq_true] at ih
        exact ih.1
      · rw [show d.length - (q + 1) = d.length - q by omega]; exact ih
  have := mono (d.length - (k + 1))
  rw [show d.length - (d.length - (k + 1)) = k + 1 by omega] at this
  exact hunkOk_of_take this hk

theorem patchOk_len {d : List PHunk} (h : patchOk d = true) : d.length ≤ 8 := by
  simp only [patchOk, Bool.and_eq_true, decide_eq_true_eq] at h
  exact h.1
end Go.Proofs.YteofafgleojmhaaDoor
