/- In plain words: no patch that makes the same of a text has fewer lines than its difference. -/
import Derived.Test.YthjjocimpkjldaaPatchLaw
import Derived.Test.YthjjocimpkjldaaLcsLaw
namespace Go.Proofs.Ythjjocimpkjldaa
open Go.RowKit

theorem lcs_mono_cons {x : Str} {a b : List Str} (h : ∀ c, lcsLen a c ≤ lcsLen b c) : ∀ c, lcsLen (x :: a) c ≤ lcsLen (x :: b) c
  | [] => by rw [lcs_symm, lcs_nil_left]; exact Nat.zero_le _
  | y :: c => by
    rw [lcs_cons, lcs_cons]
    split
    · have := h c; omega
    · have h1 := h (y :: c)
      have h2 := lcs_mono_cons (x := x) h c
      omega
theorem lcs_mono {a b : List Str} (h : a.Sublist b) : ∀ c, lcsLen a c ≤ lcsLen b c := by
  induction h with
  | slnil => exact fun c => Nat.le_refl _
  | cons x _ ih => exact fun c => Nat.le_trans (ih c) (lcs_up_left x _ c)
  | cons_cons x _ ih => exact lcs_mono_cons ih
theorem lcs_common {k a b : List Str} (h1 : k.Sublist a) (h2 : k.Sublist b) : k.length ≤ lcsLen a b := by
  rw [← lcs_self k]
  refine Nat.le_trans (lcs_mono h1 k) ?_
  rw [lcs_symm a k, lcs_symm a b]
  exact lcs_mono h2 a
/-- The lines of the text that the patch keeps. -/
def keptT (t : List Str) : List PHunk → Nat → List Str
  | [], f => t.drop f
  | h :: d, f => (t.drop f).take (h.at_.toNat - f) ++ keptT t d (h.at_.toNat + h.less.length)
def manyOf (d : List PHunk) : Nat := (d.map fun h => h.less.length + h.more.length).sum
theorem kept_T {t : List Str} : ∀ (d : List PHunk) (f : Nat), fitsT t d → wellT d f → f ≤ t.length →
    (keptT t d f).Sublist (t.drop f) ∧ (keptT t d f).Sublist (apT t d f) ∧ (t.drop f).length + (apT t d f).length = 2 * (keptT t d f).length + manyOf d
  | [], f, _, _, _ => ⟨List.Sublist.refl _, List.Sublist.refl _, by simp [keptT, apT, manyOf]; omega⟩
  | h :: d, f, hf, hw, hft => by
    obtain ⟨h1, h2, h3⟩ := hf
    obtain ⟨w1, w2, w3⟩ := hw
    obtain ⟨k1, k2, k3⟩ := kept_T d (h.at_.toNat + h.less.length) h3 w3 h1
    have htf : t.drop f = (t.drop f).take (h.at_.toNat - f) ++ (h.less ++ t.drop (h.at_.toNat + h.less.length)) := by
      have e1 := List.take_append_drop (h.at_.toNat - f) (t.drop f)
      have e2 := List.take_append_drop h.less.length (t.drop h.at_.toNat)
      rw [h2, List.drop_drop] at e2
      rw [List.drop_drop, show f + (h.at_.toNat - f) = h.at_.toNat by omega, ← e2] at e1
      exact e1.symm
    refine ⟨?_, ?_, ?_⟩
    · have := List.Sublist.append (List.Sublist.refl ((t.drop f).take (h.at_.toNat - f))) (k1.trans (List.sublist_append_right h.less _))
      rw [← htf] at this
      exact this
    · rw [keptT, apT]
      exact List.Sublist.append (List.Sublist.refl _) (k2.trans (List.sublist_append_right _ _))
    · have a1 := congrArg List.length htf
      simp only [keptT, apT, manyOf, List.map_cons, List.sum_cons, List.length_append] at a1 k3 ⊢
      omega
theorem patch_least {t x : List Str} {d : List PHunk} (h : patchDo t d = some x) : textOk x = true ∧ diffMany t x ≤ (manyOf d : Int) ∧ x.length ≤ 10 := by
  rw [patchDo_iff] at h
  obtain ⟨h1, h2, h3, h4, h5⟩ := h
  obtain ⟨k1, k2, k3⟩ := kept_T d 0 h3 (well_of_ok h2) (Nat.zero_le _)
  rw [List.drop_zero] at k1 k3
  rw [← h5] at k2 k3
  have h6 := lcs_common k1 k2
  refine ⟨h4, ?_, textOk_len h4⟩
  unfold diffMany
  rw [h1, h4]
  simp only [Bool.and_self, if_true]
  omega
end Go.Proofs.Ythjjocimpkjldaa
