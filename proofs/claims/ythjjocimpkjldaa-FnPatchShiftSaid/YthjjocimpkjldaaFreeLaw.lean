/- In plain words: patches that are apart. -/
import Derived.Test.YthjjocimpkjldaaPatchFree
namespace Go.Proofs.Ythjjocimpkjldaa
open Go.RowKit

theorem stop_ge (x : PHunk) : x.at_ ≤ x.stop := by unfold PHunk.stop; omega
theorem hunksOk_iff : ∀ d : List PHunk, hunksOk d = true ↔ (∀ x ∈ d, hunkOk x = true) ∧ d.Pairwise (fun g h => g.stop < h.at_)
  | [] => by simp [hunksOk]
  | [h] => by simp [hunksOk]
  | h :: g :: t => by
    have ih := hunksOk_iff (g :: t)
    rw [hunksOk, Bool.and_eq_true, Bool.and_eq_true, ih, decide_eq_true_eq]
    constructor
    · rintro ⟨h1, h2, h3, h4⟩
      refine ⟨fun x hx => ?_, List.pairwise_cons.2 ⟨fun k hk => ?_, h4⟩⟩
      · rcases List.mem_cons.1 hx with rfl | hx
        · exact h1
        · exact h3 x hx
      · rcases List.mem_cons.1 hk with rfl | hk'
        · exact h2
        · have a1 := stop_ge g
          have a2 := (List.pairwise_cons.1 h4).1 k hk'
          omega
    · rintro ⟨h1, h2⟩
      have h3 := List.pairwise_cons.1 h2
      exact ⟨h1 h (by simp), h3.1 g (by simp), fun x hx => h1 x (List.mem_cons_of_mem _ hx), h3.2⟩
theorem patchOk_iff {d : List PHunk} : patchOk d = true ↔ d.length ≤ 8 ∧ (∀ x ∈ d, hunkOk x = true) ∧ d.Pairwise (fun g h => g.stop < h.at_) := by
  unfold patchOk
  rw [Bool.and_eq_true, hunksOk_iff, decide_eq_true_eq]
theorem patchOk_sub {d e : List PHunk} (h : patchOk d = true) (hs : e.Sublist d) : patchOk e = true := by
  rw [patchOk_iff] at h ⊢
  exact ⟨Nat.le_trans hs.length_le h.1, fun x hx => h.2.1 x (hs.subset hx), h.2.2.sublist hs⟩
theorem freeAll_iff {a b : List PHunk} : freeAll a b = true ↔ ∀ x ∈ a, ∀ y ∈ b, apart x y = true := by
  unfold freeAll
  simp only [List.all_eq_true]
theorem apart_symm (x y : PHunk) : apart x y = apart y x := by unfold apart; exact Bool.or_comm _ _
theorem freeAll_symm (a b : List PHunk) : freeAll a b = freeAll b a := by
  rw [Bool.eq_iff_iff, freeAll_iff, freeAll_iff]
  exact ⟨fun h y hy x hx => (apart_symm y x).trans (h x hx y hy), fun h x hx y hy => (apart_symm x y).trans (h y hy x hx)⟩
theorem patchFree_symm {a b : List PHunk} (h1 : patchOk a = true) (h2 : patchOk b = true) : patchFree b a = patchFree a b := by
  unfold patchFree; rw [h1, h2, freeAll_symm]
theorem patchFree_nil {a : List PHunk} (h : patchOk a = true) : patchFree a [] = true := by
  unfold patchFree
  rw [h, Bool.true_and]
  have : freeAll a [] = true := by rw [freeAll_iff]; intro x _ y hy; cases hy
  rw [this]; rfl
theorem patchFree_self {a : List PHunk} (h0 : a ≠ []) : patchFree a a = false := by
  cases a with
  | nil => exact absurd rfl h0
  | cons x t =>
    have : freeAll (x :: t) (x :: t) = false := by
      rw [← Bool.not_eq_true, freeAll_iff]
      intro h
      have := h x (by simp) x (by simp)
      have a1 := stop_ge x
      simp [apart] at this
      omega
    unfold patchFree
    rw [this]; simp
theorem patchFree_sub {a b : List PHunk} (k : Nat) (h : patchFree a b = true) : patchFree (a.take k ++ a.drop (k + 1)) b = true := by
  have hs : (a.take k ++ a.drop (k + 1)).Sublist a := by
    have h1 : a.take k ++ a.drop k = a := List.take_append_drop k a
    have h2 : (a.drop (k + 1)).Sublist (a.drop k) := by
      rw [← List.drop_drop]; exact List.drop_sublist _ _
    have := List.Sublist.append (List.Sublist.refl (a.take k)) h2
    rwa [h1] at this
  unfold patchFree at h ⊢
  simp only [Bool.and_eq_true] at h ⊢
  refine ⟨patchOk_sub h.1 hs, h.2.1, ?_⟩
  rw [freeAll_iff]
  intro x hx y hy
  exact freeAll_iff.1 h.2.2 x (hs.subset hx) y hy
end Go.Proofs.Ythjjocimpkjldaa
