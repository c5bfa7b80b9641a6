/- Walks: MergeOf: the program's and the reference's. -/
import Derived.Test.YtfigfpoklppkgaaSpecMerge
namespace Go.Proofs.Ytfigfpoklppkgaa
open Go.RowKit

set_option maxHeartbeats 400000 in
theorem impl_areTexts_any (A1 A2 A3 : Option Addr) (n1 c1 n2 c2 n3 c3 : Nat) (xs ys zs : List Str) (w : World) (lo hi lo' hi' lo'' hi'' : Nat) (h1 : Rep w lo hi (encText xs) (.slice A1 n1 c1)) (h2 : Rep w lo' hi' (encText ys) (.slice A2 n2 c2)) (h3 : Rep w lo'' hi'' (encText zs) (.slice A3 n3 c3)) :
    Calls Try.prog 16 #[.slice A1 n1 c1, .slice A2 n2 c2, .slice A3 n3 c3] w fun e w' => e = .returned (.bool (mergeOk xs ys zs)) ∧ w = w' := by
  cases t1 : textOk xs
  · go_enter Try.func16, Try.ntmps16
    go_wp2_with fail
    refine (impl_TextOk_any _ _ _ _ _ _ _ h1).mono ?_; rintro e w' ⟨rfl, rfl⟩
    go_wp2
    go_ret
    exact ⟨ret_bool (by rw [mergeOk, t1]; rfl), rfl⟩
  · cases t2 : textOk ys
    · go_enter Try.func16, Try.ntmps16
      go_wp2_with fail
      refine (impl_TextOk_any _ _ _ _ _ _ _ h1).mono ?_; rintro e w' ⟨rfl, rfl⟩
      go_wp2_with fail
      refine (impl_TextOk_any _ _ _ _ _ _ _ h2).mono ?_; rintro e w' ⟨rfl, rfl⟩
      go_wp2
      go_ret
      exact ⟨ret_bool (by rw [mergeOk, t1, t2]; rfl), rfl⟩
    · go_enter Try.func16, Try.ntmps16
      go_wp2_with fail
      refine (impl_TextOk_any _ _ _ _ _ _ _ h1).mono ?_; rintro e w' ⟨rfl, rfl⟩
      go_wp2_with fail
      refine (impl_TextOk_any _ _ _ _ _ _ _ h2).mono ?_; rintro e w' ⟨rfl, rfl⟩
      go_wp2_with fail
      refine (impl_TextOk_any _ _ _ _ _ _ _ h3).mono ?_; rintro e w' ⟨rfl, rfl⟩
      go_wp2
      go_ret
      exact ⟨ret_bool (by rw [mergeOk, t1, t2]; simp), rfl⟩
theorem mergeOk_len {xs ys zs : List Str} (h : mergeOk xs ys zs = true) : xs.length ≤ 10 ∧ ys.length ≤ 10 ∧ zs.length ≤ 10 := by
  unfold mergeOk at h
  simp only [Bool.and_eq_true] at h
  exact ⟨textOk_len h.1, textOk_len h.2.1, textOk_len h.2.2⟩
theorem mergeParts_yes {xs ys zs : List Str} (h : mergeOk xs ys zs = true) : mergeParts xs ys zs = mergeOf xs ys zs := by unfold mergeParts; rw [h]; rfl
theorem mergeParts_no {xs ys zs : List Str} (h : mergeOk xs ys zs = false) : mergeParts xs ys zs = [] := by unfold mergeParts; rw [h]; rfl

set_option maxHeartbeats 400000 in
theorem impl_MergeOf_any (A1 A2 A3 : Option Addr) (n1 c1 n2 c2 n3 c3 : Nat) (xs ys zs : List Str) (w : World) (lo hi lo' hi' lo'' hi'' : Nat) (h1 : Rep w lo hi (encText xs) (.slice A1 n1 c1)) (h2 : Rep w lo' hi' (encText ys) (.slice A2 n2 c2)) (h3 : Rep w lo'' hi'' (encText zs) (.slice A3 n3 c3))
    (hh1 : hi ≤ w.heap.size) (hh2 : hi' ≤ w.heap.size) (hh3 : hi'' ≤ w.heap.size) :
    Calls Try.prog 12 #[.slice A1 n1 c1, .slice A2 n2 c2, .slice A3 n3 c3] w fun e w' => ∃ A n c, e = .returned (.slice A n c) ∧ Below w.heap.size w w' ∧ Fresh w' w.heap.size w'.heap.size (encParts (mergeParts xs ys zs)) (.slice A n c) := by
  have ca := impl_areTexts_any _ _ _ _ _ _ _ _ _ xs ys zs w _ _ _ _ _ _ h1 h2 h3
  cases t : mergeOk xs ys zs
  · rw [t] at ca
    rw [mergeParts_no t]
    clear t
    go_enter Try.func12, Try.ntmps12
    go_wp2_with fail
    refine ca.mono ?_; rintro e w' ⟨rfl, rfl⟩
    go_wp2
    go_ret
    exact ⟨_, _, _, rfl, Below.refl _ _, Fresh.nil _ _ _ _ _⟩
  · rw [t] at ca
    obtain ⟨l1, l2, l3⟩ := mergeOk_len t
    rw [mergeParts_yes t]
    clear t
    go_enter Try.func12, Try.ntmps12
    go_wp2_with fail
    refine ca.mono ?_; rintro e w' ⟨rfl, rfl⟩
    go_wp2_with fail
    refine (impl_mergeOf_any _ _ _ _ _ _ _ _ _ xs ys zs w (h1.mono (Nat.zero_le _) hh1) (h2.mono (Nat.zero_le _) hh2) (h3.mono (Nat.zero_le _) hh3) l1 l2 l3).mono ?_
    rintro e w1 ⟨A, n, c, rfl, hb, hf⟩
    go_wp2
    go_ret
    exact ⟨_, _, _, rfl, hb, hf⟩

set_option maxHeartbeats 800000 in
theorem spec_MergeOf_any (A1 A2 A3 : Option Addr) (n1 c1 n2 c2 n3 c3 : Nat) (xs ys zs : List Str) (w : World) (lo hi lo' hi' lo'' hi'' : Nat) (h1 : Rep w lo hi (encText xs) (.slice A1 n1 c1)) (h2 : Rep w lo' hi' (encText ys) (.slice A2 n2 c2)) (h3 : Rep w lo'' hi'' (encText zs) (.slice A3 n3 c3))
    (hh1 : hi ≤ w.heap.size) (hh2 : hi' ≤ w.heap.size) (hh3 : hi'' ≤ w.heap.size) (hs1 : ∀ s ∈ xs, s.length ≤ 9223372036854775807) (hs2 : ∀ s ∈ ys, s.length ≤ 9223372036854775807) (hs3 : ∀ s ∈ zs, s.length ≤ 9223372036854775807) :
    Calls Try.prog 11 #[.slice A1 n1 c1, .slice A2 n2 c2, .slice A3 n3 c3] w fun e w' => ∃ A n c, e = .returned (.slice A n c) ∧ Below w.heap.size w w' ∧ Fresh w' w.heap.size w'.heap.size (encParts (mergeParts xs ys zs)) (.slice A n c) := by
  have q1 := spec_l1Ok_any _ _ _ xs w _ _ h1 hs1
  have q2 := spec_l1Ok_any _ _ _ ys w _ _ h2 hs2
  have q3 := spec_l1Ok_any _ _ _ zs w _ _ h3 hs3
  cases t1 : textOk xs
  · rw [t1] at q1
    rw [mergeParts_no (by unfold mergeOk; rw [t1]; rfl)]
    clear t1
    go_enter Try.func11, Try.ntmps11
    go_wp2_with fail
    refine q1.mono ?_; rintro e w' ⟨rfl, rfl⟩
    go_wp2
    go_ret
    exact ⟨_, _, _, rfl, Below.refl _ _, Fresh.nil _ _ _ _ _⟩
  rw [t1] at q1
  cases t2 : textOk ys
  · rw [t2] at q2
    rw [mergeParts_no (by unfold mergeOk; rw [t1, t2]; rfl)]
    clear t1 t2
    go_enter Try.func11, Try.ntmps11
    go_wp2_with fail
    refine q1.mono ?_; rintro e w' ⟨rfl, rfl⟩
    go_wp2_with fail
    refine q2.mono ?_; rintro e w' ⟨rfl, rfl⟩
    go_wp2
    go_ret
    exact ⟨_, _, _, rfl, Below.refl _ _, Fresh.nil _ _ _ _ _⟩
  rw [t2] at q2
  cases t3 : textOk zs
  · rw [t3] at q3
    rw [mergeParts_no (by unfold mergeOk; rw [t1, t2, t3]; rfl)]
    clear t1 t2 t3
    go_enter Try.func11, Try.ntmps11
    go_wp2_with fail
    refine q1.mono ?_; rintro e w' ⟨rfl, rfl⟩
    go_wp2_with fail
    refine q2.mono ?_; rintro e w' ⟨rfl, rfl⟩
    go_wp2_with fail
    refine q3.mono ?_; rintro e w' ⟨rfl, rfl⟩
    go_wp2
    go_ret
    exact ⟨_, _, _, rfl, Below.refl _ _, Fresh.nil _ _ _ _ _⟩
  rw [t3] at q3
  rw [mergeParts_yes (by unfold mergeOk; rw [t1, t2, t3]; rfl)]
  have l1 := textOk_len t1
  have l2 := textOk_len t2
  have l3 := textOk_len t3
  clear t1 t2 t3
  go_enter Try.func11, Try.ntmps11
  go_wp2_with fail
  refine q1.mono ?_; rintro e w' ⟨rfl, rfl⟩
  go_wp2_with fail
  refine q2.mono ?_; rintro e w' ⟨rfl, rfl⟩
  go_wp2_with fail
  refine q3.mono ?_; rintro e w' ⟨rfl, rfl⟩
  go_wp2_with fail
  refine (spec_l3Of_any _ _ _ _ _ _ _ _ _ xs ys zs w (h1.mono (Nat.zero_le _) hh1) (h2.mono (Nat.zero_le _) hh2) (h3.mono (Nat.zero_le _) hh3) l1 l2 l3).mono ?_
  rintro e w1 ⟨A, n, c, rfl, hb, hf⟩
  go_wp2
  go_ret
  exact ⟨_, _, _, rfl, hb, hf⟩
end Go.Proofs.Ytfigfpoklppkgaa
