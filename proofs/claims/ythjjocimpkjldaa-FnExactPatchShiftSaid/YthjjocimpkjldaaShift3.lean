/- Walk: PatchShift, the reference's. -/
import Derived.Test.YthjjocimpkjldaaShift2
namespace Go.Proofs.Ythjjocimpkjldaa
open Go.RowKit

set_option maxHeartbeats 400000 in
theorem spec_PatchShift_any (A1 A2 : Option Addr) (n1 c1 n2 c2 : Nat) (xs ys : List PHunk) (w : World) (lo hi lo' hi' : Nat) (h1 : Rep w lo hi (encHunks xs) (.slice A1 n1 c1)) (h2 : Rep w lo' hi' (encHunks ys) (.slice A2 n2 c2))
    (hh1 : hi ≤ w.heap.size) (hh2 : hi' ≤ w.heap.size) (hs1 : ∀ x ∈ xs, okHunk x) (hs2 : ∀ x ∈ ys, okHunk x) :
    Calls Try.prog 13 #[.slice A1 n1 c1, .slice A2 n2 c2] w fun e w' => ∃ A n c, e = .returned (.slice A n c) ∧ Below w.heap.size w w' ∧ Fresh w' w.heap.size w'.heap.size (encHunks (patchShift xs ys)) (.slice A n c) := by
  go_enter Try.func13, Try.ntmps13
  go_wp2_with fail
  refine Calls.mono (spec_l2Ok_any _ _ _ _ _ _ _ h1 hs1) ?_
  rintro e w1 ⟨rfl, m, rfl⟩
  cases t1 : patchOk xs
  · go_wp2
    go_ret
    exact ⟨_, _, _, rfl, by (repeat' (first | with_reducible exact Below.refl _ _ | with_reducible assumption | (with_reducible refine Below.setCell ?_ ?_ _) | (with_reducible refine Below.alloc ?_ ?_ _) | (with_reducible refine below_drewN ?_ _) | (with_reducible refine Below.drew ?_) | omega | (simp; done) | (simp; omega))), by rw [show patchShift xs ys = [] by simp [patchShift, patchFree, t1]]; exact Fresh.nil _ _ _ _ _⟩
  · go_wp2_with fail
    refine Calls.mono (spec_l2Ok_any _ _ _ _ _ _ _ (h2.drewN m) hs2) ?_
    rintro e w1 ⟨rfl, m2, rfl⟩
    cases t2 : patchOk ys
    · go_wp2
      go_ret
      exact ⟨_, _, _, rfl, by (repeat' (first | with_reducible exact Below.refl _ _ | with_reducible assumption | (with_reducible refine Below.setCell ?_ ?_ _) | (with_reducible refine Below.alloc ?_ ?_ _) | (with_reducible refine below_drewN ?_ _) | (with_reducible refine Below.drew ?_) | omega | (simp; done) | (simp; omega))), by rw [show patchShift xs ys = [] by simp [patchShift, patchFree, t2]]; exact Fresh.nil _ _ _ _ _⟩
    · go_wp2_with fail
      refine Calls.mono (spec_l2Free_any _ _ _ _ _ _ _ _ _ _ _ _ _ (h1.drewN _) (h2.drewN _) hh1 hh2 (hunkOk_of_patchOk t1) (hunkOk_of_patchOk t2)) ?_
      rintro e w2 ⟨rfl, hb9⟩
      have hb2 : Below w.heap.size w w2 := Below.trans (by (repeat' (first | with_reducible exact Below.refl _ _ | with_reducible assumption | (with_reducible refine Below.setCell ?_ ?_ _) | (with_reducible refine Below.alloc ?_ ?_ _) | (with_reducible refine below_drewN ?_ _) | (with_reducible refine Below.drew ?_) | omega | (simp; done) | (simp; omega)))) hb9
      have hs := hb2.size
      cases t3 : freeAll xs ys
      · go_wp2
        go_ret
        exact ⟨_, _, _, rfl, hb2, by rw [show patchShift xs ys = [] by simp [patchShift, patchFree, t3]]; exact Fresh.nil _ _ _ _ _⟩
      · have h1' := h1.keep hb2 hh1
        have h2' := h2.keep hb2 hh2
        clear hb9
        go_wp2_with fail
        refine Calls.mono (spec_l2Shift_any _ _ _ _ _ _ xs ys w2 _ _ _ _ h1' h2' (Nat.le_trans hh1 hs) (Nat.le_trans hh2 hs) (hunkOk_of_patchOk t1) (hunkOk_of_patchOk t2) (patchOk_len t1) (patchOk_len t2)) ?_
        rintro e w3 ⟨A', n', c', rfl, hb3, hf⟩
        go_wp2
        go_ret
        exact ⟨_, _, _, rfl, hb2.trans (hb3.mono hs), by rw [show patchShift xs ys = ys.map (shifted xs) by simp [patchShift, patchFree, t1, t2, t3]]; exact hf.mono hs (Nat.le_refl _)⟩
end Go.Proofs.Ythjjocimpkjldaa
