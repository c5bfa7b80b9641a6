/- Walks: PatchBack, the program's and the reference's. -/
import Derived.Test.YthjjocimpkjldaaBack2
import Derived.Test.YthjjocimpkjldaaKHunk
namespace Go.Proofs.Ythjjocimpkjldaa
open Go.RowKit

theorem cntHunks_ok {d : List PHunk} (h : ∀ x ∈ d, hunkOk x = true) : cntHunks d ≤ d.length * 21 := by
  induction d with
  | nil => simp [cntHunks]
  | cons x d ih =>
    have h1 := ih fun y hy => h y (by simp [hy])
    obtain ⟨_, _, _, _, h2, h3, _⟩ := hunkOk_facts (h x (by simp))
    simp only [cntHunks, List.map_cons, List.sum_cons, List.length_cons, cntHunk] at *
    omega
theorem cntHunks_back : ∀ (d : List PHunk) (s : Int), cntHunks (backFrom d s) = cntHunks d
  | [], _ => rfl
  | x :: d, s => by
    have := cntHunks_back d (s + ((x.more.length : Int) - (x.less.length : Int)))
    simp only [backFrom, cntHunks, List.map_cons, List.sum_cons, cntHunk] at *
    omega
theorem bnd_PatchBack (d : List PHunk) : cntHunks (patchBack d) ≤ 168 := by
  unfold patchBack
  split
  · rename_i h
    rw [cntHunks_back]
    have := cntHunks_ok (hunkOk_of_patchOk h)
    have := patchOk_len h
    omega
  · simp [cntHunks]

set_option maxHeartbeats 400000 in
theorem impl_PatchBack_any (A : Option Addr) (n c : Nat) (xs : List PHunk) (w : World) (lo hi : Nat) (h : Rep w lo hi (encHunks xs) (.slice A n c)) (hh : hi ≤ w.heap.size) :
    Calls Try.prog 27 #[.slice A n c] w fun e w' => ∃ A n c, e = .returned (.slice A n c) ∧ Below w.heap.size w w' ∧ Fresh w' w.heap.size w'.heap.size (encHunks (patchBack xs)) (.slice A n c) := by
  go_enter Try.func27, Try.ntmps27
  go_wp2_with fail
  refine Calls.mono (impl_PatchOk_any _ _ _ _ _ _ _ h hh) ?_
  rintro e w1 ⟨rfl, hb1⟩
  cases t1 : patchOk xs
  · go_wp2
    go_ret
    exact ⟨_, _, _, rfl, hb1, by rw [patchBack, t1]; exact Fresh.nil _ _ _ _ _⟩
  · go_wp2_with fail
    refine Calls.mono (impl_back_any _ _ _ _ _ _ _ (h.keep hb1 hh) (Nat.le_trans hh hb1.size) (hunkOk_of_patchOk t1) (patchOk_len t1)) ?_
    rintro e w2 ⟨A', n', c', rfl, hb2, hf⟩
    go_wp2
    go_ret
    exact ⟨_, _, _, rfl, hb1.trans (hb2.mono hb1.size), by rw [patchBack, t1]; exact Fresh.mono hf hb1.size (Nat.le_refl _)⟩

set_option maxHeartbeats 400000 in
theorem spec_PatchBack_any (A : Option Addr) (n c : Nat) (xs : List PHunk) (w : World) (lo hi : Nat) (h : Rep w lo hi (encHunks xs) (.slice A n c)) (hh : hi ≤ w.heap.size) (hs : ∀ x ∈ xs, okHunk x) :
    Calls Try.prog 28 #[.slice A n c] w fun e w' => ∃ A n c, e = .returned (.slice A n c) ∧ Below w.heap.size w w' ∧ Fresh w' w.heap.size w'.heap.size (encHunks (patchBack xs)) (.slice A n c) := by
  go_enter Try.func28, Try.ntmps28
  go_wp2_with fail
  refine Calls.mono (spec_l2Ok_any _ _ _ _ _ _ _ h hs) ?_
  rintro e w1 ⟨rfl, m, rfl⟩
  cases t1 : patchOk xs
  · go_wp2
    go_ret
    exact ⟨_, _, _, rfl, below_drewN (Below.refl _ _) _, by rw [patchBack, t1]; exact Fresh.nil _ _ _ _ _⟩
  · go_wp2_with fail
    refine Calls.mono (spec_l2Back_any _ _ _ _ _ _ _ (h.drewN m) hh (hunkOk_of_patchOk t1) (patchOk_len t1)) ?_
    rintro e w2 ⟨A', n', c', rfl, hb2, hf⟩
    go_wp2
    go_ret
    exact ⟨_, _, _, rfl, (below_drewN (Below.refl _ _) m).trans hb2, by rw [patchBack, t1]; exact hf⟩
end Go.Proofs.Ythjjocimpkjldaa
