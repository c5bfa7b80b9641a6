/- Walk: PatchDo, the reference's; and how great its result is. -/
import Derived.Test.YthjjocimpkjldaaDo2
namespace Go.Proofs.Ythjjocimpkjldaa
open Go.RowKit

theorem bnd_PatchDo (t : List Str) (d : List PHunk) : ((patchDo t d).getD []).length ≤ 10 := by
  unfold patchDo
  split
  · cases h : doFrom t d 0 [] with
    | none => simp
    | some r => exact textOk_len (doFrom_ok h)
  · simp

set_option maxHeartbeats 400000 in
theorem spec_PatchDo_any (A1 A2 : Option Addr) (n1 c1 n2 c2 : Nat) (xs : List Str) (ys : List PHunk) (w : World) (lo hi lo' hi' : Nat) (h1 : Rep w lo hi (encText xs) (.slice A1 n1 c1)) (h2 : Rep w lo' hi' (encHunks ys) (.slice A2 n2 c2))
    (hh1 : hi ≤ w.heap.size) (hh2 : hi' ≤ w.heap.size) (hs1 : ∀ s ∈ xs, s.length ≤ 9223372036854775807) (hs2 : ∀ x ∈ ys, okHunk x) :
    Calls Try.prog 21 #[.slice A1 n1 c1, .slice A2 n2 c2] w fun e w' => ∃ A n c, e = .returned (.tuple #[.slice A n c, .bool (patchDo xs ys).isSome]) ∧ Below w.heap.size w w' ∧ Fresh w' w.heap.size w'.heap.size (encText ((patchDo xs ys).getD [])) (.slice A n c) := by
  go_enter Try.func21, Try.ntmps21
  go_wp2_with fail
  refine Calls.mono (spec_l1Ok_any _ _ _ xs w lo hi h1 hs1) ?_
  rintro e w' ⟨rfl, rfl⟩
  cases t1 : textOk xs
  · go_wp2
    go_ret2
    have hn : patchDo xs ys = none := by rw [patchDo, t1]; rfl
    rw [hn]
    exact ⟨_, _, _, rfl, Below.refl _ _, Fresh.nil _ _ _ _ _⟩
  go_wp2_with fail
  refine Calls.mono (spec_l2Ok_any _ _ _ ys w lo' hi' h2 hs2) ?_
  rintro e wz ⟨rfl, m, rfl⟩
  cases t2 : patchOk ys
  · go_wp2
    go_ret2
    have hn : patchDo xs ys = none := by rw [patchDo, t2, Bool.and_false]; rfl
    rw [hn]
    exact ⟨_, _, _, rfl, below_drewN (Below.refl _ _) _, Fresh.nil _ _ _ _ _⟩
  go_wp2_with fail
  refine Calls.mono (spec_l2Do_any _ _ _ _ _ _ xs ys _ lo hi lo' hi' (h1.drewN m) (h2.drewN m) hh1 hh2 hs1 hs2 t1 t2) ?_
  rintro e w2 ⟨A', n', c', rfl, hb2, hf⟩
  go_wp2
  go_ret2
  exact ⟨_, _, _, rfl, (below_drewN (Below.refl _ _) m).trans hb2, hf⟩
end Go.Proofs.Ythjjocimpkjldaa
