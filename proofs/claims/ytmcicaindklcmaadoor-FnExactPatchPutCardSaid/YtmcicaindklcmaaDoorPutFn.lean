/- Walk: PatchPut, both sides. -/
import Derived.Test.YtmcicaindklcmaaDoorWrite
import Derived.Test.YtmcicaindklcmaaDoorWrite3
namespace Go.Proofs.YtmcicaindklcmaaDoor
open Go.RowKit

set_option maxRecDepth 100000 in
set_option maxHeartbeats 1600000 in
theorem impl_PatchPut_any (A : Option Addr) (n c : Nat) (xs : List PHunk) (w : World) (lo hi : Nat) (h : Rep w lo hi (encHunks xs) (.slice A n c)) (hh : hi ≤ w.heap.size) :
    Calls Tryd.prog 8 #[.slice A n c] w fun e w' => e = .returned (.string ⟨(patchPut xs).toArray⟩) ∧ Below w.heap.size w w' := by
  have hput : patchPut xs = if patchOk xs then wPatch xs else [] := rfl
  obtain ⟨P, hP⟩ : ∃ P, P = patchPut xs := ⟨_, rfl⟩
  rw [← hP] at hput ⊢
  obtain ⟨b, hbk⟩ : ∃ b, b = patchOk xs := ⟨_, rfl⟩
  have h1 := fun w' (hb : Below w.heap.size w w') => impl_PatchOk_any A n c xs w' lo hi (h.keep hb hh) (Nat.le_trans hh hb.size)
  have h2 := fun w' (hb : Below w.heap.size w w') => impl_patchPut_any A n c xs w' lo hi (h.keep hb hh) (Nat.le_trans hh hb.size)
  rw [← hbk] at hput h2
  rw [← hbk] at h1
  clear hP hbk
  have Hput := Lib.hid hput
  clear hput
  go_enter Tryd.func8, Tryd.ntmps8
  go_wp2_with fail
  refine Calls.mono (h1 w (Below.refl _ _)) ?_
  rintro e w1 ⟨rfl, hb1⟩
  have hs1 := hb1.size
  cases b with
  | false =>
    go_wp2
    go_ret
    exact ⟨by rw [Hput.out]; rfl, hb1⟩
  | true =>
    go_wp2_with fail
    refine Calls.mono (h2 w1 hb1 trivial) ?_
    rintro e w2 ⟨rfl, hb2⟩
    go_wp2
    go_ret
    exact ⟨by rw [Hput.out]; rfl, hb1.trans (hb2.mono hs1)⟩

set_option maxRecDepth 100000 in
set_option maxHeartbeats 1600000 in
theorem spec_PatchPut_any (A : Option Addr) (n c : Nat) (xs : List PHunk) (w : World) (lo hi : Nat) (h : Rep w lo hi (encHunks xs) (.slice A n c)) (hh : hi ≤ w.heap.size) (hs : ∀ x ∈ xs, okHunk x) :
    Calls Tryd.prog 6 #[.slice A n c] w fun e w' => e = .returned (.string ⟨(patchPut xs).toArray⟩) ∧ Below w.heap.size w w' := by
  have hput : patchPut xs = if patchOk xs then wPatch xs else [] := rfl
  obtain ⟨P, hP⟩ : ∃ P, P = patchPut xs := ⟨_, rfl⟩
  rw [← hP] at hput ⊢
  obtain ⟨b, hbk⟩ : ∃ b, b = patchOk xs := ⟨_, rfl⟩
  have h1 := fun w' (hb : Below w.heap.size w w') => spec_l2Ok_any A n c xs w' lo hi (h.keep hb hh) hs
  have h2 := fun w' (hb : Below w.heap.size w w') => spec_l2Put_any A n c xs w' lo hi (h.keep hb hh) (Nat.le_trans hh hb.size)
  rw [← hbk] at hput h2
  rw [← hbk] at h1
  clear hP hbk
  have Hput := Lib.hid hput
  clear hput
  go_enter Tryd.func6, Tryd.ntmps6
  go_wp2_with fail
  refine Calls.mono (h1 w (Below.refl _ _)) ?_
  rintro e w1 ⟨rfl, m, rfl⟩
  have hb1 : Below w.heap.size w (w.drewN m) := below_drewN (Below.refl _ _) _
  have hs1 := hb1.size
  cases b with
  | false =>
    go_wp2
    go_ret
    exact ⟨by rw [Hput.out]; rfl, hb1⟩
  | true =>
    go_wp2_with fail
    refine Calls.mono (h2 _ hb1 trivial) ?_
    rintro e w2 ⟨rfl, hb2⟩
    go_wp2
    go_ret
    exact ⟨by rw [Hput.out]; rfl, hb1.trans (hb2.mono hs1)⟩
end Go.Proofs.YtmcicaindklcmaaDoor
