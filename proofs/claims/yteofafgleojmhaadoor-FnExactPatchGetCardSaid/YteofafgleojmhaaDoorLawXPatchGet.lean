/- The walk of the law FnExactPatchGet. Printed by wip/genwalk.py. -/
import Derived.Test.YteofafgleojmhaaDoorGetImpl
import Derived.Test.YteofafgleojmhaaDoorGetSpec
import Derived.Test.YteofafgleojmhaaDoorBndGetP
import Derived.Test.YteofafgleojmhaaDoorCHunk
import Derived.Test.YteofafgleojmhaaDoorMark
namespace Go.Proofs.YteofafgleojmhaaDoor
open Go.RowKit
set_option maxRecDepth 100000 in
set_option maxHeartbeats 2000000 in
theorem law_XPatchGet (s0 : Str) (w : World) (_ok0 : s0.length ≤ 9223372036854775807) (hG : Globs w) :
    Calls Tryd.prog 3 #[.string ⟨s0.toArray⟩] w fun e w' => e = .returned (.bool true) ∧ Below w.heap.size w w' := by
  go_enter Tryd.func3, Tryd.ntmps3
  by_cases g1 : 1048576 < (s0.length : Int)
  · go_wp2
    go_ret
    exact ⟨rfl, Below.refl _ _⟩
  ·
    go_wp2_with fail
    refine Calls.mono (spec_PatchGet_any _ _ (by omega)) ?_
    rintro e w1 ⟨Af1, nf1, cf1, rfl, hb1, hf1⟩
    have sz1 := hb1.size
    go_wp2_with fail
    refine Calls.mono (impl_PatchGet_any _ _ (by omega) (hG.keep hb1)) ?_
    rintro e w2 ⟨Af2, nf2, cf2, rfl, hb2, hf2⟩
    have sz2 := hb2.size
    have bnd := bnd_PatchGet s0
    go_wp2_with fail
    refine Calls.mono (eqHunkS_any _ _ _ _ _ _ _ _ _ _ _ _ _ (Fresh.rep hf2) ((Fresh.rep hf1).keep hb2 (Nat.le_refl _)) (by first | omega | (simp; done) | (simp; omega)) (by first | omega | (simp; done) | (simp; omega))) ?_
    rintro e w3 ⟨rfl, hb3⟩
    have sz3 := hb3.size
    have hf3 := Fresh.keep hf2 hb3 (Nat.le_refl _)
    have hf4 := Fresh.keep hf1 (hb2.trans (hb3.mono (by first | omega | (simp; done) | (simp; omega)))) (Nat.le_refl _)
    obtain ⟨FF1, fo1, fn1, fb1⟩ := hf3
    go_wp2_with fail
    refine Calls.mono (markHunkS_any _ _ _ _ _ _ _ fo1 fn1 (by omega) (by omega)) ?_
    rintro e w4 ⟨rfl, fp1, hon1⟩
    have hb4 : Below w1.heap.size w3 w4 := hon1.below (fun z hz => (fb1 z hz).1) (by first | omega | (simp; done) | (simp; omega))
    have hf5 := (⟨FF1, fp1, fn1, fb1⟩ : Fresh w4 (w1.heap.size) (w2.heap.size) _ _)
    have hf6 := Fresh.same hf4 (hon1.same (fun z hz => by have := fb1 z hz; omega) (by first | omega | (simp; done) | (simp; omega)))
    have sz4 := hb4.size
    clear hon1 fo1 fp1 fn1 fb1
    go_wp2_with fail
    refine Calls.mono (heldHunkS_any _ _ _ _ _ _ _ _ (Fresh.rep hf5) (by first | omega | (simp; done) | (simp; omega)) (by omega) (by omega)) ?_
    rintro e w5 ⟨rfl, hb5⟩
    have sz5 := hb5.size
    go_wp2_with fail
    refine Calls.mono (impl_PatchGet_any _ _ (by omega) (hG.keep ((((hb1.trans (hb2.mono (by first | omega | (simp; done) | (simp; omega)))).trans (hb3.mono (by first | omega | (simp; done) | (simp; omega)))).trans (hb4.mono (by first | omega | (simp; done) | (simp; omega)))).trans (hb5.mono (by first | omega | (simp; done) | (simp; omega)))))) ?_
    rintro e w6 ⟨Af7, nf7, cf7, rfl, hb6, hf7⟩
    have sz6 := hb6.size
    go_wp2_with fail
    refine Calls.mono (eqHunkS_any _ _ _ _ _ _ _ _ _ _ _ _ _ (Fresh.rep hf7) ((Fresh.rep hf6).keep (hb5.trans (hb6.mono (by first | omega | (simp; done) | (simp; omega)))) (by first | omega | (simp; done) | (simp; omega))) (by first | omega | (simp; done) | (simp; omega)) (by first | omega | (simp; done) | (simp; omega))) ?_
    rintro e w7 ⟨rfl, hb7⟩
    have sz7 := hb7.size
    go_wp2_with fail
    refine Calls.mono (heldHunkS_any _ _ _ _ _ _ _ _ ((Fresh.rep hf5).keep ((hb5.trans (hb6.mono (by first | omega | (simp; done) | (simp; omega)))).trans (hb7.mono (by first | omega | (simp; done) | (simp; omega)))) (by first | omega | (simp; done) | (simp; omega))) (by first | omega | (simp; done) | (simp; omega)) (by omega) (by omega)) ?_
    rintro e w8 ⟨rfl, hb8⟩
    have sz8 := hb8.size
    go_wp2
    go_ret
    exact ⟨rfl, (((((((hb1.trans (hb2.mono (by first | omega | (simp; done) | (simp; omega)))).trans (hb3.mono (by first | omega | (simp; done) | (simp; omega)))).trans (hb4.mono (by first | omega | (simp; done) | (simp; omega)))).trans (hb5.mono (by first | omega | (simp; done) | (simp; omega)))).trans (hb6.mono (by first | omega | (simp; done) | (simp; omega)))).trans (hb7.mono (by first | omega | (simp; done) | (simp; omega)))).trans (hb8.mono (by first | omega | (simp; done) | (simp; omega))))⟩
end Go.Proofs.YteofafgleojmhaaDoor
