/- The walk of the law FnExactPatchFree. Printed by wip/genwalk.py. -/
import Derived.Test.YtfhkpeoodcffmaaPatchFree
import Derived.Test.YtfhkpeoodcffmaaHHunk
namespace Go.Proofs.Ytfhkpeoodcffmaa
open Go.RowKit
set_option maxRecDepth 100000 in
set_option maxHeartbeats 2000000 in
theorem law_XPatchFree (A0 : Option Addr) (n0 c0 : Nat) (xs0 : List PHunk) (A1 : Option Addr) (n1 c1 : Nat) (xs1 : List PHunk) (w : World) (h0 : Rep w 0 w.heap.size (encHunks xs0) (.slice A0 n0 c0)) (ok0 : ∀ x ∈ xs0, okHunk x) (h1 : Rep w 0 w.heap.size (encHunks xs1) (.slice A1 n1 c1)) (ok1 : ∀ x ∈ xs1, okHunk x) :
    Calls Try.prog 8 #[.slice A0 n0 c0, .slice A1 n1 c1] w fun e w' => e = .returned (.bool true) ∧ Below w.heap.size w w' := by
  go_enter Try.func8, Try.ntmps8
  go_wp2_with fail
  refine Calls.mono (szHunkS_any _ _ _ _ _ _ _ _ h0 (by first | omega | (simp; done) | (simp; omega)) ok0 (by omega) (by omega)) ?_
  rintro e w1 ⟨⟨r1, rfl, rl1, ru1, rz1⟩, hb1⟩
  have sz1 := hb1.size
  by_cases g1 : r1 < 0
  · go_wp2
    go_ret
    exact ⟨rfl, hb1⟩
  ·
    have hz_aA : szHunks xs0 ≤ 1048576 := by have := rz1 (by omega); omega
    clear rz1
    go_wp2_with fail
    refine Calls.mono (szHunkS_any _ _ _ _ _ _ _ _ (h1.keep hb1 (Nat.le_refl _)) (by first | omega | (simp; done) | (simp; omega)) ok1 (by omega) (by omega)) ?_
    rintro e w2 ⟨⟨r2, rfl, rl2, ru2, rz2⟩, hb2⟩
    have sz2 := hb2.size
    by_cases g2 : r2 < 0
    · go_wp2
      go_ret
      exact ⟨rfl, (hb1.trans (hb2.mono (by first | omega | (simp; done) | (simp; omega))))⟩
    ·
      have hz_aB : szHunks xs1 ≤ 1048576 := by have := rz2 (by omega); omega
      clear rz2
      go_wp2_with fail
      refine Calls.mono (toHunkS_any _ _ _ _ _ _ _ (h0.keep (hb1.trans (hb2.mono (by first | omega | (simp; done) | (simp; omega)))) (Nat.le_refl _)) (by first | omega | (simp; done) | (simp; omega)) hz_aA) ?_
      rintro e w3 ⟨Af1, nf1, cf1, rfl, hb3, hf1⟩
      have sz3 := hb3.size
      go_wp2_with fail
      refine Calls.mono (toHunkS_any _ _ _ _ _ _ _ (h1.keep ((hb1.trans (hb2.mono (by first | omega | (simp; done) | (simp; omega)))).trans (hb3.mono (by first | omega | (simp; done) | (simp; omega)))) (Nat.le_refl _)) (by first | omega | (simp; done) | (simp; omega)) hz_aB) ?_
      rintro e w4 ⟨Af2, nf2, cf2, rfl, hb4, hf2⟩
      have sz4 := hb4.size
      go_wp2_with fail
      refine Calls.mono (spec_PatchFree_any _ _ _ _ _ _ _ _ _ _ _ _ _ (hf1.rep.keep hb4 (Nat.le_refl _)) hf2.rep (by first | omega | (simp; done) | (simp; omega)) (by first | omega | (simp; done) | (simp; omega)) ok0 ok1) ?_
      rintro e w5 ⟨rfl, hb5⟩
      have sz5 := hb5.size
      go_wp2_with fail
      refine Calls.mono (toHunkS_any _ _ _ _ _ _ _ (h0.keep ((((hb1.trans (hb2.mono (by first | omega | (simp; done) | (simp; omega)))).trans (hb3.mono (by first | omega | (simp; done) | (simp; omega)))).trans (hb4.mono (by first | omega | (simp; done) | (simp; omega)))).trans (hb5.mono (by first | omega | (simp; done) | (simp; omega)))) (Nat.le_refl _)) (by first | omega | (simp; done) | (simp; omega)) hz_aA) ?_
      rintro e w6 ⟨Af3, nf3, cf3, rfl, hb6, hf3⟩
      have sz6 := hb6.size
      go_wp2_with fail
      refine Calls.mono (toHunkS_any _ _ _ _ _ _ _ (h1.keep (((((hb1.trans (hb2.mono (by first | omega | (simp; done) | (simp; omega)))).trans (hb3.mono (by first | omega | (simp; done) | (simp; omega)))).trans (hb4.mono (by first | omega | (simp; done) | (simp; omega)))).trans (hb5.mono (by first | omega | (simp; done) | (simp; omega)))).trans (hb6.mono (by first | omega | (simp; done) | (simp; omega)))) (Nat.le_refl _)) (by first | omega | (simp; done) | (simp; omega)) hz_aB) ?_
      rintro e w7 ⟨Af4, nf4, cf4, rfl, hb7, hf4⟩
      have sz7 := hb7.size
      go_wp2_with fail
      refine Calls.mono (impl_PatchFree_any _ _ _ _ _ _ _ _ _ _ _ _ _ (hf3.rep.keep hb7 (Nat.le_refl _)) hf4.rep (by first | omega | (simp; done) | (simp; omega)) (by first | omega | (simp; done) | (simp; omega))) ?_
      rintro e w8 ⟨rfl, hb8⟩
      have sz8 := hb8.size
      go_wp2_with fail
      refine Calls.mono (toHunkS_any _ _ _ _ _ _ _ (h0.keep (((((((hb1.trans (hb2.mono (by first | omega | (simp; done) | (simp; omega)))).trans (hb3.mono (by first | omega | (simp; done) | (simp; omega)))).trans (hb4.mono (by first | omega | (simp; done) | (simp; omega)))).trans (hb5.mono (by first | omega | (simp; done) | (simp; omega)))).trans (hb6.mono (by first | omega | (simp; done) | (simp; omega)))).trans (hb7.mono (by first | omega | (simp; done) | (simp; omega)))).trans (hb8.mono (by first | omega | (simp; done) | (simp; omega)))) (Nat.le_refl _)) (by first | omega | (simp; done) | (simp; omega)) hz_aA) ?_
      rintro e w9 ⟨Af5, nf5, cf5, rfl, hb9, hf5⟩
      have sz9 := hb9.size
      go_wp2_with fail
      refine Calls.mono (eqHunkS_any _ _ _ _ _ _ _ _ _ _ _ _ _ (hf3.rep.keep ((hb7.trans (hb8.mono (by first | omega | (simp; done) | (simp; omega)))).trans (hb9.mono (by first | omega | (simp; done) | (simp; omega)))) (Nat.le_refl _)) hf5.rep (by first | omega | (simp; done) | (simp; omega)) (by first | omega | (simp; done) | (simp; omega))) ?_
      rintro e w10 ⟨rfl, hb10⟩
      have sz10 := hb10.size
      go_wp2_with fail
      refine Calls.mono (toHunkS_any _ _ _ _ _ _ _ (h1.keep (((((((((hb1.trans (hb2.mono (by first | omega | (simp; done) | (simp; omega)))).trans (hb3.mono (by first | omega | (simp; done) | (simp; omega)))).trans (hb4.mono (by first | omega | (simp; done) | (simp; omega)))).trans (hb5.mono (by first | omega | (simp; done) | (simp; omega)))).trans (hb6.mono (by first | omega | (simp; done) | (simp; omega)))).trans (hb7.mono (by first | omega | (simp; done) | (simp; omega)))).trans (hb8.mono (by first | omega | (simp; done) | (simp; omega)))).trans (hb9.mono (by first | omega | (simp; done) | (simp; omega)))).trans (hb10.mono (by first | omega | (simp; done) | (simp; omega)))) (Nat.le_refl _)) (by first | omega | (simp; done) | (simp; omega)) hz_aB) ?_
      rintro e w11 ⟨Af6, nf6, cf6, rfl, hb11, hf6⟩
      have sz11 := hb11.size
      go_wp2_with fail
      refine Calls.mono (eqHunkS_any _ _ _ _ _ _ _ _ _ _ _ _ _ (hf4.rep.keep (((hb8.trans (hb9.mono (by first | omega | (simp; done) | (simp; omega)))).trans (hb10.mono (by first | omega | (simp; done) | (simp; omega)))).trans (hb11.mono (by first | omega | (simp; done) | (simp; omega)))) (Nat.le_refl _)) hf6.rep (by first | omega | (simp; done) | (simp; omega)) (by first | omega | (simp; done) | (simp; omega))) ?_
      rintro e w12 ⟨rfl, hb12⟩
      have sz12 := hb12.size
      go_wp2
      go_ret
      exact ⟨rfl, (((((((((((hb1.trans (hb2.mono (by first | omega | (simp; done) | (simp; omega)))).trans (hb3.mono (by first | omega | (simp; done) | (simp; omega)))).trans (hb4.mono (by first | omega | (simp; done) | (simp; omega)))).trans (hb5.mono (by first | omega | (simp; done) | (simp; omega)))).trans (hb6.mono (by first | omega | (simp; done) | (simp; omega)))).trans (hb7.mono (by first | omega | (simp; done) | (simp; omega)))).trans (hb8.mono (by first | omega | (simp; done) | (simp; omega)))).trans (hb9.mono (by first | omega | (simp; done) | (simp; omega)))).trans (hb10.mono (by first | omega | (simp; done) | (simp; omega)))).trans (hb11.mono (by first | omega | (simp; done) | (simp; omega)))).trans (hb12.mono (by first | omega | (simp; done) | (simp; omega))))⟩
end Go.Proofs.Ytfhkpeoodcffmaa
