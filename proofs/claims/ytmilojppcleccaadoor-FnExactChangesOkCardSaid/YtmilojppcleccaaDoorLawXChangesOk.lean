/- The walk of the law FnExactChangesOk. Printed by wip/genwalk.py. -/
import Derived.Test.YtmilojppcleccaaDoorChangesOk
import Derived.Test.YtmilojppcleccaaDoorSpecChangesOk
import Derived.Test.YtmilojppcleccaaDoorDChange
import Derived.Test.YtmilojppcleccaaDoorCChange
namespace Go.Proofs.YtmilojppcleccaaDoor
open Go.RowKit
set_option maxRecDepth 100000 in
set_option maxHeartbeats 2000000 in
theorem law_XChangesOk (A0 : Option Addr) (n0 c0 : Nat) (xs0 : List PChange) (w : World) (h0 : Rep w 0 w.heap.size (encChanges xs0) (.slice A0 n0 c0)) (ok0 : ∀ x ∈ xs0, okChange x) :
    Calls Tryd.prog 3 #[.slice A0 n0 c0] w fun e w' => e = .returned (.bool true) ∧ Below w.heap.size w w' := by
  go_enter Tryd.func3, Tryd.ntmps3
  go_wp2_with fail
  refine Calls.mono (szChangeS_any _ _ _ _ _ _ _ _ h0 (by first | omega | (simp; done) | (simp; omega)) ok0 (by omega) (by omega)) ?_
  rintro e w1 ⟨⟨r1, rfl, rl1, ru1, rz1⟩, hb1⟩
  have sz1 := hb1.size
  by_cases g1 : r1 < 0
  · go_wp2
    go_ret
    exact ⟨rfl, hb1⟩
  ·
    have hz_aList : szChanges xs0 ≤ 1048576 := by have := rz1 (by omega); omega
    have hcnt_aList := cntChanges_le xs0
    clear rz1
    go_wp2_with fail
    refine Calls.mono (toChangeS_any _ _ _ _ _ _ _ (h0.keep hb1 (Nat.le_refl _)) (by first | omega | (simp; done) | (simp; omega)) hz_aList) ?_
    rintro e w2 ⟨Af1, nf1, cf1, rfl, hb2, hf1⟩
    have sz2 := hb2.size
    go_wp2_with fail
    refine Calls.mono (spec_ChangesOk_any _ _ _ _ _ _ _ (Fresh.rep hf1) (by first | omega | (simp; done) | (simp; omega)) hz_aList ok0) ?_
    rintro e w3 ⟨rfl, hb3⟩
    have sz3 := hb3.size
    go_wp2_with fail
    refine Calls.mono (toChangeS_any _ _ _ _ _ _ _ (h0.keep ((hb1.trans (hb2.mono (by first | omega | (simp; done) | (simp; omega)))).trans (hb3.mono (by first | omega | (simp; done) | (simp; omega)))) (Nat.le_refl _)) (by first | omega | (simp; done) | (simp; omega)) hz_aList) ?_
    rintro e w4 ⟨Af2, nf2, cf2, rfl, hb4, hf2⟩
    have sz4 := hb4.size
    go_wp2_with fail
    refine Calls.mono (impl_ChangesOk_any _ _ _ _ _ _ _ (Fresh.rep hf2) (by first | omega | (simp; done) | (simp; omega)) hz_aList) ?_
    rintro e w5 ⟨rfl, hb5⟩
    have sz5 := hb5.size
    go_wp2_with fail
    refine Calls.mono (toChangeS_any _ _ _ _ _ _ _ (h0.keep ((((hb1.trans (hb2.mono (by first | omega | (simp; done) | (simp; omega)))).trans (hb3.mono (by first | omega | (simp; done) | (simp; omega)))).trans (hb4.mono (by first | omega | (simp; done) | (simp; omega)))).trans (hb5.mono (by first | omega | (simp; done) | (simp; omega)))) (Nat.le_refl _)) (by first | omega | (simp; done) | (simp; omega)) hz_aList) ?_
    rintro e w6 ⟨Af3, nf3, cf3, rfl, hb6, hf3⟩
    have sz6 := hb6.size
    go_wp2_with fail
    refine Calls.mono (eqChangeS_any _ _ _ _ _ _ _ _ _ _ _ _ _ ((Fresh.rep hf2).keep (hb5.trans (hb6.mono (by first | omega | (simp; done) | (simp; omega)))) (Nat.le_refl _)) (Fresh.rep hf3) (by first | omega | (simp; done) | (simp; omega)) (by first | omega | (simp; done) | (simp; omega))) ?_
    rintro e w7 ⟨rfl, hb7⟩
    have sz7 := hb7.size
    go_wp2
    go_ret
    exact ⟨rfl, ((((((hb1.trans (hb2.mono (by first | omega | (simp; done) | (simp; omega)))).trans (hb3.mono (by first | omega | (simp; done) | (simp; omega)))).trans (hb4.mono (by first | omega | (simp; done) | (simp; omega)))).trans (hb5.mono (by first | omega | (simp; done) | (simp; omega)))).trans (hb6.mono (by first | omega | (simp; done) | (simp; omega)))).trans (hb7.mono (by first | omega | (simp; done) | (simp; omega))))⟩
end Go.Proofs.YtmilojppcleccaaDoor
