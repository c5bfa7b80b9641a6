/- The walk of the law FnExactPathIn. Printed by wip/genwalk.py. -/
import Derived.Test.YtbkcgphikafieaaDoorPath4
namespace Go.Proofs.YtbkcgphikafieaaDoor
open Go.RowKit
set_option maxRecDepth 100000 in
set_option maxHeartbeats 2000000 in
theorem law_XPathIn (s0 : Str) (s1 : Str) (w : World) (ok0 : s0.length ≤ 9223372036854775807) (ok1 : s1.length ≤ 9223372036854775807) :
    Calls Tryd.prog 4 #[.string ⟨s0.toArray⟩, .string ⟨s1.toArray⟩] w fun e w' => e = .returned (.bool true) ∧ Below w.heap.size w w' := by
  go_enter Tryd.func4, Tryd.ntmps4
  by_cases g1 : 1048576 < (s0.length : Int)
  · go_wp2
    go_ret
    exact ⟨rfl, Below.refl _ _⟩
  ·
    by_cases g2 : 1048576 < (s1.length : Int)
    · go_wp2
      go_ret
      exact ⟨rfl, Below.refl _ _⟩
    ·
      go_wp2_with fail
      refine Calls.mono (spec_PathIn_any _ _ _ (by omega) (by omega)) ?_
      rintro e w1 ⟨rfl, hb1⟩
      have sz1 := hb1.size
      go_wp2_with fail
      refine Calls.mono (impl_PathIn_any _ _ _ (by omega) (by omega)) ?_
      rintro e w2 ⟨rfl, hb2⟩
      have sz2 := hb2.size
      go_wp2
      go_ret
      exact ⟨rfl, (hb1.trans (hb2.mono (by first | omega | (simp; done) | (simp; omega))))⟩
end Go.Proofs.YtbkcgphikafieaaDoor
