/- The walk of the law FnExactPathOk. Printed by wip/genwalk.py. -/
import Derived.Test.YtbkcgphikafieaaDoorPath2
import Derived.Test.YtbkcgphikafieaaDoorPath3
namespace Go.Proofs.YtbkcgphikafieaaDoor
open Go.RowKit
set_option maxRecDepth 100000 in
set_option maxHeartbeats 2000000 in
theorem law_XPathOk (s0 : Str) (w : World) (ok0 : s0.length ≤ 9223372036854775807) :
    Calls Tryd.prog 3 #[.string ⟨s0.toArray⟩] w fun e w' => e = .returned (.bool true) ∧ Below w.heap.size w w' := by
  go_enter Tryd.func3, Tryd.ntmps3
  by_cases g1 : 1048576 < (s0.length : Int)
  · go_wp2
    go_ret
    exact ⟨rfl, Below.refl _ _⟩
  ·
    go_wp2_with fail
    refine Calls.mono (spec_PathOk_any _ _ (by omega)) ?_
    rintro e w1 ⟨rfl, hb1⟩
    have sz1 := hb1.size
    go_wp2_with fail
    refine Calls.mono (impl_PathOk_any _ _ (by omega)) ?_
    rintro e w2 ⟨rfl, hb2⟩
    have sz2 := hb2.size
    go_wp2
    go_ret
    exact ⟨rfl, (hb1.trans (hb2.mono (by first | omega | (simp; done) | (simp; omega))))⟩
end Go.Proofs.YtbkcgphikafieaaDoor
