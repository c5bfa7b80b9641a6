/- The walk of the law FnExactChangesBack. Printed by wip/genwalk.py. -/
import Derived.Test.YtianpeokdojkbaaDoorChangesBack
import Derived.Test.YtianpeokdojkbaaDoorSpecChangesBack
import Derived.Test.YtianpeokdojkbaaDoorChangeBackPlain
import Derived.Test.YtianpeokdojkbaaDoorDChange
import Derived.Test.YtianpeokdojkbaaDoorCChange
namespace Go.Proofs.YtianpeokdojkbaaDoor
open Go.RowKit
set_option maxRecDepth 100000 in
set_option maxHeartbeats 2000000 in
theorem law_XChangesBack (A0 : Option Addr) (n0 c0 : Nat) (xs0 : List PChange) (w : World) (h0 : Rep w 0 w.heap.size (encChanges xs0) (.slice A0 n0 c0)) (ok0 : ∀ x ∈ xs0, okChange x) :
    Calls Tryd.prog 4 #[.slice A0 n0 c0] w fun e w' => e = .returned (.bool true) ∧ Below w.heap.size w w' := by
  go_enter Tryd.func4, Tryd.ntmps4
  go_wp2_with fail
  refine Calls.mono (szChangeS_any _ _ _ _ _ _ _ _ h0 (by first | omega | (simp; done) | (simp; omega)) ok0 (by omega) (by omega)) ?_
  rintro e w1 ⟨⟨r1, rfl, rl1, ru1, rz1⟩, hb1⟩
  have sz1 := hb1.size
  by_cases g1 : r1 < 0
  · go_wp2
    go_ret
    exact ⟨rfl, hb1⟩
  ·
    have hz_aList : szChanges xs0 ≤ 1048576 := by have := rz1 (by omega); omega
    have hcnt_aList := cntChanges_le xs0
    clear rz1
    go_wp2_with fail
    refine Calls.mono (toChangeS_any _ _ _ _ _ _ _ (h0.keep hb1 (Nat.le_refl _)) (by first | omega | (simp; done) | (simp; omega)) hz_aList) ?_
    rintro e w2 ⟨Af1, nf1, cf1, rfl, hb2, hf1⟩
    have sz2 := hb2.size
    go_wp2_with fail
    refine Calls.mono (spec_ChangesBack_any _ _ _ _ _ _ _ (Fresh.rep hf1) (by first | omega | (simp; done) | (simp; omega)) hz_aList ok0) ?_
    rintro e w3 ⟨Af2, nf2, cf2, rfl, hb3, hf2⟩
    have sz3 := hb3.size
    go_wp2_with fail
    refine Calls.mono (toChangeS_any _ _ _ _ _ _ _ (h0.keep ((hb1.trans (hb2.mono (by first | omega | (simp; done) | (simp; omega)))).trans (hb3.mono (by first | omega | (simp; done) | (simp; omega)))) (Nat.le_refl _)) (by first | omega | (simp; done) | (simp; omega)) hz_aList) ?_
    rintro e w4 ⟨Af3, nf3, cf3, rfl, hb4, hf3⟩
    have sz4 := hb4.size
    go_wp2_with fail
    refine Calls.mono (impl_ChangesBack_any _ _ _ _ _ _ _ (Fresh.rep hf3) (by first | omega | (simp; done) | (simp; omega)) hz_aList) ?_
    rintro e w5 ⟨Af4, nf4, cf4, rfl, hb5, hf4⟩
    have sz5 := hb5.size
    have bnd := bnd_ChangesBack xs0
    go_wp2_with fail
    refine Calls.mono (eqChangeS_any _ _ _ _ _ _ _ _ _ _ _ _ _ (Fresh.rep hf4) ((Fresh.rep hf2).keep (hb4.trans (hb5.mono (by first | omega | (simp; done) | (simp; omega)))) (Nat.le_refl _)) (by first | omega | (simp; done) | (simp; omega)) (by first | omega | (simp; done) | (simp; omega))) ?_
    rintro e w6 ⟨rfl, hb6⟩
    have sz6 := hb6.size
    go_wp2_with fail
    refine Calls.mono (toChangeS_any _ _ _ _ _ _ _ (h0.keep (((((hb1.trans (hb2.mono (by first | omega | (simp; done) | (simp; omega)))).trans (hb3.mono (by first | omega | (simp; done) | (simp; omega)))).trans (hb4.mono (by first | omega | (simp; done) | (simp; omega)))).trans (hb5.mono (by first | omega | (simp; done) | (simp; omega)))).trans (hb6.mono (by first | omega | (simp; done) | (simp; omega)))) (Nat.le_refl _)) (by first | omega | (simp; done) | (simp; omega)) hz_aList) ?_
    rintro e w7 ⟨Af5, nf5, cf5, rfl, hb7, hf5⟩
    have sz7 := hb7.size
    go_wp2_with fail
    refine Calls.mono (eqChangeS_any _ _ _ _ _ _ _ _ _ _ _ _ _ ((Fresh.rep hf3).keep ((hb5.trans (hb6.mono (by first | omega | (simp; done) | (simp; omega)))).trans (hb7.mono (by first | omega | (simp; done) | (simp; omega)))) (Nat.le_refl _)) (Fresh.rep hf5) (by first | omega | (simp; done) | (simp; omega)) (by first | omega | (simp; done) | (simp; omega))) ?_
    rintro e w8 ⟨rfl, hb8⟩
    have sz8 := hb8.size
    have hf6 := Fresh.keep hf3 (((hb5.trans (hb6.mono (by first | omega | (simp; done) | (simp; omega)))).trans (hb7.mono (by first | omega | (simp; done) | (simp; omega)))).trans (hb8.mono (by first | omega | (simp; done) | (simp; omega)))) (Nat.le_refl _)
    have hf7 := Fresh.keep hf4 ((hb6.trans (hb7.mono (by first | omega | (simp; done) | (simp; omega)))).trans (hb8.mono (by first | omega | (simp; done) | (simp; omega)))) (Nat.le_refl _)
    have hf8 := Fresh.keep hf2 ((((hb4.trans (hb5.mono (by first | omega | (simp; done) | (simp; omega)))).trans (hb6.mono (by first | omega | (simp; done) | (simp; omega)))).trans (hb7.mono (by first | omega | (simp; done) | (simp; omega)))).trans (hb8.mono (by first | omega | (simp; done) | (simp; omega)))) (Nat.le_refl _)
    obtain ⟨FF1, fo1, fn1, fb1⟩ := hf6
    go_wp2_with fail
    refine Calls.mono (markChangeS_any _ _ _ _ _ _ _ fo1 fn1 (by omega) (by omega)) ?_
    rintro e w9 ⟨rfl, fp1, hon1⟩
    have hb9 : Below w3.heap.size w8 w9 := hon1.below (fun z hz => (fb1 z hz).1) (by first | omega | (simp; done) | (simp; omega))
    have hf9 := (⟨FF1, fp1, fn1, fb1⟩ : Fresh w9 (w3.heap.size) (w4.heap.size) _ _)
    have hf10 := Fresh.same hf7 (hon1.same (fun z hz => by have := fb1 z hz; omega) (by first | omega | (simp; done) | (simp; omega)))
    have hf11 := Fresh.same hf8 (hon1.same (fun z hz => by have := fb1 z hz; omega) (by first | omega | (simp; done) | (simp; omega)))
    have sz9 := hb9.size
    clear hon1 fo1 fp1 fn1 fb1
    go_wp2_with fail
    refine Calls.mono (eqChangeS_any _ _ _ _ _ _ _ _ _ _ _ _ _ (Fresh.rep hf10) (Fresh.rep hf11) (by first | omega | (simp; done) | (simp; omega)) (by first | omega | (simp; done) | (simp; omega))) ?_
    rintro e w10 ⟨rfl, hb10⟩
    have sz10 := hb10.size
    have hf12 := Fresh.keep hf9 hb10 (by first | omega | (simp; done) | (simp; omega))
    have hf13 := Fresh.keep hf10 hb10 (by first | omega | (simp; done) | (simp; omega))
    have hf14 := Fresh.keep hf11 hb10 (by first | omega | (simp; done) | (simp; omega))
    obtain ⟨FF2, fo2, fn2, fb2⟩ := hf13
    go_wp2_with fail
    refine Calls.mono (markChangeS_any _ _ _ _ _ _ _ fo2 fn2 (by omega) (by omega)) ?_
    rintro e w11 ⟨rfl, fp2, hon2⟩
    have hb11 : Below w4.heap.size w10 w11 := hon2.below (fun z hz => (fb2 z hz).1) (by first | omega | (simp; done) | (simp; omega))
    have hf15 := Fresh.same hf12 (hon2.same (fun z hz => by have := fb2 z hz; omega) (by first | omega | (simp; done) | (simp; omega)))
    have hf16 := (⟨FF2, fp2, fn2, fb2⟩ : Fresh w11 (w4.heap.size) (w5.heap.size) _ _)
    have hf17 := Fresh.same hf14 (hon2.same (fun z hz => by have := fb2 z hz; omega) (by first | omega | (simp; done) | (simp; omega)))
    have sz11 := hb11.size
    clear hon2 fo2 fp2 fn2 fb2
    go_wp2_with fail
    refine Calls.mono (heldChangeS_any _ _ _ _ _ _ _ _ (Fresh.rep hf16) (by first | omega | (simp; done) | (simp; omega)) (by omega) (by omega)) ?_
    rintro e w12 ⟨rfl, hb12⟩
    have sz12 := hb12.size
    go_wp2_with fail
    refine Calls.mono (toChangeS_any _ _ _ _ _ _ _ (h0.keep (((((((((((hb1.trans (hb2.mono (by first | omega | (simp; done) | (simp; omega)))).trans (hb3.mono (by first | omega | (simp; done) | (simp; omega)))).trans (hb4.mono (by first | omega | (simp; done) | (simp; omega)))).trans (hb5.mono (by first | omega | (simp; done) | (simp; omega)))).trans (hb6.mono (by first | omega | (simp; done) | (simp; omega)))).trans (hb7.mono (by first | omega | (simp; done) | (simp; omega)))).trans (hb8.mono (by first | omega | (simp; done) | (simp; omega)))).trans (hb9.mono (by first | omega | (simp; done) | (simp; omega)))).trans (hb10.mono (by first | omega | (simp; done) | (simp; omega)))).trans (hb11.mono (by first | omega | (simp; done) | (simp; omega)))).trans (hb12.mono (by first | omega | (simp; done) | (simp; omega)))) (Nat.le_refl _)) (by first | omega | (simp; done) | (simp; omega)) hz_aList) ?_
    rintro e w13 ⟨Af18, nf18, cf18, rfl, hb13, hf18⟩
    have sz13 := hb13.size
    go_wp2_with fail
    refine Calls.mono (impl_ChangesBack_any _ _ _ _ _ _ _ (Fresh.rep hf18) (by first | omega | (simp; done) | (simp; omega)) hz_aList) ?_
    rintro e w14 ⟨Af19, nf19, cf19, rfl, hb14, hf19⟩
    have sz14 := hb14.size
    go_wp2_with fail
    refine Calls.mono (eqChangeS_any _ _ _ _ _ _ _ _ _ _ _ _ _ (Fresh.rep hf19) ((Fresh.rep hf17).keep ((hb12.trans (hb13.mono (by first | omega | (simp; done) | (simp; omega)))).trans (hb14.mono (by first | omega | (simp; done) | (simp; omega)))) (by first | omega | (simp; done) | (simp; omega))) (by first | omega | (simp; done) | (simp; omega)) (by first | omega | (simp; done) | (simp; omega))) ?_
    rintro e w15 ⟨rfl, hb15⟩
    have sz15 := hb15.size
    go_wp2_with fail
    refine Calls.mono (heldChangeS_any _ _ _ _ _ _ _ _ ((Fresh.rep hf16).keep (((hb12.trans (hb13.mono (by first | omega | (simp; done) | (simp; omega)))).trans (hb14.mono (by first | omega | (simp; done) | (simp; omega)))).trans (hb15.mono (by first | omega | (simp; done) | (simp; omega)))) (by first | omega | (simp; done) | (simp; omega))) (by first | omega | (simp; done) | (simp; omega)) (by omega) (by omega)) ?_
    rintro e w16 ⟨rfl, hb16⟩
    have sz16 := hb16.size
    go_wp2
    go_ret
    exact ⟨rfl, (((((((((((((((hb1.trans (hb2.mono (by first | omega | (simp; done) | (simp; omega)))).trans (hb3.mono (by first | omega | (simp; done) | (simp; omega)))).trans (hb4.mono (by first | omega | (simp; done) | (simp; omega)))).trans (hb5.mono (by first | omega | (simp; done) | (simp; omega)))).trans (hb6.mono (by first | omega | (simp; done) | (simp; omega)))).trans (hb7.mono (by first | omega | (simp; done) | (simp; omega)))).trans (hb8.mono (by first | omega | (simp; done) | (simp; omega)))).trans (hb9.mono (by first | omega | (simp; done) | (simp; omega)))).trans (hb10.mono (by first | omega | (simp; done) | (simp; omega)))).trans (hb11.mono (by first | omega | (simp; done) | (simp; omega)))).trans (hb12.mono (by first | omega | (simp; done) | (simp; omega)))).trans (hb13.mono (by first | omega | (simp; done) | (simp; omega)))).trans (hb14.mono (by first | omega | (simp; done) | (simp; omega)))).trans (hb15.mono (by first | omega | (simp; done) | (simp; omega)))).trans (hb16.mono (by first | omega | (simp; done) | (simp; omega))))⟩
end Go.Proofs.YtianpeokdojkbaaDoor
