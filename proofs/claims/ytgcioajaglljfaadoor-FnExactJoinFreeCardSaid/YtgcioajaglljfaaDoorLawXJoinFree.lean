/- The walk of the law FnExactJoinFree. Printed by wip/genwalk.py. -/
import Derived.Test.YtgcioajaglljfaaDoorJoinFree
import Derived.Test.YtgcioajaglljfaaDoorDFile
namespace Go.Proofs.YtgcioajaglljfaaDoor
open Go.RowKit
set_option maxRecDepth 100000 in
set_option maxHeartbeats 2000000 in
theorem law_XJoinFree (A0 : Option Addr) (n0 c0 : Nat) (xs0 : List PFile) (A1 : Option Addr) (n1 c1 : Nat) (xs1 : List PFile) (A2 : Option Addr) (n2 c2 : Nat) (xs2 : List PFile) (w : World) (h0 : Rep w 0 w.heap.size (encFiles xs0) (.slice A0 n0 c0)) (ok0 : ∀ x ∈ xs0, okFile x) (h1 : Rep w 0 w.heap.size (encFiles xs1) (.slice A1 n1 c1)) (ok1 : ∀ x ∈ xs1, okFile x) (h2 : Rep w 0 w.heap.size (encFiles xs2) (.slice A2 n2 c2)) (ok2 : ∀ x ∈ xs2, okFile x) :
    Calls Tryd.prog 3 #[.slice A0 n0 c0, .slice A1 n1 c1, .slice A2 n2 c2] w fun e w' => e = .returned (.bool true) ∧ Below w.heap.size w w' := by
  go_enter Tryd.func3, Tryd.ntmps3
  go_wp2_with fail
  refine Calls.mono (szFileS_any _ _ _ _ _ _ _ _ h0 (by first | omega | (simp; done) | (simp; omega)) ok0 (by omega) (by omega)) ?_
  rintro e w1 ⟨⟨r1, rfl, rl1, ru1, rz1⟩, hb1⟩
  have sz1 := hb1.size
  by_cases g1 : r1 < 0
  · go_wp2
    go_ret
    exact ⟨rfl, hb1⟩
  ·
    have hz_aO : szFiles xs0 ≤ 1048576 := by have := rz1 (by omega); omega
    clear rz1
    go_wp2_with fail
    refine Calls.mono (szFileS_any _ _ _ _ _ _ _ _ (h1.keep hb1 (Nat.le_refl _)) (by first | omega | (simp; done) | (simp; omega)) ok1 (by omega) (by omega)) ?_
    rintro e w2 ⟨⟨r2, rfl, rl2, ru2, rz2⟩, hb2⟩
    have sz2 := hb2.size
    by_cases g2 : r2 < 0
    · go_wp2
      go_ret
      exact ⟨rfl, (hb1.trans (hb2.mono (by first | omega | (simp; done) | (simp; omega))))⟩
    ·
      have hz_aA : szFiles xs1 ≤ 1048576 := by have := rz2 (by omega); omega
      clear rz2
      go_wp2_with fail
      refine Calls.mono (szFileS_any _ _ _ _ _ _ _ _ (h2.keep (hb1.trans (hb2.mono (by first | omega | (simp; done) | (simp; omega)))) (Nat.le_refl _)) (by first | omega | (simp; done) | (simp; omega)) ok2 (by omega) (by omega)) ?_
      rintro e w3 ⟨⟨r3, rfl, rl3, ru3, rz3⟩, hb3⟩
      have sz3 := hb3.size
      by_cases g3 : r3 < 0
      · go_wp2
        go_ret
        exact ⟨rfl, ((hb1.trans (hb2.mono (by first | omega | (simp; done) | (simp; omega)))).trans (hb3.mono (by first | omega | (simp; done) | (simp; omega))))⟩
      ·
        have hz_aB : szFiles xs2 ≤ 1048576 := by have := rz3 (by omega); omega
        clear rz3
        go_wp2_with fail
        refine Calls.mono (toFileS_any _ _ _ _ _ _ _ (h0.keep ((hb1.trans (hb2.mono (by first | omega | (simp; done) | (simp; omega)))).trans (hb3.mono (by first | omega | (simp; done) | (simp; omega)))) (Nat.le_refl _)) (by first | omega | (simp; done) | (simp; omega)) hz_aO) ?_
        rintro e w4 ⟨Af1, nf1, cf1, rfl, hb4, hf1⟩
        have sz4 := hb4.size
        go_wp2_with fail
        refine Calls.mono (toFileS_any _ _ _ _ _ _ _ (h1.keep (((hb1.trans (hb2.mono (by first | omega | (simp; done) | (simp; omega)))).trans (hb3.mono (by first | omega | (simp; done) | (simp; omega)))).trans (hb4.mono (by first | omega | (simp; done) | (simp; omega)))) (Nat.le_refl _)) (by first | omega | (simp; done) | (simp; omega)) hz_aA) ?_
        rintro e w5 ⟨Af2, nf2, cf2, rfl, hb5, hf2⟩
        have sz5 := hb5.size
        go_wp2_with fail
        refine Calls.mono (toFileS_any _ _ _ _ _ _ _ (h2.keep ((((hb1.trans (hb2.mono (by first | omega | (simp; done) | (simp; omega)))).trans (hb3.mono (by first | omega | (simp; done) | (simp; omega)))).trans (hb4.mono (by first | omega | (simp; done) | (simp; omega)))).trans (hb5.mono (by first | omega | (simp; done) | (simp; omega)))) (Nat.le_refl _)) (by first | omega | (simp; done) | (simp; omega)) hz_aB) ?_
        rintro e w6 ⟨Af3, nf3, cf3, rfl, hb6, hf3⟩
        have sz6 := hb6.size
        go_wp2_with fail
        refine Calls.mono (spec_JoinFree_any _ _ _ _ _ _ _ _ _ _ _ _ _ _ _ _ _ _ _ ((Fresh.rep hf1).keep (hb5.trans (hb6.mono (by first | omega | (simp; done) | (simp; omega)))) (Nat.le_refl _)) ((Fresh.rep hf2).keep hb6 (Nat.le_refl _)) (Fresh.rep hf3) (by first | omega | (simp; done) | (simp; omega)) (by first | omega | (simp; done) | (simp; omega)) (by first | omega | (simp; done) | (simp; omega)) (okTree_of ok0 hz_aO) (okTree_of ok1 hz_aA) (okTree_of ok2 hz_aB)) ?_
        rintro e w7 ⟨rfl, hb7⟩
        have sz7 := hb7.size
        go_wp2_with fail
        refine Calls.mono (toFileS_any _ _ _ _ _ _ _ (h0.keep ((((((hb1.trans (hb2.mono (by first | omega | (simp; done) | (simp; omega)))).trans (hb3.mono (by first | omega | (simp; done) | (simp; omega)))).trans (hb4.mono (by first | omega | (simp; done) | (simp; omega)))).trans (hb5.mono (by first | omega | (simp; done) | (simp; omega)))).trans (hb6.mono (by first | omega | (simp; done) | (simp; omega)))).trans (hb7.mono (by first | omega | (simp; done) | (simp; omega)))) (Nat.le_refl _)) (by first | omega | (simp; done) | (simp; omega)) hz_aO) ?_
        rintro e w8 ⟨Af4, nf4, cf4, rfl, hb8, hf4⟩
        have sz8 := hb8.size
        go_wp2_with fail
        refine Calls.mono (toFileS_any _ _ _ _ _ _ _ (h1.keep (((((((hb1.trans (hb2.mono (by first | omega | (simp; done) | (simp; omega)))).trans (hb3.mono (by first | omega | (simp; done) | (simp; omega)))).trans (hb4.mono (by first | omega | (simp; done) | (simp; omega)))).trans (hb5.mono (by first | omega | (simp; done) | (simp; omega)))).trans (hb6.mono (by first | omega | (simp; done) | (simp; omega)))).trans (hb7.mono (by first | omega | (simp; done) | (simp; omega)))).trans (hb8.mono (by first | omega | (simp; done) | (simp; omega)))) (Nat.le_refl _)) (by first | omega | (simp; done) | (simp; omega)) hz_aA) ?_
        rintro e w9 ⟨Af5, nf5, cf5, rfl, hb9, hf5⟩
        have sz9 := hb9.size
        go_wp2_with fail
        refine Calls.mono (toFileS_any _ _ _ _ _ _ _ (h2.keep ((((((((hb1.trans (hb2.mono (by first | omega | (simp; done) | (simp; omega)))).trans (hb3.mono (by first | omega | (simp; done) | (simp; omega)))).trans (hb4.mono (by first | omega | (simp; done) | (simp; omega)))).trans (hb5.mono (by first | omega | (simp; done) | (simp; omega)))).trans (hb6.mono (by first | omega | (simp; done) | (simp; omega)))).trans (hb7.mono (by first | omega | (simp; done) | (simp; omega)))).trans (hb8.mono (by first | omega | (simp; done) | (simp; omega)))).trans (hb9.mono (by first | omega | (simp; done) | (simp; omega)))) (Nat.le_refl _)) (by first | omega | (simp; done) | (simp; omega)) hz_aB) ?_
        rintro e w10 ⟨Af6, nf6, cf6, rfl, hb10, hf6⟩
        have sz10 := hb10.size
        go_wp2_with fail
        refine Calls.mono (impl_JoinFree_any _ _ _ _ _ _ _ _ _ _ _ _ _ _ _ _ _ _ _ ((Fresh.rep hf4).keep (hb9.trans (hb10.mono (by first | omega | (simp; done) | (simp; omega)))) (Nat.le_refl _)) ((Fresh.rep hf5).keep hb10 (Nat.le_refl _)) (Fresh.rep hf6) (by first | omega | (simp; done) | (simp; omega)) (by first | omega | (simp; done) | (simp; omega)) (by first | omega | (simp; done) | (simp; omega)) (okTree_of ok0 hz_aO) (okTree_of ok1 hz_aA) (okTree_of ok2 hz_aB)) ?_
        rintro e w11 ⟨rfl, hb11⟩
        have sz11 := hb11.size
        go_wp2_with fail
        refine Calls.mono (toFileS_any _ _ _ _ _ _ _ (h0.keep ((((((((((hb1.trans (hb2.mono (by first | omega | (simp; done) | (simp; omega)))).trans (hb3.mono (by first | omega | (simp; done) | (simp; omega)))).trans (hb4.mono (by first | omega | (simp; done) | (simp; omega)))).trans (hb5.mono (by first | omega | (simp; done) | (simp; omega)))).trans (hb6.mono (by first | omega | (simp; done) | (simp; omega)))).trans (hb7.mono (by first | omega | (simp; done) | (simp; omega)))).trans (hb8.mono (by first | omega | (simp; done) | (simp; omega)))).trans (hb9.mono (by first | omega | (simp; done) | (simp; omega)))).trans (hb10.mono (by first | omega | (simp; done) | (simp; omega)))).trans (hb11.mono (by first | omega | (simp; done) | (simp; omega)))) (Nat.le_refl _)) (by first | omega | (simp; done) | (simp; omega)) hz_aO) ?_
        rintro e w12 ⟨Af7, nf7, cf7, rfl, hb12, hf7⟩
        have sz12 := hb12.size
        go_wp2_with fail
        refine Calls.mono (eqFileS_any _ _ _ _ _ _ _ _ _ _ _ _ _ ((Fresh.rep hf4).keep (((hb9.trans (hb10.mono (by first | omega | (simp; done) | (simp; omega)))).trans (hb11.mono (by first | omega | (simp; done) | (simp; omega)))).trans (hb12.mono (by first | omega | (simp; done) | (simp; omega)))) (Nat.le_refl _)) (Fresh.rep hf7) (by first | omega | (simp; done) | (simp; omega)) (by first | omega | (simp; done) | (simp; omega))) ?_
        rintro e w13 ⟨rfl, hb13⟩
        have sz13 := hb13.size
        go_wp2_with fail
        refine Calls.mono (toFileS_any _ _ _ _ _ _ _ (h1.keep ((((((((((((hb1.trans (hb2.mono (by first | omega | (simp; done) | (simp; omega)))).trans (hb3.mono (by first | omega | (simp; done) | (simp; omega)))).trans (hb4.mono (by first | omega | (simp; done) | (simp; omega)))).trans (hb5.mono (by first | omega | (simp; done) | (simp; omega)))).trans (hb6.mono (by first | omega | (simp; done) | (simp; omega)))).trans (hb7.mono (by first | omega | (simp; done) | (simp; omega)))).trans (hb8.mono (by first | omega | (simp; done) | (simp; omega)))).trans (hb9.mono (by first | omega | (simp; done) | (simp; omega)))).trans (hb10.mono (by first | omega | (simp; done) | (simp; omega)))).trans (hb11.mono (by first | omega | (simp; done) | (simp; omega)))).trans (hb12.mono (by first | omega | (simp; done) | (simp; omega)))).trans (hb13.mono (by first | omega | (simp; done) | (simp; omega)))) (Nat.le_refl _)) (by first | omega | (simp; done) | (simp; omega)) hz_aA) ?_
        rintro e w14 ⟨Af8, nf8, cf8, rfl, hb14, hf8⟩
        have sz14 := hb14.size
        go_wp2_with fail
        refine Calls.mono (eqFileS_any _ _ _ _ _ _ _ _ _ _ _ _ _ ((Fresh.rep hf5).keep ((((hb10.trans (hb11.mono (by first | omega | (simp; done) | (simp; omega)))).trans (hb12.mono (by first | omega | (simp; done) | (simp; omega)))).trans (hb13.mono (by first | omega | (simp; done) | (simp; omega)))).trans (hb14.mono (by first | omega | (simp; done) | (simp; omega)))) (Nat.le_refl _)) (Fresh.rep hf8) (by first | omega | (simp; done) | (simp; omega)) (by first | omega | (simp; done) | (simp; omega))) ?_
        rintro e w15 ⟨rfl, hb15⟩
        have sz15 := hb15.size
        go_wp2_with fail
        refine Calls.mono (toFileS_any _ _ _ _ _ _ _ (h2.keep ((((((((((((((hb1.trans (hb2.mono (by first | omega | (simp; done) | (simp; omega)))).trans (hb3.mono (by first | omega | (simp; done) | (simp; omega)))).trans (hb4.mono (by first | omega | (simp; done) | (simp; omega)))).trans (hb5.mono (by first | omega | (simp; done) | (simp; omega)))).trans (hb6.mono (by first | omega | (simp; done) | (simp; omega)))).trans (hb7.mono (by first | omega | (simp; done) | (simp; omega)))).trans (hb8.mono (by first | omega | (simp; done) | (simp; omega)))).trans (hb9.mono (by first | omega | (simp; done) | (simp; omega)))).trans (hb10.mono (by first | omega | (simp; done) | (simp; omega)))).trans (hb11.mono (by first | omega | (simp; done) | (simp; omega)))).trans (hb12.mono (by first | omega | (simp; done) | (simp; omega)))).trans (hb13.mono (by first | omega | (simp; done) | (simp; omega)))).trans (hb14.mono (by first | omega | (simp; done) | (simp; omega)))).trans (hb15.mono (by first | omega | (simp; done) | (simp; omega)))) (Nat.le_refl _)) (by first | omega | (simp; done) | (simp; omega)) hz_aB) ?_
        rintro e w16 ⟨Af9, nf9, cf9, rfl, hb16, hf9⟩
        have sz16 := hb16.size
        go_wp2_with fail
        refine Calls.mono (eqFileS_any _ _ _ _ _ _ _ _ _ _ _ _ _ ((Fresh.rep hf6).keep (((((hb11.trans (hb12.mono (by first | omega | (simp; done) | (simp; omega)))).trans (hb13.mono (by first | omega | (simp; done) | (simp; omega)))).trans (hb14.mono (by first | omega | (simp; done) | (simp; omega)))).trans (hb15.mono (by first | omega | (simp; done) | (simp; omega)))).trans (hb16.mono (by first | omega | (simp; done) | (simp; omega)))) (Nat.le_refl _)) (Fresh.rep hf9) (by first | omega | (simp; done) | (simp; omega)) (by first | omega | (simp; done) | (simp; omega))) ?_
        rintro e w17 ⟨rfl, hb17⟩
        have sz17 := hb17.size
        go_wp2
        go_ret
        exact ⟨rfl, ((((((((((((((((hb1.trans (hb2.mono (by first | omega | (simp; done) | (simp; omega)))).trans (hb3.mono (by first | omega | (simp; done) | (simp; omega)))).trans (hb4.mono (by first | omega | (simp; done) | (simp; omega)))).trans (hb5.mono (by first | omega | (simp; done) | (simp; omega)))).trans (hb6.mono (by first | omega | (simp; done) | (simp; omega)))).trans (hb7.mono (by first | omega | (simp; done) | (simp; omega)))).trans (hb8.mono (by first | omega | (simp; done) | (simp; omega)))).trans (hb9.mono (by first | omega | (simp; done) | (simp; omega)))).trans (hb10.mono (by first | omega | (simp; done) | (simp; omega)))).trans (hb11.mono (by first | omega | (simp; done) | (simp; omega)))).trans (hb12.mono (by first | omega | (simp; done) | (simp; omega)))).trans (hb13.mono (by first | omega | (simp; done) | (simp; omega)))).trans (hb14.mono (by first | omega | (simp; done) | (simp; omega)))).trans (hb15.mono (by first | omega | (simp; done) | (simp; omega)))).trans (hb16.mono (by first | omega | (simp; done) | (simp; omega)))).trans (hb17.mono (by first | omega | (simp; done) | (simp; omega))))⟩
end Go.Proofs.YtgcioajaglljfaaDoor
