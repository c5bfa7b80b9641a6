/- The walk of the law FnExactJoinOf. Printed by wip/genwalk.py. -/
import Derived.Test.YtgcioajaglljfaaGreatDoorJoinOf
import Derived.Test.YtgcioajaglljfaaGreatDoorSpecJoinOf
import Derived.Test.YtgcioajaglljfaaGreatDoorBndJoin
import Derived.Test.YtgcioajaglljfaaGreatDoorDFile
import Derived.Test.YtgcioajaglljfaaGreatDoorCFile
import Derived.Test.YtgcioajaglljfaaGreatDoorCClash
import Derived.Test.YtgcioajaglljfaaGreatDoorHClash
import Derived.Test.YtgcioajaglljfaaGreatDoorPair
import Derived.Test.YtgcioajaglljfaaGreatDoorJoinAtPlain
namespace Go.Proofs.YtgcioajaglljfaaGreatDoor
open Go.RowKit
set_option maxRecDepth 100000 in
set_option maxHeartbeats 2000000 in
theorem law_XJoinOf (A0 : Option Addr) (n0 c0 : Nat) (xs0 : List PFile) (A1 : Option Addr) (n1 c1 : Nat) (xs1 : List PFile) (A2 : Option Addr) (n2 c2 : Nat) (xs2 : List PFile) (w : World) (h0 : Rep w 0 w.heap.size (encFiles xs0) (.slice A0 n0 c0)) (ok0 : ∀ x ∈ xs0, okFile x) (h1 : Rep w 0 w.heap.size (encFiles xs1) (.slice A1 n1 c1)) (ok1 : ∀ x ∈ xs1, okFile x) (h2 : Rep w 0 w.heap.size (encFiles xs2) (.slice A2 n2 c2)) (ok2 : ∀ x ∈ xs2, okFile x) :
    Calls Tryz.prog 3 #[.slice A0 n0 c0, .slice A1 n1 c1, .slice A2 n2 c2] w fun e w' => e = .returned (.bool true) ∧ Below w.heap.size w w' := by
  go_enter Tryz.func3, Tryz.ntmps3
  go_wp2_with fail
  refine Calls.mono (szFileS_any _ _ _ _ _ _ _ _ h0 (by first | omega | (simp; done) | (simp; omega)) ok0 (by omega) (by omega)) ?_
  rintro e w1 ⟨⟨r1, rfl, rl1, ru1, rz1⟩, hb1⟩
  have sz1 := hb1.size
  by_cases g1 : r1 < 0
  · go_wp2
    go_ret
    exact ⟨rfl, hb1⟩
  ·
    have hz_aO : szFiles xs0 ≤ 1048576 := by have := rz1 (by omega); omega
    have hcnt_aO := cntFiles_le xs0
    clear rz1
    go_wp2_with fail
    refine Calls.mono (szFileS_any _ _ _ _ _ _ _ _ (h1.keep hb1 (Nat.le_refl _)) (by first | omega | (simp; done) | (simp; omega)) ok1 (by omega) (by omega)) ?_
    rintro e w2 ⟨⟨r2, rfl, rl2, ru2, rz2⟩, hb2⟩
    have sz2 := hb2.size
    by_cases g2 : r2 < 0
    · go_wp2
      go_ret
      exact ⟨rfl, (hb1.trans (hb2.mono (by first | omega | (simp; done) | (simp; omega))))⟩
    ·
      have hz_aA : szFiles xs1 ≤ 1048576 := by have := rz2 (by omega); omega
      have hcnt_aA := cntFiles_le xs1
      clear rz2
      go_wp2_with fail
      refine Calls.mono (szFileS_any _ _ _ _ _ _ _ _ (h2.keep (hb1.trans (hb2.mono (by first | omega | (simp; done) | (simp; omega)))) (Nat.le_refl _)) (by first | omega | (simp; done) | (simp; omega)) ok2 (by omega) (by omega)) ?_
      rintro e w3 ⟨⟨r3, rfl, rl3, ru3, rz3⟩, hb3⟩
      have sz3 := hb3.size
      by_cases g3 : r3 < 0
      · go_wp2
        go_ret
        exact ⟨rfl, ((hb1.trans (hb2.mono (by first | omega | (simp; done) | (simp; omega)))).trans (hb3.mono (by first | omega | (simp; done) | (simp; omega))))⟩
      ·
        have hz_aB : szFiles xs2 ≤ 1048576 := by have := rz3 (by omega); omega
        have hcnt_aB := cntFiles_le xs2
        clear rz3
        go_wp2_with fail
        refine Calls.mono (toFileS_any _ _ _ _ _ _ _ (h0.keep ((hb1.trans (hb2.mono (by first | omega | (simp; done) | (simp; omega)))).trans (hb3.mono (by first | omega | (simp; done) | (simp; omega)))) (Nat.le_refl _)) (by first | omega | (simp; done) | (simp; omega)) hz_aO) ?_
        rintro e w4 ⟨Af1, nf1, cf1, rfl, hb4, hf1⟩
        have sz4 := hb4.size
        go_wp2_with fail
        refine Calls.mono (toFileS_any _ _ _ _ _ _ _ (h1.keep (((hb1.trans (hb2.mono (by first | omega | (simp; done) | (simp; omega)))).trans (hb3.mono (by first | omega | (simp; done) | (simp; omega)))).trans (hb4.mono (by first | omega | (simp; done) | (simp; omega)))) (Nat.le_refl _)) (by first | omega | (simp; done) | (simp; omega)) hz_aA) ?_
        rintro e w5 ⟨Af2, nf2, cf2, rfl, hb5, hf2⟩
        have sz5 := hb5.size
        go_wp2_with fail
        refine Calls.mono (toFileS_any _ _ _ _ _ _ _ (h2.keep ((((hb1.trans (hb2.mono (by first | omega | (simp; done) | (simp; omega)))).trans (hb3.mono (by first | omega | (simp; done) | (simp; omega)))).trans (hb4.mono (by first | omega | (simp; done) | (simp; omega)))).trans (hb5.mono (by first | omega | (simp; done) | (simp; omega)))) (Nat.le_refl _)) (by first | omega | (simp; done) | (simp; omega)) hz_aB) ?_
        rintro e w6 ⟨Af3, nf3, cf3, rfl, hb6, hf3⟩
        have sz6 := hb6.size
        go_wp2_with fail
        refine Calls.mono (spec_JoinOf_any _ _ _ _ _ _ _ _ _ _ _ _ _ _ _ _ _ _ _ ((Fresh.rep hf1).keep (hb5.trans (hb6.mono (by first | omega | (simp; done) | (simp; omega)))) (Nat.le_refl _)) ((Fresh.rep hf2).keep hb6 (Nat.le_refl _)) (Fresh.rep hf3) (by first | omega | (simp; done) | (simp; omega)) (by first | omega | (simp; done) | (simp; omega)) (by first | omega | (simp; done) | (simp; omega)) (okTree_of ok0 hz_aO) (okTree_of ok1 hz_aA) (okTree_of ok2 hz_aB)) ?_
        rintro e w7 ⟨Af4, nf4, cf4, Ag4, ng4, cg4, rfl, hb7, hf4⟩
        have sz7 := hb7.size
        have hf5 := hf4.fst.rep
        have hf6 := hf4.swap.fst.rep
        go_wp2_with fail
        refine Calls.mono (toFileS_any _ _ _ _ _ _ _ (h0.keep ((((((hb1.trans (hb2.mono (by first | omega | (simp; done) | (simp; omega)))).trans (hb3.mono (by first | omega | (simp; done) | (simp; omega)))).trans (hb4.mono (by first | omega | (simp; done) | (simp; omega)))).trans (hb5.mono (by first | omega | (simp; done) | (simp; omega)))).trans (hb6.mono (by first | omega | (simp; done) | (simp; omega)))).trans (hb7.mono (by first | omega | (simp; done) | (simp; omega)))) (Nat.le_refl _)) (by first | omega | (simp; done) | (simp; omega)) hz_aO) ?_
        rintro e w8 ⟨Af7, nf7, cf7, rfl, hb8, hf7⟩
        have sz8 := hb8.size
        go_wp2_with fail
        refine Calls.mono (toFileS_any _ _ _ _ _ _ _ (h1.keep (((((((hb1.trans (hb2.mono (by first | omega | (simp; done) | (simp; omega)))).trans (hb3.mono (by first | omega | (simp; done) | (simp; omega)))).trans (hb4.mono (by first | omega | (simp; done) | (simp; omega)))).trans (hb5.mono (by first | omega | (simp; done) | (simp; omega)))).trans (hb6.mono (by first | omega | (simp; done) | (simp; omega)))).trans (hb7.mono (by first | omega | (simp; done) | (simp; omega)))).trans (hb8.mono (by first | omega | (simp; done) | (simp; omega)))) (Nat.le_refl _)) (by first | omega | (simp; done) | (simp; omega)) hz_aA) ?_
        rintro e w9 ⟨Af8, nf8, cf8, rfl, hb9, hf8⟩
        have sz9 := hb9.size
        go_wp2_with fail
        refine Calls.mono (toFileS_any _ _ _ _ _ _ _ (h2.keep ((((((((hb1.trans (hb2.mono (by first | omega | (simp; done) | (simp; omega)))).trans (hb3.mono (by first | omega | (simp; done) | (simp; omega)))).trans (hb4.mono (by first | omega | (simp; done) | (simp; omega)))).trans (hb5.mono (by first | omega | (simp; done) | (simp; omega)))).trans (hb6.mono (by first | omega | (simp; done) | (simp; omega)))).trans (hb7.mono (by first | omega | (simp; done) | (simp; omega)))).trans (hb8.mono (by first | omega | (simp; done) | (simp; omega)))).trans (hb9.mono (by first | omega | (simp; done) | (simp; omega)))) (Nat.le_refl _)) (by first | omega | (simp; done) | (simp; omega)) hz_aB) ?_
        rintro e w10 ⟨Af9, nf9, cf9, rfl, hb10, hf9⟩
        have sz10 := hb10.size
        go_wp2_with fail
        refine Calls.mono (impl_JoinOf_any _ _ _ _ _ _ _ _ _ _ _ _ _ _ _ _ _ _ _ ((Fresh.rep hf7).keep (hb9.trans (hb10.mono (by first | omega | (simp; done) | (simp; omega)))) (Nat.le_refl _)) ((Fresh.rep hf8).keep hb10 (Nat.le_refl _)) (Fresh.rep hf9) (by first | omega | (simp; done) | (simp; omega)) (by first | omega | (simp; done) | (simp; omega)) (by first | omega | (simp; done) | (simp; omega)) (okTree_of ok0 hz_aO) (okTree_of ok1 hz_aA) (okTree_of ok2 hz_aB)) ?_
        rintro e w11 ⟨Af10, nf10, cf10, Ag10, ng10, cg10, rfl, hb11, hf10⟩
        have sz11 := hb11.size
        have hf11 := hf10.fst
        have hf12 := hf10.swap.fst
        have bnd := bnd_JoinOf xs0 xs1 xs2
        go_wp2_with fail
        refine Calls.mono (eqFileS_any _ _ _ _ _ _ _ _ _ _ _ _ _ (Fresh.rep hf11) (hf5.keep (((hb8.trans (hb9.mono (by first | omega | (simp; done) | (simp; omega)))).trans (hb10.mono (by first | omega | (simp; done) | (simp; omega)))).trans (hb11.mono (by first | omega | (simp; done) | (simp; omega)))) (Nat.le_refl _)) (by first | omega | (simp; done) | (simp; omega)) (by first | omega | (simp; done) | (simp; omega))) ?_
        rintro e w12 ⟨rfl, hb12⟩
        have sz12 := hb12.size
        go_wp2_with fail
        refine Calls.mono (eqClashS_any _ _ _ _ _ _ _ _ _ _ _ _ _ ((Fresh.rep hf12).keep hb12 (Nat.le_refl _)) (hf6.keep ((((hb8.trans (hb9.mono (by first | omega | (simp; done) | (simp; omega)))).trans (hb10.mono (by first | omega | (simp; done) | (simp; omega)))).trans (hb11.mono (by first | omega | (simp; done) | (simp; omega)))).trans (hb12.mono (by first | omega | (simp; done) | (simp; omega)))) (Nat.le_refl _)) (by first | omega | (simp; done) | (simp; omega)) (by first | omega | (simp; done) | (simp; omega))) ?_
        rintro e w13 ⟨rfl, hb13⟩
        have sz13 := hb13.size
        go_wp2_with fail
        refine Calls.mono (toFileS_any _ _ _ _ _ _ _ (h0.keep ((((((((((((hb1.trans (hb2.mono (by first | omega | (simp; done) | (simp; omega)))).trans (hb3.mono (by first | omega | (simp; done) | (simp; omega)))).trans (hb4.mono (by first | omega | (simp; done) | (simp; omega)))).trans (hb5.mono (by first | omega | (simp; done) | (simp; omega)))).trans (hb6.mono (by first | omega | (simp; done) | (simp; omega)))).trans (hb7.mono (by first | omega | (simp; done) | (simp; omega)))).trans (hb8.mono (by first | omega | (simp; done) | (simp; omega)))).trans (hb9.mono (by first | omega | (simp; done) | (simp; omega)))).trans (hb10.mono (by first | omega | (simp; done) | (simp; omega)))).trans (hb11.mono (by first | omega | (simp; done) | (simp; omega)))).trans (hb12.mono (by first | omega | (simp; done) | (simp; omega)))).trans (hb13.mono (by first | omega | (simp; done) | (simp; omega)))) (Nat.le_refl _)) (by first | omega | (simp; done) | (simp; omega)) hz_aO) ?_
        rintro e w14 ⟨Af13, nf13, cf13, rfl, hb14, hf13⟩
        have sz14 := hb14.size
        go_wp2_with fail
        refine Calls.mono (eqFileS_any _ _ _ _ _ _ _ _ _ _ _ _ _ ((Fresh.rep hf7).keep (((((hb9.trans (hb10.mono (by first | omega | (simp; done) | (simp; omega)))).trans (hb11.mono (by first | omega | (simp; done) | (simp; omega)))).trans (hb12.mono (by first | omega | (simp; done) | (simp; omega)))).trans (hb13.mono (by first | omega | (simp; done) | (simp; omega)))).trans (hb14.mono (by first | omega | (simp; done) | (simp; omega)))) (Nat.le_refl _)) (Fresh.rep hf13) (by first | omega | (simp; done) | (simp; omega)) (by first | omega | (simp; done) | (simp; omega))) ?_
        rintro e w15 ⟨rfl, hb15⟩
        have sz15 := hb15.size
        go_wp2_with fail
        refine Calls.mono (toFileS_any _ _ _ _ _ _ _ (h1.keep ((((((((((((((hb1.trans (hb2.mono (by first | omega | (simp; done) | (simp; omega)))).trans (hb3.mono (by first | omega | (simp; done) | (simp; omega)))).trans (hb4.mono (by first | omega | (simp; done) | (simp; omega)))).trans (hb5.mono (by first | omega | (simp; done) | (simp; omega)))).trans (hb6.mono (by first | omega | (simp; done) | (simp; omega)))).trans (hb7.mono (by first | omega | (simp; done) | (simp; omega)))).trans (hb8.mono (by first | omega | (simp; done) | (simp; omega)))).trans (hb9.mono (by first | omega | (simp; done) | (simp; omega)))).trans (hb10.mono (by first | omega | (simp; done) | (simp; omega)))).trans (hb11.mono (by first | omega | (simp; done) | (simp; omega)))).trans (hb12.mono (by first | omega | (simp; done) | (simp; omega)))).trans (hb13.mono (by first | omega | (simp; done) | (simp; omega)))).trans (hb14.mono (by first | omega | (simp; done) | (simp; omega)))).trans (hb15.mono (by first | omega | (simp; done) | (simp; omega)))) (Nat.le_refl _)) (by first | omega | (simp; done) | (simp; omega)) hz_aA) ?_
        rintro e w16 ⟨Af14, nf14, cf14, rfl, hb16, hf14⟩
        have sz16 := hb16.size
        go_wp2_with fail
        refine Calls.mono (eqFileS_any _ _ _ _ _ _ _ _ _ _ _ _ _ ((Fresh.rep hf8).keep ((((((hb10.trans (hb11.mono (by first | omega | (simp; done) | (simp; omega)))).trans (hb12.mono (by first | omega | (simp; done) | (simp; omega)))).trans (hb13.mono (by first | omega | (simp; done) | (simp; omega)))).trans (hb14.mono (by first | omega | (simp; done) | (simp; omega)))).trans (hb15.mono (by first | omega | (simp; done) | (simp; omega)))).trans (hb16.mono (by first | omega | (simp; done) | (simp; omega)))) (Nat.le_refl _)) (Fresh.rep hf14) (by first | omega | (simp; done) | (simp; omega)) (by first | omega | (simp; done) | (simp; omega))) ?_
        rintro e w17 ⟨rfl, hb17⟩
        have sz17 := hb17.size
        go_wp2_with fail
        refine Calls.mono (toFileS_any _ _ _ _ _ _ _ (h2.keep ((((((((((((((((hb1.trans (hb2.mono (by first | omega | (simp; done) | (simp; omega)))).trans (hb3.mono (by first | omega | (simp; done) | (simp; omega)))).trans (hb4.mono (by first | omega | (simp; done) | (simp; omega)))).trans (hb5.mono (by first | omega | (simp; done) | (simp; omega)))).trans (hb6.mono (by first | omega | (simp; done) | (simp; omega)))).trans (hb7.mono (by first | omega | (simp; done) | (simp; omega)))).trans (hb8.mono (by first | omega | (simp; done) | (simp; omega)))).trans (hb9.mono (by first | omega | (simp; done) | (simp; omega)))).trans (hb10.mono (by first | omega | (simp; done) | (simp; omega)))).trans (hb11.mono (by first | omega | (simp; done) | (simp; omega)))).trans (hb12.mono (by first | omega | (simp; done) | (simp; omega)))).trans (hb13.mono (by first | omega | (simp; done) | (simp; omega)))).trans (hb14.mono (by first | omega | (simp; done) | (simp; omega)))).trans (hb15.mono (by first | omega | (simp; done) | (simp; omega)))).trans (hb16.mono (by first | omega | (simp; done) | (simp; omega)))).trans (hb17.mono (by first | omega | (simp; done) | (simp; omega)))) (Nat.le_refl _)) (by first | omega | (simp; done) | (simp; omega)) hz_aB) ?_
        rintro e w18 ⟨Af15, nf15, cf15, rfl, hb18, hf15⟩
        have sz18 := hb18.size
        go_wp2_with fail
        refine Calls.mono (eqFileS_any _ _ _ _ _ _ _ _ _ _ _ _ _ ((Fresh.rep hf9).keep (((((((hb11.trans (hb12.mono (by first | omega | (simp; done) | (simp; omega)))).trans (hb13.mono (by first | omega | (simp; done) | (simp; omega)))).trans (hb14.mono (by first | omega | (simp; done) | (simp; omega)))).trans (hb15.mono (by first | omega | (simp; done) | (simp; omega)))).trans (hb16.mono (by first | omega | (simp; done) | (simp; omega)))).trans (hb17.mono (by first | omega | (simp; done) | (simp; omega)))).trans (hb18.mono (by first | omega | (simp; done) | (simp; omega)))) (Nat.le_refl _)) (Fresh.rep hf15) (by first | omega | (simp; done) | (simp; omega)) (by first | omega | (simp; done) | (simp; omega))) ?_
        rintro e w19 ⟨rfl, hb19⟩
        have sz19 := hb19.size
        have hf16 := Fresh.keep hf7 ((((((((((hb9.trans (hb10.mono (by first | omega | (simp; done) | (simp; omega)))).trans (hb11.mono (by first | omega | (simp; done) | (simp; omega)))).trans (hb12.mono (by first | omega | (simp; done) | (simp; omega)))).trans (hb13.mono (by first | omega | (simp; done) | (simp; omega)))).trans (hb14.mono (by first | omega | (simp; done) | (simp; omega)))).trans (hb15.mono (by first | omega | (simp; done) | (simp; omega)))).trans (hb16.mono (by first | omega | (simp; done) | (simp; omega)))).trans (hb17.mono (by first | omega | (simp; done) | (simp; omega)))).trans (hb18.mono (by first | omega | (simp; done) | (simp; omega)))).trans (hb19.mono (by first | omega | (simp; done) | (simp; omega)))) (Nat.le_refl _)
        have hf17 := Fresh.keep hf8 (((((((((hb10.trans (hb11.mono (by first | omega | (simp; done) | (simp; omega)))).trans (hb12.mono (by first | omega | (simp; done) | (simp; omega)))).trans (hb13.mono (by first | omega | (simp; done) | (simp; omega)))).trans (hb14.mono (by first | omega | (simp; done) | (simp; omega)))).trans (hb15.mono (by first | omega | (simp; done) | (simp; omega)))).trans (hb16.mono (by first | omega | (simp; done) | (simp; omega)))).trans (hb17.mono (by first | omega | (simp; done) | (simp; omega)))).trans (hb18.mono (by first | omega | (simp; done) | (simp; omega)))).trans (hb19.mono (by first | omega | (simp; done) | (simp; omega)))) (Nat.le_refl _)
        have hf18 := Fresh.keep hf9 ((((((((hb11.trans (hb12.mono (by first | omega | (simp; done) | (simp; omega)))).trans (hb13.mono (by first | omega | (simp; done) | (simp; omega)))).trans (hb14.mono (by first | omega | (simp; done) | (simp; omega)))).trans (hb15.mono (by first | omega | (simp; done) | (simp; omega)))).trans (hb16.mono (by first | omega | (simp; done) | (simp; omega)))).trans (hb17.mono (by first | omega | (simp; done) | (simp; omega)))).trans (hb18.mono (by first | omega | (simp; done) | (simp; omega)))).trans (hb19.mono (by first | omega | (simp; done) | (simp; omega)))) (Nat.le_refl _)
        have hf19 := Fresh.keep hf11 (((((((hb12.trans (hb13.mono (by first | omega | (simp; done) | (simp; omega)))).trans (hb14.mono (by first | omega | (simp; done) | (simp; omega)))).trans (hb15.mono (by first | omega | (simp; done) | (simp; omega)))).trans (hb16.mono (by first | omega | (simp; done) | (simp; omega)))).trans (hb17.mono (by first | omega | (simp; done) | (simp; omega)))).trans (hb18.mono (by first | omega | (simp; done) | (simp; omega)))).trans (hb19.mono (by first | omega | (simp; done) | (simp; omega)))) (Nat.le_refl _)
        have hf20 := Rep.keep hf5 (((((((((((hb8.trans (hb9.mono (by first | omega | (simp; done) | (simp; omega)))).trans (hb10.mono (by first | omega | (simp; done) | (simp; omega)))).trans (hb11.mono (by first | omega | (simp; done) | (simp; omega)))).trans (hb12.mono (by first | omega | (simp; done) | (simp; omega)))).trans (hb13.mono (by first | omega | (simp; done) | (simp; omega)))).trans (hb14.mono (by first | omega | (simp; done) | (simp; omega)))).trans (hb15.mono (by first | omega | (simp; done) | (simp; omega)))).trans (hb16.mono (by first | omega | (simp; done) | (simp; omega)))).trans (hb17.mono (by first | omega | (simp; done) | (simp; omega)))).trans (hb18.mono (by first | omega | (simp; done) | (simp; omega)))).trans (hb19.mono (by first | omega | (simp; done) | (simp; omega)))) (Nat.le_refl _)
        have hf21 := Rep.keep hf6 (((((((((((hb8.trans (hb9.mono (by first | omega | (simp; done) | (simp; omega)))).trans (hb10.mono (by first | omega | (simp; done) | (simp; omega)))).trans (hb11.mono (by first | omega | (simp; done) | (simp; omega)))).trans (hb12.mono (by first | omega | (simp; done) | (simp; omega)))).trans (hb13.mono (by first | omega | (simp; done) | (simp; omega)))).trans (hb14.mono (by first | omega | (simp; done) | (simp; omega)))).trans (hb15.mono (by first | omega | (simp; done) | (simp; omega)))).trans (hb16.mono (by first | omega | (simp; done) | (simp; omega)))).trans (hb17.mono (by first | omega | (simp; done) | (simp; omega)))).trans (hb18.mono (by first | omega | (simp; done) | (simp; omega)))).trans (hb19.mono (by first | omega | (simp; done) | (simp; omega)))) (Nat.le_refl _)
        have hf22 := Fresh.keep hf12 (((((((hb12.trans (hb13.mono (by first | omega | (simp; done) | (simp; omega)))).trans (hb14.mono (by first | omega | (simp; done) | (simp; omega)))).trans (hb15.mono (by first | omega | (simp; done) | (simp; omega)))).trans (hb16.mono (by first | omega | (simp; done) | (simp; omega)))).trans (hb17.mono (by first | omega | (simp; done) | (simp; omega)))).trans (hb18.mono (by first | omega | (simp; done) | (simp; omega)))).trans (hb19.mono (by first | omega | (simp; done) | (simp; omega)))) (Nat.le_refl _)
        have hf23 := FreshL.same hf10 (.of_below (((((((hb12.trans (hb13.mono (by first | omega | (simp; done) | (simp; omega)))).trans (hb14.mono (by first | omega | (simp; done) | (simp; omega)))).trans (hb15.mono (by first | omega | (simp; done) | (simp; omega)))).trans (hb16.mono (by first | omega | (simp; done) | (simp; omega)))).trans (hb17.mono (by first | omega | (simp; done) | (simp; omega)))).trans (hb18.mono (by first | omega | (simp; done) | (simp; omega)))).trans (hb19.mono (by first | omega | (simp; done) | (simp; omega)))) (Nat.le_refl _))
        obtain ⟨FF1, fo1, fn1, fb1⟩ := hf16
        go_wp2_with fail
        refine Calls.mono (markFileS_any _ _ _ _ _ _ _ fo1 fn1 (by omega) (by omega)) ?_
        rintro e w20 ⟨rfl, fp1, hon1⟩
        have hb20 : Below w7.heap.size w19 w20 := hon1.below (fun z hz => (fb1 z hz).1) (by first | omega | (simp; done) | (simp; omega))
        have hf24 := (⟨FF1, fp1, fn1, fb1⟩ : Fresh w20 (w7.heap.size) (w8.heap.size) _ _)
        have hf25 := Fresh.same hf17 (hon1.same (fun z hz => by have := fb1 z hz; omega) (by first | omega | (simp; done) | (simp; omega)))
        have hf26 := Fresh.same hf18 (hon1.same (fun z hz => by have := fb1 z hz; omega) (by first | omega | (simp; done) | (simp; omega)))
        have hf27 := Fresh.same hf19 (hon1.same (fun z hz => by have := fb1 z hz; omega) (by first | omega | (simp; done) | (simp; omega)))
        have hf28 := Rep.same hf20 (hon1.same (fun z hz => by have := fb1 z hz; omega) (by first | omega | (simp; done) | (simp; omega)))
        have hf29 := Rep.same hf21 (hon1.same (fun z hz => by have := fb1 z hz; omega) (by first | omega | (simp; done) | (simp; omega)))
        have hf30 := Fresh.same hf22 (hon1.same (fun z hz => by have := fb1 z hz; omega) (by first | omega | (simp; done) | (simp; omega)))
        have hf31 := FreshL.same hf23 (hon1.same (fun z hz => by have := fb1 z hz; omega) (by first | omega | (simp; done) | (simp; omega)))
        have sz20 := hb20.size
        clear hon1 fo1 fp1 fn1 fb1
        obtain ⟨FF2, fo2, fn2, fb2⟩ := hf25
        go_wp2_with fail
        refine Calls.mono (markFileS_any _ _ _ _ _ _ _ fo2 fn2 (by omega) (by omega)) ?_
        rintro e w21 ⟨rfl, fp2, hon2⟩
        have hb21 : Below w8.heap.size w20 w21 := hon2.below (fun z hz => (fb2 z hz).1) (by first | omega | (simp; done) | (simp; omega))
        have hf32 := Fresh.same hf24 (hon2.same (fun z hz => by have := fb2 z hz; omega) (by first | omega | (simp; done) | (simp; omega)))
        have hf33 := (⟨FF2, fp2, fn2, fb2⟩ : Fresh w21 (w8.heap.size) (w9.heap.size) _ _)
        have hf34 := Fresh.same hf26 (hon2.same (fun z hz => by have := fb2 z hz; omega) (by first | omega | (simp; done) | (simp; omega)))
        have hf35 := Fresh.same hf27 (hon2.same (fun z hz => by have := fb2 z hz; omega) (by first | omega | (simp; done) | (simp; omega)))
        have hf36 := Rep.same hf28 (hon2.same (fun z hz => by have := fb2 z hz; omega) (by first | omega | (simp; done) | (simp; omega)))
        have hf37 := Rep.same hf29 (hon2.same (fun z hz => by have := fb2 z hz; omega) (by first | omega | (simp; done) | (simp; omega)))
        have hf38 := Fresh.same hf30 (hon2.same (fun z hz => by have := fb2 z hz; omega) (by first | omega | (simp; done) | (simp; omega)))
        have hf39 := FreshL.same hf31 (hon2.same (fun z hz => by have := fb2 z hz; omega) (by first | omega | (simp; done) | (simp; omega)))
        have sz21 := hb21.size
        clear hon2 fo2 fp2 fn2 fb2
        obtain ⟨FF3, fo3, fn3, fb3⟩ := hf34
        go_wp2_with fail
        refine Calls.mono (markFileS_any _ _ _ _ _ _ _ fo3 fn3 (by omega) (by omega)) ?_
        rintro e w22 ⟨rfl, fp3, hon3⟩
        have hb22 : Below w9.heap.size w21 w22 := hon3.below (fun z hz => (fb3 z hz).1) (by first | omega | (simp; done) | (simp; omega))
        have hf40 := Fresh.same hf32 (hon3.same (fun z hz => by have := fb3 z hz; omega) (by first | omega | (simp; done) | (simp; omega)))
        have hf41 := Fresh.same hf33 (hon3.same (fun z hz => by have := fb3 z hz; omega) (by first | omega | (simp; done) | (simp; omega)))
        have hf42 := (⟨FF3, fp3, fn3, fb3⟩ : Fresh w22 (w9.heap.size) (w10.heap.size) _ _)
        have hf43 := Fresh.same hf35 (hon3.same (fun z hz => by have := fb3 z hz; omega) (by first | omega | (simp; done) | (simp; omega)))
        have hf44 := Rep.same hf36 (hon3.same (fun z hz => by have := fb3 z hz; omega) (by first | omega | (simp; done) | (simp; omega)))
        have hf45 := Rep.same hf37 (hon3.same (fun z hz => by have := fb3 z hz; omega) (by first | omega | (simp; done) | (simp; omega)))
        have hf46 := Fresh.same hf38 (hon3.same (fun z hz => by have := fb3 z hz; omega) (by first | omega | (simp; done) | (simp; omega)))
        have hf47 := FreshL.same hf39 (hon3.same (fun z hz => by have := fb3 z hz; omega) (by first | omega | (simp; done) | (simp; omega)))
        have sz22 := hb22.size
        clear hon3 fo3 fp3 fn3 fb3
        go_wp2_with fail
        refine Calls.mono (eqFileS_any _ _ _ _ _ _ _ _ _ _ _ _ _ (Fresh.rep hf43) hf44 (by first | omega | (simp; done) | (simp; omega)) (by first | omega | (simp; done) | (simp; omega))) ?_
        rintro e w23 ⟨rfl, hb23⟩
        have sz23 := hb23.size
        go_wp2_with fail
        refine Calls.mono (eqClashS_any _ _ _ _ _ _ _ _ _ _ _ _ _ ((Fresh.rep hf46).keep hb23 (by first | omega | (simp; done) | (simp; omega))) (hf45.keep hb23 (by first | omega | (simp; done) | (simp; omega))) (by first | omega | (simp; done) | (simp; omega)) (by first | omega | (simp; done) | (simp; omega))) ?_
        rintro e w24 ⟨rfl, hb24⟩
        have sz24 := hb24.size
        have hf48 := Fresh.keep hf40 (hb23.trans (hb24.mono (by first | omega | (simp; done) | (simp; omega)))) (by first | omega | (simp; done) | (simp; omega))
        have hf49 := Fresh.keep hf41 (hb23.trans (hb24.mono (by first | omega | (simp; done) | (simp; omega)))) (by first | omega | (simp; done) | (simp; omega))
        have hf50 := Fresh.keep hf42 (hb23.trans (hb24.mono (by first | omega | (simp; done) | (simp; omega)))) (by first | omega | (simp; done) | (simp; omega))
        have hf51 := Fresh.keep hf43 (hb23.trans (hb24.mono (by first | omega | (simp; done) | (simp; omega)))) (by first | omega | (simp; done) | (simp; omega))
        have hf52 := Rep.keep hf44 (hb23.trans (hb24.mono (by first | omega | (simp; done) | (simp; omega)))) (by first | omega | (simp; done) | (simp; omega))
        have hf53 := Rep.keep hf45 (hb23.trans (hb24.mono (by first | omega | (simp; done) | (simp; omega)))) (by first | omega | (simp; done) | (simp; omega))
        have hf54 := Fresh.keep hf46 (hb23.trans (hb24.mono (by first | omega | (simp; done) | (simp; omega)))) (by first | omega | (simp; done) | (simp; omega))
        have hf55 := FreshL.same hf47 (.of_below (hb23.trans (hb24.mono (by first | omega | (simp; done) | (simp; omega)))) (by first | omega | (simp; done) | (simp; omega)))
        go_wp2_with fail
        refine Calls.mono (FreshL.markFst hf55 (fun F fo fn => markFileS_any _ _ _ _ _ _ _ fo fn (by omega) (by omega))) ?_
        rintro e w25 ⟨rfl, hf56, FF4, fb4, hon4⟩
        have hb25 : Below w10.heap.size w24 w25 := hon4.below (fun z hz => (fb4 z hz).1) (by first | omega | (simp; done) | (simp; omega))
        have hf57 := Fresh.same hf48 (hon4.same (fun z hz => by have := fb4 z hz; omega) (by first | omega | (simp; done) | (simp; omega)))
        have hf58 := Fresh.same hf49 (hon4.same (fun z hz => by have := fb4 z hz; omega) (by first | omega | (simp; done) | (simp; omega)))
        have hf59 := Fresh.same hf50 (hon4.same (fun z hz => by have := fb4 z hz; omega) (by first | omega | (simp; done) | (simp; omega)))
        have hf60 := Rep.same hf52 (hon4.same (fun z hz => by have := fb4 z hz; omega) (by first | omega | (simp; done) | (simp; omega)))
        have hf61 := Rep.same hf53 (hon4.same (fun z hz => by have := fb4 z hz; omega) (by first | omega | (simp; done) | (simp; omega)))
        have hf62 := hf56
        have hf63 := hf62.fst
        have hf64 := hf62.swap.fst
        have sz25 := hb25.size
        clear hon4 fb4
        go_wp2_with fail
        refine Calls.mono (FreshL.markFst hf62.swap (fun F fo fn => markClashS_any _ _ _ _ _ _ _ fo fn (by omega) (by omega))) ?_
        rintro e w26 ⟨rfl, hf65, FF5, fb5, hon5⟩
        have hb26 : Below w10.heap.size w25 w26 := hon5.below (fun z hz => (fb5 z hz).1) (by first | omega | (simp; done) | (simp; omega))
        have hf66 := Fresh.same hf57 (hon5.same (fun z hz => by have := fb5 z hz; omega) (by first | omega | (simp; done) | (simp; omega)))
        have hf67 := Fresh.same hf58 (hon5.same (fun z hz => by have := fb5 z hz; omega) (by first | omega | (simp; done) | (simp; omega)))
        have hf68 := Fresh.same hf59 (hon5.same (fun z hz => by have := fb5 z hz; omega) (by first | omega | (simp; done) | (simp; omega)))
        have hf69 := Rep.same hf60 (hon5.same (fun z hz => by have := fb5 z hz; omega) (by first | omega | (simp; done) | (simp; omega)))
        have hf70 := Rep.same hf61 (hon5.same (fun z hz => by have := fb5 z hz; omega) (by first | omega | (simp; done) | (simp; omega)))
        have hf71 := hf65.swap
        have hf72 := hf71.fst
        have hf73 := hf71.swap.fst
        have sz26 := hb26.size
        clear hon5 fb5
        go_wp2_with fail
        refine Calls.mono (heldFileS_any _ _ _ _ _ _ _ _ (Fresh.rep hf72) (by first | omega | (simp; done) | (simp; omega)) (by omega) (by omega)) ?_
        rintro e w27 ⟨rfl, hb27⟩
        have sz27 := hb27.size
        go_wp2_with fail
        refine Calls.mono (heldClashS_any _ _ _ _ _ _ _ _ ((Fresh.rep hf73).keep hb27 (by first | omega | (simp; done) | (simp; omega))) (by first | omega | (simp; done) | (simp; omega)) (by omega) (by omega)) ?_
        rintro e w28 ⟨rfl, hb28⟩
        have sz28 := hb28.size
        go_wp2_with fail
        refine Calls.mono (toFileS_any _ _ _ _ _ _ _ (h0.keep (((((((((((((((((((((((((((hb1.trans (hb2.mono (by first | omega | (simp; done) | (simp; omega)))).trans (hb3.mono (by first | omega | (simp; done) | (simp; omega)))).trans (hb4.mono (by first | omega | (simp; done) | (simp; omega)))).trans (hb5.mono (by first | omega | (simp; done) | (simp; omega)))).trans (hb6.mono (by first | omega | (simp; done) | (simp; omega)))).trans (hb7.mono (by first | omega | (simp; done) | (simp; omega)))).trans (hb8.mono (by first | omega | (simp; done) | (simp; omega)))).trans (hb9.mono (by first | omega | (simp; done) | (simp; omega)))).trans (hb10.mono (by first | omega | (simp; done) | (simp; omega)))).trans (hb11.mono (by first | omega | (simp; done) | (simp; omega)))).trans (hb12.mono (by first | omega | (simp; done) | (simp; omega)))).trans (hb13.mono (by first | omega | (simp; done) | (simp; omega)))).trans (hb14.mono (by first | omega | (simp; done) | (simp; omega)))).trans (hb15.mono (by first | omega | (simp; done) | (simp; omega)))).trans (hb16.mono (by first | omega | (simp; done) | (simp; omega)))).trans (hb17.mono (by first | omega | (simp; done) | (simp; omega)))).trans (hb18.mono (by first | omega | (simp; done) | (simp; omega)))).trans (hb19.mono (by first | omega | (simp; done) | (simp; omega)))).trans (hb20.mono (by first | omega | (simp; done) | (simp; omega)))).trans (hb21.mono (by first | omega | (simp; done) | (simp; omega)))).trans (hb22.mono (by first | omega | (simp; done) | (simp; omega)))).trans (hb23.mono (by first | omega | (simp; done) | (simp; omega)))).trans (hb24.mono (by first | omega | (simp; done) | (simp; omega)))).trans (hb25.mono (by first | omega | (simp; done) | (simp; omega)))).trans (hb26.mono (by first | omega | (simp; done) | (simp; omega)))).trans (hb27.mono (by first | omega | (simp; done) | (simp; omega)))).trans (hb28.mono (by first | omega | (simp; done) | (simp; omega)))) (Nat.le_refl _)) (by first | omega | (simp; done) | (simp; omega)) hz_aO) ?_
        rintro e w29 ⟨Af74, nf74, cf74, rfl, hb29, hf74⟩
        have sz29 := hb29.size
        go_wp2_with fail
        refine Calls.mono (toFileS_any _ _ _ _ _ _ _ (h1.keep ((((((((((((((((((((((((((((hb1.trans (hb2.mono (by first | omega | (simp; done) | (simp; omega)))).trans (hb3.mono (by first | omega | (simp; done) | (simp; omega)))).trans (hb4.mono (by first | omega | (simp; done) | (simp; omega)))).trans (hb5.mono (by first | omega | (simp; done) | (simp; omega)))).trans (hb6.mono (by first | omega | (simp; done) | (simp; omega)))).trans (hb7.mono (by first | omega | (simp; done) | (simp; omega)))).trans (hb8.mono (by first | omega | (simp; done) | (simp; omega)))).trans (hb9.mono (by first | omega | (simp; done) | (simp; omega)))).trans (hb10.mono (by first | omega | (simp; done) | (simp; omega)))).trans (hb11.mono (by first | omega | (simp; done) | (simp; omega)))).trans (hb12.mono (by first | omega | (simp; done) | (simp; omega)))).trans (hb13.mono (by first | omega | (simp; done) | (simp; omega)))).trans (hb14.mono (by first | omega | (simp; done) | (simp; omega)))).trans (hb15.mono (by first | omega | (simp; done) | (simp; omega)))).trans (hb16.mono (by first | omega | (simp; done) | (simp; omega)))).trans (hb17.mono (by first | omega | (simp; done) | (simp; omega)))).trans (hb18.mono (by first | omega | (simp; done) | (simp; omega)))).trans (hb19.mono (by first | omega | (simp; done) | (simp; omega)))).trans (hb20.mono (by first | omega | (simp; done) | (simp; omega)))).trans (hb21.mono (by first | omega | (simp; done) | (simp; omega)))).trans (hb22.mono (by first | omega | (simp; done) | (simp; omega)))).trans (hb23.mono (by first | omega | (simp; done) | (simp; omega)))).trans (hb24.mono (by first | omega | (simp; done) | (simp; omega)))).trans (hb25.mono (by first | omega | (simp; done) | (simp; omega)))).trans (hb26.mono (by first | omega | (simp; done) | (simp; omega)))).trans (hb27.mono (by first | omega | (simp; done) | (simp; omega)))).trans (hb28.mono (by first | omega | (simp; done) | (simp; omega)))).trans (hb29.mono (by first | omega | (simp; done) | (simp; omega)))) (Nat.le_refl _)) (by first | omega | (simp; done) | (simp; omega)) hz_aA) ?_
        rintro e w30 ⟨Af75, nf75, cf75, rfl, hb30, hf75⟩
        have sz30 := hb30.size
        go_wp2_with fail
        refine Calls.mono (toFileS_any _ _ _ _ _ _ _ (h2.keep (((((((((((((((((((((((((((((hb1.trans (hb2.mono (by first | omega | (simp; done) | (simp; omega)))).trans (hb3.mono (by first | omega | (simp; done) | (simp; omega)))).trans (hb4.mono (by first | omega | (simp; done) | (simp; omega)))).trans (hb5.mono (by first | omega | (simp; done) | (simp; omega)))).trans (hb6.mono (by first | omega | (simp; done) | (simp; omega)))).trans (hb7.mono (by first | omega | (simp; done) | (simp; omega)))).trans (hb8.mono (by first | omega | (simp; done) | (simp; omega)))).trans (hb9.mono (by first | omega | (simp; done) | (simp; omega)))).trans (hb10.mono (by first | omega | (simp; done) | (simp; omega)))).trans (hb11.mono (by first | omega | (simp; done) | (simp; omega)))).trans (hb12.mono (by first | omega | (simp; done) | (simp; omega)))).trans (hb13.mono (by first | omega | (simp; done) | (simp; omega)))).trans (hb14.mono (by first | omega | (simp; done) | (simp; omega)))).trans (hb15.mono (by first | omega | (simp; done) | (simp; omega)))).trans (hb16.mono (by first | omega | (simp; done) | (simp; omega)))).trans (hb17.mono (by first | omega | (simp; done) | (simp; omega)))).trans (hb18.mono (by first | omega | (simp; done) | (simp; omega)))).trans (hb19.mono (by first | omega | (simp; done) | (simp; omega)))).trans (hb20.mono (by first | omega | (simp; done) | (simp; omega)))).trans (hb21.mono (by first | omega | (simp; done) | (simp; omega)))).trans (hb22.mono (by first | omega | (simp; done) | (simp; omega)))).trans (hb23.mono (by first | omega | (simp; done) | (simp; omega)))).trans (hb24.mono (by first | omega | (simp; done) | (simp; omega)))).trans (hb25.mono (by first | omega | (simp; done) | (simp; omega)))).trans (hb26.mono (by first | omega | (simp; done) | (simp; omega)))).trans (hb27.mono (by first | omega | (simp; done) | (simp; omega)))).trans (hb28.mono (by first | omega | (simp; done) | (simp; omega)))).trans (hb29.mono (by first | omega | (simp; done) | (simp; omega)))).trans (hb30.mono (by first | omega | (simp; done) | (simp; omega)))) (Nat.le_refl _)) (by first | omega | (simp; done) | (simp; omega)) hz_aB) ?_
        rintro e w31 ⟨Af76, nf76, cf76, rfl, hb31, hf76⟩
        have sz31 := hb31.size
        go_wp2_with fail
        refine Calls.mono (impl_JoinOf_any _ _ _ _ _ _ _ _ _ _ _ _ _ _ _ _ _ _ _ ((Fresh.rep hf74).keep (hb30.trans (hb31.mono (by first | omega | (simp; done) | (simp; omega)))) (Nat.le_refl _)) ((Fresh.rep hf75).keep hb31 (Nat.le_refl _)) (Fresh.rep hf76) (by first | omega | (simp; done) | (simp; omega)) (by first | omega | (simp; done) | (simp; omega)) (by first | omega | (simp; done) | (simp; omega)) (okTree_of ok0 hz_aO) (okTree_of ok1 hz_aA) (okTree_of ok2 hz_aB)) ?_
        rintro e w32 ⟨Af77, nf77, cf77, Ag77, ng77, cg77, rfl, hb32, hf77⟩
        have sz32 := hb32.size
        have hf78 := hf77.fst.rep
        have hf79 := hf77.swap.fst.rep
        go_wp2_with fail
        refine Calls.mono (eqFileS_any _ _ _ _ _ _ _ _ _ _ _ _ _ hf78 (hf69.keep (((((hb27.trans (hb28.mono (by first | omega | (simp; done) | (simp; omega)))).trans (hb29.mono (by first | omega | (simp; done) | (simp; omega)))).trans (hb30.mono (by first | omega | (simp; done) | (simp; omega)))).trans (hb31.mono (by first | omega | (simp; done) | (simp; omega)))).trans (hb32.mono (by first | omega | (simp; done) | (simp; omega)))) (by first | omega | (simp; done) | (simp; omega))) (by first | omega | (simp; done) | (simp; omega)) (by first | omega | (simp; done) | (simp; omega))) ?_
        rintro e w33 ⟨rfl, hb33⟩
        have sz33 := hb33.size
        go_wp2_with fail
        refine Calls.mono (eqClashS_any _ _ _ _ _ _ _ _ _ _ _ _ _ (hf79.keep hb33 (Nat.le_refl _)) (hf70.keep ((((((hb27.trans (hb28.mono (by first | omega | (simp; done) | (simp; omega)))).trans (hb29.mono (by first | omega | (simp; done) | (simp; omega)))).trans (hb30.mono (by first | omega | (simp; done) | (simp; omega)))).trans (hb31.mono (by first | omega | (simp; done) | (simp; omega)))).trans (hb32.mono (by first | omega | (simp; done) | (simp; omega)))).trans (hb33.mono (by first | omega | (simp; done) | (simp; omega)))) (by first | omega | (simp; done) | (simp; omega))) (by first | omega | (simp; done) | (simp; omega)) (by first | omega | (simp; done) | (simp; omega))) ?_
        rintro e w34 ⟨rfl, hb34⟩
        have sz34 := hb34.size
        go_wp2_with fail
        refine Calls.mono (heldFileS_any _ _ _ _ _ _ _ _ ((Fresh.rep hf72).keep (((((((hb27.trans (hb28.mono (by first | omega | (simp; done) | (simp; omega)))).trans (hb29.mono (by first | omega | (simp; done) | (simp; omega)))).trans (hb30.mono (by first | omega | (simp; done) | (simp; omega)))).trans (hb31.mono (by first | omega | (simp; done) | (simp; omega)))).trans (hb32.mono (by first | omega | (simp; done) | (simp; omega)))).trans (hb33.mono (by first | omega | (simp; done) | (simp; omega)))).trans (hb34.mono (by first | omega | (simp; done) | (simp; omega)))) (by first | omega | (simp; done) | (simp; omega))) (by first | omega | (simp; done) | (simp; omega)) (by omega) (by omega)) ?_
        rintro e w35 ⟨rfl, hb35⟩
        have sz35 := hb35.size
        go_wp2_with fail
        refine Calls.mono (heldClashS_any _ _ _ _ _ _ _ _ ((Fresh.rep hf73).keep ((((((((hb27.trans (hb28.mono (by first | omega | (simp; done) | (simp; omega)))).trans (hb29.mono (by first | omega | (simp; done) | (simp; omega)))).trans (hb30.mono (by first | omega | (simp; done) | (simp; omega)))).trans (hb31.mono (by first | omega | (simp; done) | (simp; omega)))).trans (hb32.mono (by first | omega | (simp; done) | (simp; omega)))).trans (hb33.mono (by first | omega | (simp; done) | (simp; omega)))).trans (hb34.mono (by first | omega | (simp; done) | (simp; omega)))).trans (hb35.mono (by first | omega | (simp; done) | (simp; omega)))) (by first | omega | (simp; done) | (simp; omega))) (by first | omega | (simp; done) | (simp; omega)) (by omega) (by omega)) ?_
        rintro e w36 ⟨rfl, hb36⟩
        have sz36 := hb36.size
        go_wp2
        go_ret
        exact ⟨rfl, (((((((((((((((((((((((((((((((((((hb1.trans (hb2.mono (by first | omega | (simp; done) | (simp; omega)))).trans (hb3.mono (by first | omega | (simp; done) | (simp; omega)))).trans (hb4.mono (by first | omega | (simp; done) | (simp; omega)))).trans (hb5.mono (by first | omega | (simp; done) | (simp; omega)))).trans (hb6.mono (by first | omega | (simp; done) | (simp; omega)))).trans (hb7.mono (by first | omega | (simp; done) | (simp; omega)))).trans (hb8.mono (by first | omega | (simp; done) | (simp; omega)))).trans (hb9.mono (by first | omega | (simp; done) | (simp; omega)))).trans (hb10.mono (by first | omega | (simp; done) | (simp; omega)))).trans (hb11.mono (by first | omega | (simp; done) | (simp; omega)))).trans (hb12.mono (by first | omega | (simp; done) | (simp; omega)))).trans (hb13.mono (by first | omega | (simp; done) | (simp; omega)))).trans (hb14.mono (by first | omega | (simp; done) | (simp; omega)))).trans (hb15.mono (by first | omega | (simp; done) | (simp; omega)))).trans (hb16.mono (by first | omega | (simp; done) | (simp; omega)))).trans (hb17.mono (by first | omega | (simp; done) | (simp; omega)))).trans (hb18.mono (by first | omega | (simp; done) | (simp; omega)))).trans (hb19.mono (by first | omega | (simp; done) | (simp; omega)))).trans (hb20.mono (by first | omega | (simp; done) | (simp; omega)))).trans (hb21.mono (by first | omega | (simp; done) | (simp; omega)))).trans (hb22.mono (by first | omega | (simp; done) | (simp; omega)))).trans (hb23.mono (by first | omega | (simp; done) | (simp; omega)))).trans (hb24.mono (by first | omega | (simp; done) | (simp; omega)))).trans (hb25.mono (by first | omega | (simp; done) | (simp; omega)))).trans (hb26.mono (by first | omega | (simp; done) | (simp; omega)))).trans (hb27.mono (by first | omega | (simp; done) | (simp; omega)))).trans (hb28.mono (by first | omega | (simp; done) | (simp; omega)))).trans (hb29.mono (by first | omega | (simp; done) | (simp; omega)))).trans (hb30.mono (by first | omega | (simp; done) | (simp; omega)))).trans (hb31.mono (by first | omega | (simp; done) | (simp; omega)))).trans (hb32.mono (by first | omega | (simp; done) | (simp; omega)))).trans (hb33.mono (by first | omega | (simp; done) | (simp; omega)))).trans (hb34.mono (by first | omega | (simp; done) | (simp; omega)))).trans (hb35.mono (by first | omega | (simp; done) | (simp; omega)))).trans (hb36.mono (by first | omega | (simp; done) | (simp; omega))))⟩
end Go.Proofs.YtgcioajaglljfaaGreatDoor
