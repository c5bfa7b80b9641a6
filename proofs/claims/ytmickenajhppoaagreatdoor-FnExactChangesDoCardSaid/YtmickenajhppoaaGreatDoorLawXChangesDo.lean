import Derived.Test.YtmickenajhppoaaGreatDoorCDo2
import Derived.Test.YtmickenajhppoaaGreatDoorSpecCDo
import Derived.Test.YtmickenajhppoaaGreatDoorBndCDo
import Derived.Test.YtmickenajhppoaaGreatDoorZ26
import Derived.Test.YtmickenajhppoaaGreatDoorZ19
/- The walk of the law FnExactChangesDo. Printed by wip/genwalk.py. -/
namespace Go.Proofs.YtmickenajhppoaaGreatDoor
open Go.RowKit
set_option maxRecDepth 100000 in
set_option maxHeartbeats 2000000 in
theorem law_XChangesDo (A0 : Option Addr) (n0 c0 : Nat) (xs0 : List PFile) (A1 : Option Addr) (n1 c1 : Nat) (xs1 : List PChange) (w : World) (h0 : Rep w 0 w.heap.size (encFiles xs0) (.slice A0 n0 c0)) (ok0 : ∀ x ∈ xs0, okFile x) (h1 : Rep w 0 w.heap.size (encChanges xs1) (.slice A1 n1 c1)) (ok1 : ∀ x ∈ xs1, okChange x) :
    Calls Tryz.prog 3 #[.slice A0 n0 c0, .slice A1 n1 c1] w fun e w' => e = .returned (.bool true) ∧ Below w.heap.size w w' := by
  go_enter Tryz.func3, Tryz.ntmps3
  go_wp2_with fail
  refine Calls.mono (szFileS_any _ _ _ _ _ _ _ _ h0 (by first | omega | (simp; done) | (simp; omega)) ok0 (by omega) (by omega)) ?_
  rintro e w1 ⟨⟨r1, rfl, rl1, ru1, rz1⟩, hb1⟩
  have sz1 := hb1.size
  by_cases g1 : r1 < 0
  · go_wp2
    go_ret
    exact ⟨rfl, hb1⟩
  ·
    have hz_aT : szFiles xs0 ≤ 1048576 := by have := rz1 (by omega); omega
    have hcnt_aT := cntFiles_le xs0
    clear rz1
    go_wp2_with fail
    refine Calls.mono (szChangeS_any _ _ _ _ _ _ _ _ (h1.keep hb1 (Nat.le_refl _)) (by first | omega | (simp; done) | (simp; omega)) ok1 (by omega) (by omega)) ?_
    rintro e w2 ⟨⟨r2, rfl, rl2, ru2, rz2⟩, hb2⟩
    have sz2 := hb2.size
    by_cases g2 : r2 < 0
    · go_wp2
      go_ret
      exact ⟨rfl, (hb1.trans (hb2.mono (by first | omega | (simp; done) | (simp; omega))))⟩
    ·
      have hz_aList : szChanges xs1 ≤ 1048576 := by have := rz2 (by omega); omega
      have hcnt_aList := cntChanges_le xs1
      clear rz2
      go_wp2_with fail
      refine Calls.mono (toFileS_any _ _ _ _ _ _ _ (h0.keep (hb1.trans (hb2.mono (by first | omega | (simp; done) | (simp; omega)))) (Nat.le_refl _)) (by first | omega | (simp; done) | (simp; omega)) hz_aT) ?_
      rintro e w3 ⟨Af1, nf1, cf1, rfl, hb3, hf1⟩
      have sz3 := hb3.size
      go_wp2_with fail
      refine Calls.mono (toChangeS_any _ _ _ _ _ _ _ (h1.keep ((hb1.trans (hb2.mono (by first | omega | (simp; done) | (simp; omega)))).trans (hb3.mono (by first | omega | (simp; done) | (simp; omega)))) (Nat.le_refl _)) (by first | omega | (simp; done) | (simp; omega)) hz_aList) ?_
      rintro e w4 ⟨Af2, nf2, cf2, rfl, hb4, hf2⟩
      have sz4 := hb4.size
      go_wp2_with fail
      refine Calls.mono (spec_ChangesDo_any _ _ _ _ _ _ _ _ _ _ _ _ _ ((Fresh.rep hf1).keep hb4 (Nat.le_refl _)) (Fresh.rep hf2) (by first | omega | (simp; done) | (simp; omega)) (by first | omega | (simp; done) | (simp; omega)) (okTree_of ok0 hz_aT) hz_aList ok1) ?_
      rintro e w5 ⟨Af3, nf3, cf3, rfl, hb5, hf3⟩
      have sz5 := hb5.size
      go_wp2_with fail
      refine Calls.mono (toFileS_any _ _ _ _ _ _ _ (h0.keep ((((hb1.trans (hb2.mono (by first | omega | (simp; done) | (simp; omega)))).trans (hb3.mono (by first | omega | (simp; done) | (simp; omega)))).trans (hb4.mono (by first | omega | (simp; done) | (simp; omega)))).trans (hb5.mono (by first | omega | (simp; done) | (simp; omega)))) (Nat.le_refl _)) (by first | omega | (simp; done) | (simp; omega)) hz_aT) ?_
      rintro e w6 ⟨Af4, nf4, cf4, rfl, hb6, hf4⟩
      have sz6 := hb6.size
      go_wp2_with fail
      refine Calls.mono (toChangeS_any _ _ _ _ _ _ _ (h1.keep (((((hb1.trans (hb2.mono (by first | omega | (simp; done) | (simp; omega)))).trans (hb3.mono (by first | omega | (simp; done) | (simp; omega)))).trans (hb4.mono (by first | omega | (simp; done) | (simp; omega)))).trans (hb5.mono (by first | omega | (simp; done) | (simp; omega)))).trans (hb6.mono (by first | omega | (simp; done) | (simp; omega)))) (Nat.le_refl _)) (by first | omega | (simp; done) | (simp; omega)) hz_aList) ?_
      rintro e w7 ⟨Af5, nf5, cf5, rfl, hb7, hf5⟩
      have sz7 := hb7.size
      go_wp2_with fail
      refine Calls.mono (impl_ChangesDo_any _ _ _ _ _ _ _ _ _ _ _ _ _ ((Fresh.rep hf4).keep hb7 (Nat.le_refl _)) (Fresh.rep hf5) (by first | omega | (simp; done) | (simp; omega)) (by first | omega | (simp; done) | (simp; omega)) (okTree_of ok0 hz_aT) hz_aList ok1) ?_
      rintro e w8 ⟨Af6, nf6, cf6, rfl, hb8, hf6⟩
      have sz8 := hb8.size
      have bnd := bnd_ChangesDo xs0 xs1
      go_wp2_with fail
      refine Calls.mono (eqFileS_any _ _ _ _ _ _ _ _ _ _ _ _ _ (Fresh.rep hf6) (hf3.keep ((hb6.trans (hb7.mono (by first | omega | (simp; done) | (simp; omega)))).trans (hb8.mono (by first | omega | (simp; done) | (simp; omega)))) (Nat.le_refl _)) (by first | omega | (simp; done) | (simp; omega)) (by first | omega | (simp; done) | (simp; omega))) ?_
      rintro e w9 ⟨rfl, hb9⟩
      have sz9 := hb9.size
      go_wp2_with fail
      refine Calls.mono (toFileS_any _ _ _ _ _ _ _ (h0.keep ((((((((hb1.trans (hb2.mono (by first | omega | (simp; done) | (simp; omega)))).trans (hb3.mono (by first | omega | (simp; done) | (simp; omega)))).trans (hb4.mono (by first | omega | (simp; done) | (simp; omega)))).trans (hb5.mono (by first | omega | (simp; done) | (simp; omega)))).trans (hb6.mono (by first | omega | (simp; done) | (simp; omega)))).trans (hb7.mono (by first | omega | (simp; done) | (simp; omega)))).trans (hb8.mono (by first | omega | (simp; done) | (simp; omega)))).trans (hb9.mono (by first | omega | (simp; done) | (simp; omega)))) (Nat.le_refl _)) (by first | omega | (simp; done) | (simp; omega)) hz_aT) ?_
      rintro e w10 ⟨Af7, nf7, cf7, rfl, hb10, hf7⟩
      have sz10 := hb10.size
      go_wp2_with fail
      refine Calls.mono (eqFileS_any _ _ _ _ _ _ _ _ _ _ _ _ _ ((Fresh.rep hf4).keep (((hb7.trans (hb8.mono (by first | omega | (simp; done) | (simp; omega)))).trans (hb9.mono (by first | omega | (simp; done) | (simp; omega)))).trans (hb10.mono (by first | omega | (simp; done) | (simp; omega)))) (Nat.le_refl _)) (Fresh.rep hf7) (by first | omega | (simp; done) | (simp; omega)) (by first | omega | (simp; done) | (simp; omega))) ?_
      rintro e w11 ⟨rfl, hb11⟩
      have sz11 := hb11.size
      go_wp2_with fail
      refine Calls.mono (toChangeS_any _ _ _ _ _ _ _ (h1.keep ((((((((((hb1.trans (hb2.mono (by first | omega | (simp; done) | (simp; omega)))).trans (hb3.mono (by first | omega | (simp; done) | (simp; omega)))).trans (hb4.mono (by first | omega | (simp; done) | (simp; omega)))).trans (hb5.mono (by first | omega | (simp; done) | (simp; omega)))).trans (hb6.mono (by first | omega | (simp; done) | (simp; omega)))).trans (hb7.mono (by first | omega | (simp; done) | (simp; omega)))).trans (hb8.mono (by first | omega | (simp; done) | (simp; omega)))).trans (hb9.mono (by first | omega | (simp; done) | (simp; omega)))).trans (hb10.mono (by first | omega | (simp; done) | (simp; omega)))).trans (hb11.mono (by first | omega | (simp; done) | (simp; omega)))) (Nat.le_refl _)) (by first | omega | (simp; done) | (simp; omega)) hz_aList) ?_
      rintro e w12 ⟨Af8, nf8, cf8, rfl, hb12, hf8⟩
      have sz12 := hb12.size
      go_wp2_with fail
      refine Calls.mono (eqChangeS_any _ _ _ _ _ _ _ _ _ _ _ _ _ ((Fresh.rep hf5).keep ((((hb8.trans (hb9.mono (by first | omega | (simp; done) | (simp; omega)))).trans (hb10.mono (by first | omega | (simp; done) | (simp; omega)))).trans (hb11.mono (by first | omega | (simp; done) | (simp; omega)))).trans (hb12.mono (by first | omega | (simp; done) | (simp; omega)))) (Nat.le_refl _)) (Fresh.rep hf8) (by first | omega | (simp; done) | (simp; omega)) (by first | omega | (simp; done) | (simp; omega))) ?_
      rintro e w13 ⟨rfl, hb13⟩
      have sz13 := hb13.size
      have hf9 := Fresh.keep hf4 ((((((hb7.trans (hb8.mono (by first | omega | (simp; done) | (simp; omega)))).trans (hb9.mono (by first | omega | (simp; done) | (simp; omega)))).trans (hb10.mono (by first | omega | (simp; done) | (simp; omega)))).trans (hb11.mono (by first | omega | (simp; done) | (simp; omega)))).trans (hb12.mono (by first | omega | (simp; done) | (simp; omega)))).trans (hb13.mono (by first | omega | (simp; done) | (simp; omega)))) (Nat.le_refl _)
      have hf10 := Fresh.keep hf5 (((((hb8.trans (hb9.mono (by first | omega | (simp; done) | (simp; omega)))).trans (hb10.mono (by first | omega | (simp; done) | (simp; omega)))).trans (hb11.mono (by first | omega | (simp; done) | (simp; omega)))).trans (hb12.mono (by first | omega | (simp; done) | (simp; omega)))).trans (hb13.mono (by first | omega | (simp; done) | (simp; omega)))) (Nat.le_refl _)
      have hf11 := Fresh.keep hf6 ((((hb9.trans (hb10.mono (by first | omega | (simp; done) | (simp; omega)))).trans (hb11.mono (by first | omega | (simp; done) | (simp; omega)))).trans (hb12.mono (by first | omega | (simp; done) | (simp; omega)))).trans (hb13.mono (by first | omega | (simp; done) | (simp; omega)))) (Nat.le_refl _)
      have hf12 := Rep.keep hf3 (((((((hb6.trans (hb7.mono (by first | omega | (simp; done) | (simp; omega)))).trans (hb8.mono (by first | omega | (simp; done) | (simp; omega)))).trans (hb9.mono (by first | omega | (simp; done) | (simp; omega)))).trans (hb10.mono (by first | omega | (simp; done) | (simp; omega)))).trans (hb11.mono (by first | omega | (simp; done) | (simp; omega)))).trans (hb12.mono (by first | omega | (simp; done) | (simp; omega)))).trans (hb13.mono (by first | omega | (simp; done) | (simp; omega)))) (Nat.le_refl _)
      obtain ⟨FF1, fo1, fn1, fb1⟩ := hf9
      go_wp2_with fail
      refine Calls.mono (markFileS_any _ _ _ _ _ _ _ fo1 fn1 (by omega) (by omega)) ?_
      rintro e w14 ⟨rfl, fp1, hon1⟩
      have hb14 : Below w5.heap.size w13 w14 := hon1.below (fun z hz => (fb1 z hz).1) (by first | omega | (simp; done) | (simp; omega))
      have hf13 := (⟨FF1, fp1, fn1, fb1⟩ : Fresh w14 (w5.heap.size) (w6.heap.size) _ _)
      have hf14 := Fresh.same hf10 (hon1.same (fun z hz => by have := fb1 z hz; omega) (by first | omega | (simp; done) | (simp; omega)))
      have hf15 := Fresh.same hf11 (hon1.same (fun z hz => by have := fb1 z hz; omega) (by first | omega | (simp; done) | (simp; omega)))
      have hf16 := Rep.same hf12 (hon1.same (fun z hz => by have := fb1 z hz; omega) (by first | omega | (simp; done) | (simp; omega)))
      have sz14 := hb14.size
      clear hon1 fo1 fp1 fn1 fb1
      obtain ⟨FF2, fo2, fn2, fb2⟩ := hf14
      go_wp2_with fail
      refine Calls.mono (markChangeS_any _ _ _ _ _ _ _ fo2 fn2 (by omega) (by omega)) ?_
      rintro e w15 ⟨rfl, fp2, hon2⟩
      have hb15 : Below w6.heap.size w14 w15 := hon2.below (fun z hz => (fb2 z hz).1) (by first | omega | (simp; done) | (simp; omega))
      have hf17 := Fresh.same hf13 (hon2.same (fun z hz => by have := fb2 z hz; omega) (by first | omega | (simp; done) | (simp; omega)))
      have hf18 := (⟨FF2, fp2, fn2, fb2⟩ : Fresh w15 (w6.heap.size) (w7.heap.size) _ _)
      have hf19 := Fresh.same hf15 (hon2.same (fun z hz => by have := fb2 z hz; omega) (by first | omega | (simp; done) | (simp; omega)))
      have hf20 := Rep.same hf16 (hon2.same (fun z hz => by have := fb2 z hz; omega) (by first | omega | (simp; done) | (simp; omega)))
      have sz15 := hb15.size
      clear hon2 fo2 fp2 fn2 fb2
      go_wp2_with fail
      refine Calls.mono (eqFileS_any _ _ _ _ _ _ _ _ _ _ _ _ _ (Fresh.rep hf19) hf20 (by first | omega | (simp; done) | (simp; omega)) (by first | omega | (simp; done) | (simp; omega))) ?_
      rintro e w16 ⟨rfl, hb16⟩
      have sz16 := hb16.size
      have hf21 := Fresh.keep hf17 hb16 (by first | omega | (simp; done) | (simp; omega))
      have hf22 := Fresh.keep hf18 hb16 (by first | omega | (simp; done) | (simp; omega))
      have hf23 := Fresh.keep hf19 hb16 (by first | omega | (simp; done) | (simp; omega))
      have hf24 := Rep.keep hf20 hb16 (by first | omega | (simp; done) | (simp; omega))
      obtain ⟨FF3, fo3, fn3, fb3⟩ := hf23
      go_wp2_with fail
      refine Calls.mono (markFileS_any _ _ _ _ _ _ _ fo3 fn3 (by omega) (by omega)) ?_
      rintro e w17 ⟨rfl, fp3, hon3⟩
      have hb17 : Below w7.heap.size w16 w17 := hon3.below (fun z hz => (fb3 z hz).1) (by first | omega | (simp; done) | (simp; omega))
      have hf25 := Fresh.same hf21 (hon3.same (fun z hz => by have := fb3 z hz; omega) (by first | omega | (simp; done) | (simp; omega)))
      have hf26 := Fresh.same hf22 (hon3.same (fun z hz => by have := fb3 z hz; omega) (by first | omega | (simp; done) | (simp; omega)))
      have hf27 := (⟨FF3, fp3, fn3, fb3⟩ : Fresh w17 (w7.heap.size) (w8.heap.size) _ _)
      have hf28 := Rep.same hf24 (hon3.same (fun z hz => by have := fb3 z hz; omega) (by first | omega | (simp; done) | (simp; omega)))
      have sz17 := hb17.size
      clear hon3 fo3 fp3 fn3 fb3
      go_wp2_with fail
      refine Calls.mono (heldFileS_any _ _ _ _ _ _ _ _ (Fresh.rep hf27) (by first | omega | (simp; done) | (simp; omega)) (by omega) (by omega)) ?_
      rintro e w18 ⟨rfl, hb18⟩
      have sz18 := hb18.size
      go_wp2_with fail
      refine Calls.mono (toFileS_any _ _ _ _ _ _ _ (h0.keep (((((((((((((((((hb1.trans (hb2.mono (by first | omega | (simp; done) | (simp; omega)))).trans (hb3.mono (by first | omega | (simp; done) | (simp; omega)))).trans (hb4.mono (by first | omega | (simp; done) | (simp; omega)))).trans (hb5.mono (by first | omega | (simp; done) | (simp; omega)))).trans (hb6.mono (by first | omega | (simp; done) | (simp; omega)))).trans (hb7.mono (by first | omega | (simp; done) | (simp; omega)))).trans (hb8.mono (by first | omega | (simp; done) | (simp; omega)))).trans (hb9.mono (by first | omega | (simp; done) | (simp; omega)))).trans (hb10.mono (by first | omega | (simp; done) | (simp; omega)))).trans (hb11.mono (by first | omega | (simp; done) | (simp; omega)))).trans (hb12.mono (by first | omega | (simp; done) | (simp; omega)))).trans (hb13.mono (by first | omega | (simp; done) | (simp; omega)))).trans (hb14.mono (by first | omega | (simp; done) | (simp; omega)))).trans (hb15.mono (by first | omega | (simp; done) | (simp; omega)))).trans (hb16.mono (by first | omega | (simp; done) | (simp; omega)))).trans (hb17.mono (by first | omega | (simp; done) | (simp; omega)))).trans (hb18.mono (by first | omega | (simp; done) | (simp; omega)))) (Nat.le_refl _)) (by first | omega | (simp; done) | (simp; omega)) hz_aT) ?_
      rintro e w19 ⟨Af29, nf29, cf29, rfl, hb19, hf29⟩
      have sz19 := hb19.size
      go_wp2_with fail
      refine Calls.mono (toChangeS_any _ _ _ _ _ _ _ (h1.keep ((((((((((((((((((hb1.trans (hb2.mono (by first | omega | (simp; done) | (simp; omega)))).trans (hb3.mono (by first | omega | (simp; done) | (simp; omega)))).trans (hb4.mono (by first | omega | (simp; done) | (simp; omega)))).trans (hb5.mono (by first | omega | (simp; done) | (simp; omega)))).trans (hb6.mono (by first | omega | (simp; done) | (simp; omega)))).trans (hb7.mono (by first | omega | (simp; done) | (simp; omega)))).trans (hb8.mono (by first | omega | (simp; done) | (simp; omega)))).trans (hb9.mono (by first | omega | (simp; done) | (simp; omega)))).trans (hb10.mono (by first | omega | (simp; done) | (simp; omega)))).trans (hb11.mono (by first | omega | (simp; done) | (simp; omega)))).trans (hb12.mono (by first | omega | (simp; done) | (simp; omega)))).trans (hb13.mono (by first | omega | (simp; done) | (simp; omega)))).trans (hb14.mono (by first | omega | (simp; done) | (simp; omega)))).trans (hb15.mono (by first | omega | (simp; done) | (simp; omega)))).trans (hb16.mono (by first | omega | (simp; done) | (simp; omega)))).trans (hb17.mono (by first | omega | (simp; done) | (simp; omega)))).trans (hb18.mono (by first | omega | (simp; done) | (simp; omega)))).trans (hb19.mono (by first | omega | (simp; done) | (simp; omega)))) (Nat.le_refl _)) (by first | omega | (simp; done) | (simp; omega)) hz_aList) ?_
      rintro e w20 ⟨Af30, nf30, cf30, rfl, hb20, hf30⟩
      have sz20 := hb20.size
      go_wp2_with fail
      refine Calls.mono (impl_ChangesDo_any _ _ _ _ _ _ _ _ _ _ _ _ _ ((Fresh.rep hf29).keep hb20 (Nat.le_refl _)) (Fresh.rep hf30) (by first | omega | (simp; done) | (simp; omega)) (by first | omega | (simp; done) | (simp; omega)) (okTree_of ok0 hz_aT) hz_aList ok1) ?_
      rintro e w21 ⟨Af31, nf31, cf31, rfl, hb21, hf31⟩
      have sz21 := hb21.size
      go_wp2_with fail
      refine Calls.mono (eqFileS_any _ _ _ _ _ _ _ _ _ _ _ _ _ (Fresh.rep hf31) (hf28.keep (((hb18.trans (hb19.mono (by first | omega | (simp; done) | (simp; omega)))).trans (hb20.mono (by first | omega | (simp; done) | (simp; omega)))).trans (hb21.mono (by first | omega | (simp; done) | (simp; omega)))) (by first | omega | (simp; done) | (simp; omega))) (by first | omega | (simp; done) | (simp; omega)) (by first | omega | (simp; done) | (simp; omega))) ?_
      rintro e w22 ⟨rfl, hb22⟩
      have sz22 := hb22.size
      go_wp2_with fail
      refine Calls.mono (heldFileS_any _ _ _ _ _ _ _ _ ((Fresh.rep hf27).keep ((((hb18.trans (hb19.mono (by first | omega | (simp; done) | (simp; omega)))).trans (hb20.mono (by first | omega | (simp; done) | (simp; omega)))).trans (hb21.mono (by first | omega | (simp; done) | (simp; omega)))).trans (hb22.mono (by first | omega | (simp; done) | (simp; omega)))) (by first | omega | (simp; done) | (simp; omega))) (by first | omega | (simp; done) | (simp; omega)) (by omega) (by omega)) ?_
      rintro e w23 ⟨rfl, hb23⟩
      have sz23 := hb23.size
      go_wp2
      go_ret
      exact ⟨rfl, ((((((((((((((((((((((hb1.trans (hb2.mono (by first | omega | (simp; done) | (simp; omega)))).trans (hb3.mono (by first | omega | (simp; done) | (simp; omega)))).trans (hb4.mono (by first | omega | (simp; done) | (simp; omega)))).trans (hb5.mono (by first | omega | (simp; done) | (simp; omega)))).trans (hb6.mono (by first | omega | (simp; done) | (simp; omega)))).trans (hb7.mono (by first | omega | (simp; done) | (simp; omega)))).trans (hb8.mono (by first | omega | (simp; done) | (simp; omega)))).trans (hb9.mono (by first | omega | (simp; done) | (simp; omega)))).trans (hb10.mono (by first | omega | (simp; done) | (simp; omega)))).trans (hb11.mono (by first | omega | (simp; done) | (simp; omega)))).trans (hb12.mono (by first | omega | (simp; done) | (simp; omega)))).trans (hb13.mono (by first | omega | (simp; done) | (simp; omega)))).trans (hb14.mono (by first | omega | (simp; done) | (simp; omega)))).trans (hb15.mono (by first | omega | (simp; done) | (simp; omega)))).trans (hb16.mono (by first | omega | (simp; done) | (simp; omega)))).trans (hb17.mono (by first | omega | (simp; done) | (simp; omega)))).trans (hb18.mono (by first | omega | (simp; done) | (simp; omega)))).trans (hb19.mono (by first | omega | (simp; done) | (simp; omega)))).trans (hb20.mono (by first | omega | (simp; done) | (simp; omega)))).trans (hb21.mono (by first | omega | (simp; done) | (simp; omega)))).trans (hb22.mono (by first | omega | (simp; done) | (simp; omega)))).trans (hb23.mono (by first | omega | (simp; done) | (simp; omega))))⟩
end Go.Proofs.YtmickenajhppoaaGreatDoor
