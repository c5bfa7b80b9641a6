/- The walk of the law FnExactMergeShow. Printed by wip/genwalk.py. -/
import Derived.Test.YtfigfpoklppkgaaShow
import Derived.Test.YtfigfpoklppkgaaMark
namespace Go.Proofs.Ytfigfpoklppkgaa
open Go.RowKit
set_option maxRecDepth 100000 in
set_option maxHeartbeats 2000000 in
theorem law_XMergeShow (A0 : Option Addr) (n0 c0 : Nat) (xs0 : List Str) (A1 : Option Addr) (n1 c1 : Nat) (xs1 : List Str) (A2 : Option Addr) (n2 c2 : Nat) (xs2 : List Str) (w : World) (h0 : Rep w 0 w.heap.size (encText xs0) (.slice A0 n0 c0)) (ok0 : ∀ s ∈ xs0, s.length ≤ 9223372036854775807) (h1 : Rep w 0 w.heap.size (encText xs1) (.slice A1 n1 c1)) (ok1 : ∀ s ∈ xs1, s.length ≤ 9223372036854775807) (h2 : Rep w 0 w.heap.size (encText xs2) (.slice A2 n2 c2)) (ok2 : ∀ s ∈ xs2, s.length ≤ 9223372036854775807) :
    Calls Try.prog 3 #[.slice A0 n0 c0, .slice A1 n1 c1, .slice A2 n2 c2] w fun e w' => e = .returned (.bool true) ∧ Below w.heap.size w w' := by
  go_enter Try.func3, Try.ntmps3
  go_wp2_with fail
  refine Calls.mono (szStringS_any _ _ _ _ _ _ _ _ h0 ok0 (by omega) (by omega)) ?_
  rintro e w' ⟨⟨r1, rfl, rl1, ru1, rz1⟩, rfl⟩
  by_cases g1 : r1 < 0
  · go_wp2
    go_ret
    exact ⟨rfl, Below.refl _ _⟩
  ·
    have hz_aO : total xs0 ≤ 1048576 := by have := rz1 (by omega); omega
    have hn_aO := (small_of_total hz_aO).1
    clear rz1
    go_wp2_with fail
    refine Calls.mono (szStringS_any _ _ _ _ _ _ _ _ h1 ok1 (by omega) (by omega)) ?_
    rintro e w' ⟨⟨r2, rfl, rl2, ru2, rz2⟩, rfl⟩
    by_cases g2 : r2 < 0
    · go_wp2
      go_ret
      exact ⟨rfl, Below.refl _ _⟩
    ·
      have hz_aA : total xs1 ≤ 1048576 := by have := rz2 (by omega); omega
      have hn_aA := (small_of_total hz_aA).1
      clear rz2
      go_wp2_with fail
      refine Calls.mono (szStringS_any _ _ _ _ _ _ _ _ h2 ok2 (by omega) (by omega)) ?_
      rintro e w' ⟨⟨r3, rfl, rl3, ru3, rz3⟩, rfl⟩
      by_cases g3 : r3 < 0
      · go_wp2
        go_ret
        exact ⟨rfl, Below.refl _ _⟩
      ·
        have hz_aB : total xs2 ≤ 1048576 := by have := rz3 (by omega); omega
        have hn_aB := (small_of_total hz_aB).1
        clear rz3
        go_wp2_with fail
        refine Calls.mono (toStringS_any _ _ _ _ _ _ _ h0 (by first | omega | (simp; done) | (simp; omega)) hn_aO) ?_
        rintro e w1 ⟨Af1, nf1, cf1, rfl, hb1, hf1⟩
        have sz1 := hb1.size
        go_wp2_with fail
        refine Calls.mono (toStringS_any _ _ _ _ _ _ _ (h1.keep hb1 (Nat.le_refl _)) (by first | omega | (simp; done) | (simp; omega)) hn_aA) ?_
        rintro e w2 ⟨Af2, nf2, cf2, rfl, hb2, hf2⟩
        have sz2 := hb2.size
        go_wp2_with fail
        refine Calls.mono (toStringS_any _ _ _ _ _ _ _ (h2.keep (hb1.trans (hb2.mono (by first | omega | (simp; done) | (simp; omega)))) (Nat.le_refl _)) (by first | omega | (simp; done) | (simp; omega)) hn_aB) ?_
        rintro e w3 ⟨Af3, nf3, cf3, rfl, hb3, hf3⟩
        have sz3 := hb3.size
        go_wp2_with fail
        refine Calls.mono (spec_MergeShow_any _ _ _ _ _ _ _ _ _ _ _ _ _ _ _ _ _ _ _ ((Fresh.rep hf1).keep (hb2.trans (hb3.mono (by first | omega | (simp; done) | (simp; omega)))) (Nat.le_refl _)) ((Fresh.rep hf2).keep hb3 (Nat.le_refl _)) (Fresh.rep hf3) (by first | omega | (simp; done) | (simp; omega)) (by first | omega | (simp; done) | (simp; omega)) (by first | omega | (simp; done) | (simp; omega)) ok0 ok1 ok2) ?_
        rintro e w4 ⟨Af4, nf4, cf4, rfl, hb4, hf4⟩
        have sz4 := hb4.size
        go_wp2_with fail
        refine Calls.mono (toStringS_any _ _ _ _ _ _ _ (h0.keep (((hb1.trans (hb2.mono (by first | omega | (simp; done) | (simp; omega)))).trans (hb3.mono (by first | omega | (simp; done) | (simp; omega)))).trans (hb4.mono (by first | omega | (simp; done) | (simp; omega)))) (Nat.le_refl _)) (by first | omega | (simp; done) | (simp; omega)) hn_aO) ?_
        rintro e w5 ⟨Af5, nf5, cf5, rfl, hb5, hf5⟩
        have sz5 := hb5.size
        go_wp2_with fail
        refine Calls.mono (toStringS_any _ _ _ _ _ _ _ (h1.keep ((((hb1.trans (hb2.mono (by first | omega | (simp; done) | (simp; omega)))).trans (hb3.mono (by first | omega | (simp; done) | (simp; omega)))).trans (hb4.mono (by first | omega | (simp; done) | (simp; omega)))).trans (hb5.mono (by first | omega | (simp; done) | (simp; omega)))) (Nat.le_refl _)) (by first | omega | (simp; done) | (simp; omega)) hn_aA) ?_
        rintro e w6 ⟨Af6, nf6, cf6, rfl, hb6, hf6⟩
        have sz6 := hb6.size
        go_wp2_with fail
        refine Calls.mono (toStringS_any _ _ _ _ _ _ _ (h2.keep (((((hb1.trans (hb2.mono (by first | omega | (simp; done) | (simp; omega)))).trans (hb3.mono (by first | omega | (simp; done) | (simp; omega)))).trans (hb4.mono (by first | omega | (simp; done) | (simp; omega)))).trans (hb5.mono (by first | omega | (simp; done) | (simp; omega)))).trans (hb6.mono (by first | omega | (simp; done) | (simp; omega)))) (Nat.le_refl _)) (by first | omega | (simp; done) | (simp; omega)) hn_aB) ?_
        rintro e w7 ⟨Af7, nf7, cf7, rfl, hb7, hf7⟩
        have sz7 := hb7.size
        go_wp2_with fail
        refine Calls.mono (impl_MergeShow_any _ _ _ _ _ _ _ _ _ _ _ _ _ _ _ _ _ _ _ ((Fresh.rep hf5).keep (hb6.trans (hb7.mono (by first | omega | (simp; done) | (simp; omega)))) (Nat.le_refl _)) ((Fresh.rep hf6).keep hb7 (Nat.le_refl _)) (Fresh.rep hf7) (by first | omega | (simp; done) | (simp; omega)) (by first | omega | (simp; done) | (simp; omega)) (by first | omega | (simp; done) | (simp; omega))) ?_
        rintro e w8 ⟨Af8, nf8, cf8, rfl, hb8, hf8⟩
        have sz8 := hb8.size
        have bnd := bnd_MergeShow xs0 xs1 xs2
        go_wp2_with fail
        refine Calls.mono (eqStringS_any _ _ _ _ _ _ _ _ _ _ _ _ _ (Fresh.rep hf8) ((Fresh.rep hf4).keep (((hb5.trans (hb6.mono (by first | omega | (simp; done) | (simp; omega)))).trans (hb7.mono (by first | omega | (simp; done) | (simp; omega)))).trans (hb8.mono (by first | omega | (simp; done) | (simp; omega)))) (Nat.le_refl _))) ?_
        rintro e w9 ⟨rfl, kk, hkk⟩
        have hb9 : Below w8.heap.size w8 w9 := by rw [hkk]; exact below_drewN (Below.refl _ _) _
        clear hkk kk
        have sz9 := hb9.size
        go_wp2_with fail
        refine Calls.mono (toStringS_any _ _ _ _ _ _ _ (h0.keep ((((((((hb1.trans (hb2.mono (by first | omega | (simp; done) | (simp; omega)))).trans (hb3.mono (by first | omega | (simp; done) | (simp; omega)))).trans (hb4.mono (by first | omega | (simp; done) | (simp; omega)))).trans (hb5.mono (by first | omega | (simp; done) | (simp; omega)))).trans (hb6.mono (by first | omega | (simp; done) | (simp; omega)))).trans (hb7.mono (by first | omega | (simp; done) | (simp; omega)))).trans (hb8.mono (by first | omega | (simp; done) | (simp; omega)))).trans (hb9.mono (by first | omega | (simp; done) | (simp; omega)))) (Nat.le_refl _)) (by first | omega | (simp; done) | (simp; omega)) hn_aO) ?_
        rintro e w10 ⟨Af9, nf9, cf9, rfl, hb10, hf9⟩
        have sz10 := hb10.size
        go_wp2_with fail
        refine Calls.mono (eqStringS_any _ _ _ _ _ _ _ _ _ _ _ _ _ ((Fresh.rep hf5).keep ((((hb6.trans (hb7.mono (by first | omega | (simp; done) | (simp; omega)))).trans (hb8.mono (by first | omega | (simp; done) | (simp; omega)))).trans (hb9.mono (by first | omega | (simp; done) | (simp; omega)))).trans (hb10.mono (by first | omega | (simp; done) | (simp; omega)))) (Nat.le_refl _)) (Fresh.rep hf9)) ?_
        rintro e w11 ⟨rfl, kk, hkk⟩
        have hb11 : Below w10.heap.size w10 w11 := by rw [hkk]; exact below_drewN (Below.refl _ _) _
        clear hkk kk
        have sz11 := hb11.size
        go_wp2_with fail
        refine Calls.mono (toStringS_any _ _ _ _ _ _ _ (h1.keep ((((((((((hb1.trans (hb2.mono (by first | omega | (simp; done) | (simp; omega)))).trans (hb3.mono (by first | omega | (simp; done) | (simp; omega)))).trans (hb4.mono (by first | omega | (simp; done) | (simp; omega)))).trans (hb5.mono (by first | omega | (simp; done) | (simp; omega)))).trans (hb6.mono (by first | omega | (simp; done) | (simp; omega)))).trans (hb7.mono (by first | omega | (simp; done) | (simp; omega)))).trans (hb8.mono (by first | omega | (simp; done) | (simp; omega)))).trans (hb9.mono (by first | omega | (simp; done) | (simp; omega)))).trans (hb10.mono (by first | omega | (simp; done) | (simp; omega)))).trans (hb11.mono (by first | omega | (simp; done) | (simp; omega)))) (Nat.le_refl _)) (by first | omega | (simp; done) | (simp; omega)) hn_aA) ?_
        rintro e w12 ⟨Af10, nf10, cf10, rfl, hb12, hf10⟩
        have sz12 := hb12.size
        go_wp2_with fail
        refine Calls.mono (eqStringS_any _ _ _ _ _ _ _ _ _ _ _ _ _ ((Fresh.rep hf6).keep (((((hb7.trans (hb8.mono (by first | omega | (simp; done) | (simp; omega)))).trans (hb9.mono (by first | omega | (simp; done) | (simp; omega)))).trans (hb10.mono (by first | omega | (simp; done) | (simp; omega)))).trans (hb11.mono (by first | omega | (simp; done) | (simp; omega)))).trans (hb12.mono (by first | omega | (simp; done) | (simp; omega)))) (Nat.le_refl _)) (Fresh.rep hf10)) ?_
        rintro e w13 ⟨rfl, kk, hkk⟩
        have hb13 : Below w12.heap.size w12 w13 := by rw [hkk]; exact below_drewN (Below.refl _ _) _
        clear hkk kk
        have sz13 := hb13.size
        go_wp2_with fail
        refine Calls.mono (toStringS_any _ _ _ _ _ _ _ (h2.keep ((((((((((((hb1.trans (hb2.mono (by first | omega | (simp; done) | (simp; omega)))).trans (hb3.mono (by first | omega | (simp; done) | (simp; omega)))).trans (hb4.mono (by first | omega | (simp; done) | (simp; omega)))).trans (hb5.mono (by first | omega | (simp; done) | (simp; omega)))).trans (hb6.mono (by first | omega | (simp; done) | (simp; omega)))).trans (hb7.mono (by first | omega | (simp; done) | (simp; omega)))).trans (hb8.mono (by first | omega | (simp; done) | (simp; omega)))).trans (hb9.mono (by first | omega | (simp; done) | (simp; omega)))).trans (hb10.mono (by first | omega | (simp; done) | (simp; omega)))).trans (hb11.mono (by first | omega | (simp; done) | (simp; omega)))).trans (hb12.mono (by first | omega | (simp; done) | (simp; omega)))).trans (hb13.mono (by first | omega | (simp; done) | (simp; omega)))) (Nat.le_refl _)) (by first | omega | (simp; done) | (simp; omega)) hn_aB) ?_
        rintro e w14 ⟨Af11, nf11, cf11, rfl, hb14, hf11⟩
        have sz14 := hb14.size
        go_wp2_with fail
        refine Calls.mono (eqStringS_any _ _ _ _ _ _ _ _ _ _ _ _ _ ((Fresh.rep hf7).keep ((((((hb8.trans (hb9.mono (by first | omega | (simp; done) | (simp; omega)))).trans (hb10.mono (by first | omega | (simp; done) | (simp; omega)))).trans (hb11.mono (by first | omega | (simp; done) | (simp; omega)))).trans (hb12.mono (by first | omega | (simp; done) | (simp; omega)))).trans (hb13.mono (by first | omega | (simp; done) | (simp; omega)))).trans (hb14.mono (by first | omega | (simp; done) | (simp; omega)))) (Nat.le_refl _)) (Fresh.rep hf11)) ?_
        rintro e w15 ⟨rfl, kk, hkk⟩
        have hb15 : Below w14.heap.size w14 w15 := by rw [hkk]; exact below_drewN (Below.refl _ _) _
        clear hkk kk
        have sz15 := hb15.size
        have hf12 := Fresh.keep hf5 (((((((((hb6.trans (hb7.mono (by first | omega | (simp; done) | (simp; omega)))).trans (hb8.mono (by first | omega | (simp; done) | (simp; omega)))).trans (hb9.mono (by first | omega | (simp; done) | (simp; omega)))).trans (hb10.mono (by first | omega | (simp; done) | (simp; omega)))).trans (hb11.mono (by first | omega | (simp; done) | (simp; omega)))).trans (hb12.mono (by first | omega | (simp; done) | (simp; omega)))).trans (hb13.mono (by first | omega | (simp; done) | (simp; omega)))).trans (hb14.mono (by first | omega | (simp; done) | (simp; omega)))).trans (hb15.mono (by first | omega | (simp; done) | (simp; omega)))) (Nat.le_refl _)
        have hf13 := Fresh.keep hf6 ((((((((hb7.trans (hb8.mono (by first | omega | (simp; done) | (simp; omega)))).trans (hb9.mono (by first | omega | (simp; done) | (simp; omega)))).trans (hb10.mono (by first | omega | (simp; done) | (simp; omega)))).trans (hb11.mono (by first | omega | (simp; done) | (simp; omega)))).trans (hb12.mono (by first | omega | (simp; done) | (simp; omega)))).trans (hb13.mono (by first | omega | (simp; done) | (simp; omega)))).trans (hb14.mono (by first | omega | (simp; done) | (simp; omega)))).trans (hb15.mono (by first | omega | (simp; done) | (simp; omega)))) (Nat.le_refl _)
        have hf14 := Fresh.keep hf7 (((((((hb8.trans (hb9.mono (by first | omega | (simp; done) | (simp; omega)))).trans (hb10.mono (by first | omega | (simp; done) | (simp; omega)))).trans (hb11.mono (by first | omega | (simp; done) | (simp; omega)))).trans (hb12.mono (by first | omega | (simp; done) | (simp; omega)))).trans (hb13.mono (by first | omega | (simp; done) | (simp; omega)))).trans (hb14.mono (by first | omega | (simp; done) | (simp; omega)))).trans (hb15.mono (by first | omega | (simp; done) | (simp; omega)))) (Nat.le_refl _)
        have hf15 := Fresh.keep hf8 ((((((hb9.trans (hb10.mono (by first | omega | (simp; done) | (simp; omega)))).trans (hb11.mono (by first | omega | (simp; done) | (simp; omega)))).trans (hb12.mono (by first | omega | (simp; done) | (simp; omega)))).trans (hb13.mono (by first | omega | (simp; done) | (simp; omega)))).trans (hb14.mono (by first | omega | (simp; done) | (simp; omega)))).trans (hb15.mono (by first | omega | (simp; done) | (simp; omega)))) (Nat.le_refl _)
        have hf16 := Fresh.keep hf4 ((((((((((hb5.trans (hb6.mono (by first | omega | (simp; done) | (simp; omega)))).trans (hb7.mono (by first | omega | (simp; done) | (simp; omega)))).trans (hb8.mono (by first | omega | (simp; done) | (simp; omega)))).trans (hb9.mono (by first | omega | (simp; done) | (simp; omega)))).trans (hb10.mono (by first | omega | (simp; done) | (simp; omega)))).trans (hb11.mono (by first | omega | (simp; done) | (simp; omega)))).trans (hb12.mono (by first | omega | (simp; done) | (simp; omega)))).trans (hb13.mono (by first | omega | (simp; done) | (simp; omega)))).trans (hb14.mono (by first | omega | (simp; done) | (simp; omega)))).trans (hb15.mono (by first | omega | (simp; done) | (simp; omega)))) (Nat.le_refl _)
        obtain ⟨FF1, fo1, fn1, fb1⟩ := hf12
        go_wp2_with fail
        refine Calls.mono (markStringS_any _ _ _ _ _ _ _ fo1 fn1 (by omega) (by omega)) ?_
        rintro e w16 ⟨rfl, fp1, hon1⟩
        have hb16 : Below w4.heap.size w15 w16 := hon1.below (fun z hz => (fb1 z hz).1) (by first | omega | (simp; done) | (simp; omega))
        have hf17 := (⟨FF1, fp1, fn1, fb1⟩ : Fresh w16 (w4.heap.size) (w5.heap.size) _ _)
        have hf18 := Fresh.same hf13 (hon1.same (fun z hz => by have := fb1 z hz; omega) (by first | omega | (simp; done) | (simp; omega)))
        have hf19 := Fresh.same hf14 (hon1.same (fun z hz => by have := fb1 z hz; omega) (by first | omega | (simp; done) | (simp; omega)))
        have hf20 := Fresh.same hf15 (hon1.same (fun z hz => by have := fb1 z hz; omega) (by first | omega | (simp; done) | (simp; omega)))
        have hf21 := Fresh.same hf16 (hon1.same (fun z hz => by have := fb1 z hz; omega) (by first | omega | (simp; done) | (simp; omega)))
        have sz16 := hb16.size
        clear hon1 fo1 fp1 fn1 fb1
        obtain ⟨FF2, fo2, fn2, fb2⟩ := hf18
        go_wp2_with fail
        refine Calls.mono (markStringS_any _ _ _ _ _ _ _ fo2 fn2 (by omega) (by omega)) ?_
        rintro e w17 ⟨rfl, fp2, hon2⟩
        have hb17 : Below w5.heap.size w16 w17 := hon2.below (fun z hz => (fb2 z hz).1) (by first | omega | (simp; done) | (simp; omega))
        have hf22 := Fresh.same hf17 (hon2.same (fun z hz => by have := fb2 z hz; omega) (by first | omega | (simp; done) | (simp; omega)))
        have hf23 := (⟨FF2, fp2, fn2, fb2⟩ : Fresh w17 (w5.heap.size) (w6.heap.size) _ _)
        have hf24 := Fresh.same hf19 (hon2.same (fun z hz => by have := fb2 z hz; omega) (by first | omega | (simp; done) | (simp; omega)))
        have hf25 := Fresh.same hf20 (hon2.same (fun z hz => by have := fb2 z hz; omega) (by first | omega | (simp; done) | (simp; omega)))
        have hf26 := Fresh.same hf21 (hon2.same (fun z hz => by have := fb2 z hz; omega) (by first | omega | (simp; done) | (simp; omega)))
        have sz17 := hb17.size
        clear hon2 fo2 fp2 fn2 fb2
        obtain ⟨FF3, fo3, fn3, fb3⟩ := hf24
        go_wp2_with fail
        refine Calls.mono (markStringS_any _ _ _ _ _ _ _ fo3 fn3 (by omega) (by omega)) ?_
        rintro e w18 ⟨rfl, fp3, hon3⟩
        have hb18 : Below w6.heap.size w17 w18 := hon3.below (fun z hz => (fb3 z hz).1) (by first | omega | (simp; done) | (simp; omega))
        have hf27 := Fresh.same hf22 (hon3.same (fun z hz => by have := fb3 z hz; omega) (by first | omega | (simp; done) | (simp; omega)))
        have hf28 := Fresh.same hf23 (hon3.same (fun z hz => by have := fb3 z hz; omega) (by first | omega | (simp; done) | (simp; omega)))
        have hf29 := (⟨FF3, fp3, fn3, fb3⟩ : Fresh w18 (w6.heap.size) (w7.heap.size) _ _)
        have hf30 := Fresh.same hf25 (hon3.same (fun z hz => by have := fb3 z hz; omega) (by first | omega | (simp; done) | (simp; omega)))
        have hf31 := Fresh.same hf26 (hon3.same (fun z hz => by have := fb3 z hz; omega) (by first | omega | (simp; done) | (simp; omega)))
        have sz18 := hb18.size
        clear hon3 fo3 fp3 fn3 fb3
        go_wp2_with fail
        refine Calls.mono (eqStringS_any _ _ _ _ _ _ _ _ _ _ _ _ _ (Fresh.rep hf30) (Fresh.rep hf31)) ?_
        rintro e w19 ⟨rfl, kk, hkk⟩
        have hb19 : Below w18.heap.size w18 w19 := by rw [hkk]; exact below_drewN (Below.refl _ _) _
        clear hkk kk
        have sz19 := hb19.size
        have hf32 := Fresh.keep hf27 hb19 (by first | omega | (simp; done) | (simp; omega))
        have hf33 := Fresh.keep hf28 hb19 (by first | omega | (simp; done) | (simp; omega))
        have hf34 := Fresh.keep hf29 hb19 (by first | omega | (simp; done) | (simp; omega))
        have hf35 := Fresh.keep hf30 hb19 (by first | omega | (simp; done) | (simp; omega))
        have hf36 := Fresh.keep hf31 hb19 (by first | omega | (simp; done) | (simp; omega))
        obtain ⟨FF4, fo4, fn4, fb4⟩ := hf35
        go_wp2_with fail
        refine Calls.mono (markStringS_any _ _ _ _ _ _ _ fo4 fn4 (by omega) (by omega)) ?_
        rintro e w20 ⟨rfl, fp4, hon4⟩
        have hb20 : Below w7.heap.size w19 w20 := hon4.below (fun z hz => (fb4 z hz).1) (by first | omega | (simp; done) | (simp; omega))
        have hf37 := Fresh.same hf32 (hon4.same (fun z hz => by have := fb4 z hz; omega) (by first | omega | (simp; done) | (simp; omega)))
        have hf38 := Fresh.same hf33 (hon4.same (fun z hz => by have := fb4 z hz; omega) (by first | omega | (simp; done) | (simp; omega)))
        have hf39 := Fresh.same hf34 (hon4.same (fun z hz => by have := fb4 z hz; omega) (by first | omega | (simp; done) | (simp; omega)))
        have hf40 := (⟨FF4, fp4, fn4, fb4⟩ : Fresh w20 (w7.heap.size) (w8.heap.size) _ _)
        have hf41 := Fresh.same hf36 (hon4.same (fun z hz => by have := fb4 z hz; omega) (by first | omega | (simp; done) | (simp; omega)))
        have sz20 := hb20.size
        clear hon4 fo4 fp4 fn4 fb4
        go_wp2_with fail
        refine Calls.mono (heldStringS_any _ _ _ _ _ _ _ _ (Fresh.rep hf40) (by first | omega | (simp; done) | (simp; omega)) (by omega) (by omega)) ?_
        rintro e w21 ⟨rfl, hb21⟩
        have sz21 := hb21.size
        go_wp2_with fail
        refine Calls.mono (toStringS_any _ _ _ _ _ _ _ (h0.keep ((((((((((((((((((((hb1.trans (hb2.mono (by first | omega | (simp; done) | (simp; omega)))).trans (hb3.mono (by first | omega | (simp; done) | (simp; omega)))).trans (hb4.mono (by first | omega | (simp; done) | (simp; omega)))).trans (hb5.mono (by first | omega | (simp; done) | (simp; omega)))).trans (hb6.mono (by first | omega | (simp; done) | (simp; omega)))).trans (hb7.mono (by first | omega | (simp; done) | (simp; omega)))).trans (hb8.mono (by first | omega | (simp; done) | (simp; omega)))).trans (hb9.mono (by first | omega | (simp; done) | (simp; omega)))).trans (hb10.mono (by first | omega | (simp; done) | (simp; omega)))).trans (hb11.mono (by first | omega | (simp; done) | (simp; omega)))).trans (hb12.mono (by first | omega | (simp; done) | (simp; omega)))).trans (hb13.mono (by first | omega | (simp; done) | (simp; omega)))).trans (hb14.mono (by first | omega | (simp; done) | (simp; omega)))).trans (hb15.mono (by first | omega | (simp; done) | (simp; omega)))).trans (hb16.mono (by first | omega | (simp; done) | (simp; omega)))).trans (hb17.mono (by first | omega | (simp; done) | (simp; omega)))).trans (hb18.mono (by first | omega | (simp; done) | (simp; omega)))).trans (hb19.mono (by first | omega | (simp; done) | (simp; omega)))).trans (hb20.mono (by first | omega | (simp; done) | (simp; omega)))).trans (hb21.mono (by first | omega | (simp; done) | (simp; omega)))) (Nat.le_refl _)) (by first | omega | (simp; done) | (simp; omega)) hn_aO) ?_
        rintro e w22 ⟨Af42, nf42, cf42, rfl, hb22, hf42⟩
        have sz22 := hb22.size
        go_wp2_with fail
        refine Calls.mono (toStringS_any _ _ _ _ _ _ _ (h1.keep (((((((((((((((((((((hb1.trans (hb2.mono (by first | omega | (simp; done) | (simp; omega)))).trans (hb3.mono (by first | omega | (simp; done) | (simp; omega)))).trans (hb4.mono (by first | omega | (simp; done) | (simp; omega)))).trans (hb5.mono (by first | omega | (simp; done) | (simp; omega)))).trans (hb6.mono (by first | omega | (simp; done) | (simp; omega)))).trans (hb7.mono (by first | omega | (simp; done) | (simp; omega)))).trans (hb8.mono (by first | omega | (simp; done) | (simp; omega)))).trans (hb9.mono (by first | omega | (simp; done) | (simp; omega)))).trans (hb10.mono (by first | omega | (simp; done) | (simp; omega)))).trans (hb11.mono (by first | omega | (simp; done) | (simp; omega)))).trans (hb12.mono (by first | omega | (simp; done) | (simp; omega)))).trans (hb13.mono (by first | omega | (simp; done) | (simp; omega)))).trans (hb14.mono (by first | omega | (simp; done) | (simp; omega)))).trans (hb15.mono (by first | omega | (simp; done) | (simp; omega)))).trans (hb16.mono (by first | omega | (simp; done) | (simp; omega)))).trans (hb17.mono (by first | omega | (simp; done) | (simp; omega)))).trans (hb18.mono (by first | omega | (simp; done) | (simp; omega)))).trans (hb19.mono (by first | omega | (simp; done) | (simp; omega)))).trans (hb20.mono (by first | omega | (simp; done) | (simp; omega)))).trans (hb21.mono (by first | omega | (simp; done) | (simp; omega)))).trans (hb22.mono (by first | omega | (simp; done) | (simp; omega)))) (Nat.le_refl _)) (by first | omega | (simp; done) | (simp; omega)) hn_aA) ?_
        rintro e w23 ⟨Af43, nf43, cf43, rfl, hb23, hf43⟩
        have sz23 := hb23.size
        go_wp2_with fail
        refine Calls.mono (toStringS_any _ _ _ _ _ _ _ (h2.keep ((((((((((((((((((((((hb1.trans (hb2.mono (by first | omega | (simp; done) | (simp; omega)))).trans (hb3.mono (by first | omega | (simp; done) | (simp; omega)))).trans (hb4.mono (by first | omega | (simp; done) | (simp; omega)))).trans (hb5.mono (by first | omega | (simp; done) | (simp; omega)))).trans (hb6.mono (by first | omega | (simp; done) | (simp; omega)))).trans (hb7.mono (by first | omega | (simp; done) | (simp; omega)))).trans (hb8.mono (by first | omega | (simp; done) | (simp; omega)))).trans (hb9.mono (by first | omega | (simp; done) | (simp; omega)))).trans (hb10.mono (by first | omega | (simp; done) | (simp; omega)))).trans (hb11.mono (by first | omega | (simp; done) | (simp; omega)))).trans (hb12.mono (by first | omega | (simp; done) | (simp; omega)))).trans (hb13.mono (by first | omega | (simp; done) | (simp; omega)))).trans (hb14.mono (by first | omega | (simp; done) | (simp; omega)))).trans (hb15.mono (by first | omega | (simp; done) | (simp; omega)))).trans (hb16.mono (by first | omega | (simp; done) | (simp; omega)))).trans (hb17.mono (by first | omega | (simp; done) | (simp; omega)))).trans (hb18.mono (by first | omega | (simp; done) | (simp; omega)))).trans (hb19.mono (by first | omega | (simp; done) | (simp; omega)))).trans (hb20.mono (by first | omega | (simp; done) | (simp; omega)))).trans (hb21.mono (by first | omega | (simp; done) | (simp; omega)))).trans (hb22.mono (by first | omega | (simp; done) | (simp; omega)))).trans (hb23.mono (by first | omega | (simp; done) | (simp; omega)))) (Nat.le_refl _)) (by first | omega | (simp; done) | (simp; omega)) hn_aB) ?_
        rintro e w24 ⟨Af44, nf44, cf44, rfl, hb24, hf44⟩
        have sz24 := hb24.size
        go_wp2_with fail
        refine Calls.mono (impl_MergeShow_any _ _ _ _ _ _ _ _ _ _ _ _ _ _ _ _ _ _ _ ((Fresh.rep hf42).keep (hb23.trans (hb24.mono (by first | omega | (simp; done) | (simp; omega)))) (Nat.le_refl _)) ((Fresh.rep hf43).keep hb24 (Nat.le_refl _)) (Fresh.rep hf44) (by first | omega | (simp; done) | (simp; omega)) (by first | omega | (simp; done) | (simp; omega)) (by first | omega | (simp; done) | (simp; omega))) ?_
        rintro e w25 ⟨Af45, nf45, cf45, rfl, hb25, hf45⟩
        have sz25 := hb25.size
        go_wp2_with fail
        refine Calls.mono (eqStringS_any _ _ _ _ _ _ _ _ _ _ _ _ _ (Fresh.rep hf45) ((Fresh.rep hf41).keep ((((hb21.trans (hb22.mono (by first | omega | (simp; done) | (simp; omega)))).trans (hb23.mono (by first | omega | (simp; done) | (simp; omega)))).trans (hb24.mono (by first | omega | (simp; done) | (simp; omega)))).trans (hb25.mono (by first | omega | (simp; done) | (simp; omega)))) (by first | omega | (simp; done) | (simp; omega)))) ?_
        rintro e w26 ⟨rfl, kk, hkk⟩
        have hb26 : Below w25.heap.size w25 w26 := by rw [hkk]; exact below_drewN (Below.refl _ _) _
        clear hkk kk
        have sz26 := hb26.size
        go_wp2_with fail
        refine Calls.mono (heldStringS_any _ _ _ _ _ _ _ _ ((Fresh.rep hf40).keep (((((hb21.trans (hb22.mono (by first | omega | (simp; done) | (simp; omega)))).trans (hb23.mono (by first | omega | (simp; done) | (simp; omega)))).trans (hb24.mono (by first | omega | (simp; done) | (simp; omega)))).trans (hb25.mono (by first | omega | (simp; done) | (simp; omega)))).trans (hb26.mono (by first | omega | (simp; done) | (simp; omega)))) (by first | omega | (simp; done) | (simp; omega))) (by first | omega | (simp; done) | (simp; omega)) (by omega) (by omega)) ?_
        rintro e w27 ⟨rfl, hb27⟩
        have sz27 := hb27.size
        go_wp2
        go_ret
        exact ⟨rfl, ((((((((((((((((((((((((((hb1.trans (hb2.mono (by first | omega | (simp; done) | (simp; omega)))).trans (hb3.mono (by first | omega | (simp; done) | (simp; omega)))).trans (hb4.mono (by first | omega | (simp; done) | (simp; omega)))).trans (hb5.mono (by first | omega | (simp; done) | (simp; omega)))).trans (hb6.mono (by first | omega | (simp; done) | (simp; omega)))).trans (hb7.mono (by first | omega | (simp; done) | (simp; omega)))).trans (hb8.mono (by first | omega | (simp; done) | (simp; omega)))).trans (hb9.mono (by first | omega | (simp; done) | (simp; omega)))).trans (hb10.mono (by first | omega | (simp; done) | (simp; omega)))).trans (hb11.mono (by first | omega | (simp; done) | (simp; omega)))).trans (hb12.mono (by first | omega | (simp; done) | (simp; omega)))).trans (hb13.mono (by first | omega | (simp; done) | (simp; omega)))).trans (hb14.mono (by first | omega | (simp; done) | (simp; omega)))).trans (hb15.mono (by first | omega | (simp; done) | (simp; omega)))).trans (hb16.mono (by first | omega | (simp; done) | (simp; omega)))).trans (hb17.mono (by first | omega | (simp; done) | (simp; omega)))).trans (hb18.mono (by first | omega | (simp; done) | (simp; omega)))).trans (hb19.mono (by first | omega | (simp; done) | (simp; omega)))).trans (hb20.mono (by first | omega | (simp; done) | (simp; omega)))).trans (hb21.mono (by first | omega | (simp; done) | (simp; omega)))).trans (hb22.mono (by first | omega | (simp; done) | (simp; omega)))).trans (hb23.mono (by first | omega | (simp; done) | (simp; omega)))).trans (hb24.mono (by first | omega | (simp; done) | (simp; omega)))).trans (hb25.mono (by first | omega | (simp; done) | (simp; omega)))).trans (hb26.mono (by first | omega | (simp; done) | (simp; omega)))).trans (hb27.mono (by first | omega | (simp; done) | (simp; omega))))⟩
end Go.Proofs.Ytfigfpoklppkgaa
