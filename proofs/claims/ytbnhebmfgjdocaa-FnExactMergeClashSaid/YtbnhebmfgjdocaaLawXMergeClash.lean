/- The walk of the law FnExactMergeClash. Printed by wip/genwalk.py. -/
import Derived.Test.YtbnhebmfgjdocaaClash
namespace Go.Proofs.Ytbnhebmfgjdocaa
open Go.RowKit
set_option maxRecDepth 100000 in
set_option maxHeartbeats 2000000 in
theorem law_XMergeClash (A0 : Option Addr) (n0 c0 : Nat) (xs0 : List Str) (A1 : Option Addr) (n1 c1 : Nat) (xs1 : List Str) (A2 : Option Addr) (n2 c2 : Nat) (xs2 : List Str) (w : World) (h0 : Rep w 0 w.heap.size (encText xs0) (.slice A0 n0 c0)) (ok0 : ∀ s ∈ xs0, s.length ≤ 9223372036854775807) (h1 : Rep w 0 w.heap.size (encText xs1) (.slice A1 n1 c1)) (ok1 : ∀ s ∈ xs1, s.length ≤ 9223372036854775807) (h2 : Rep w 0 w.heap.size (encText xs2) (.slice A2 n2 c2)) (ok2 : ∀ s ∈ xs2, s.length ≤ 9223372036854775807) :
    Calls Try.prog 3 #[.slice A0 n0 c0, .slice A1 n1 c1, .slice A2 n2 c2] w fun e w' => e = .returned (.bool true) ∧ Below w.heap.size w w' := by
  go_enter Try.func3, Try.ntmps3
  go_wp2_with fail
  refine Calls.mono (szStringS_any _ _ _ _ _ _ _ _ h0 ok0 (by omega) (by omega)) ?_
  rintro e w' ⟨⟨r1, rfl, rl1, ru1, rz1⟩, rfl⟩
  by_cases g1 : r1 < 0
  · go_wp2
    go_ret
    exact ⟨rfl, Below.refl _ _⟩
  ·
    have hz_aO : total xs0 ≤ 1048576 := by have := rz1 (by omega); omega
    have hn_aO := (small_of_total hz_aO).1
    clear rz1
    go_wp2_with fail
    refine Calls.mono (szStringS_any _ _ _ _ _ _ _ _ h1 ok1 (by omega) (by omega)) ?_
    rintro e w' ⟨⟨r2, rfl, rl2, ru2, rz2⟩, rfl⟩
    by_cases g2 : r2 < 0
    · go_wp2
      go_ret
      exact ⟨rfl, Below.refl _ _⟩
    ·
      have hz_aA : total xs1 ≤ 1048576 := by have := rz2 (by omega); omega
      have hn_aA := (small_of_total hz_aA).1
      clear rz2
      go_wp2_with fail
      refine Calls.mono (szStringS_any _ _ _ _ _ _ _ _ h2 ok2 (by omega) (by omega)) ?_
      rintro e w' ⟨⟨r3, rfl, rl3, ru3, rz3⟩, rfl⟩
      by_cases g3 : r3 < 0
      · go_wp2
        go_ret
        exact ⟨rfl, Below.refl _ _⟩
      ·
        have hz_aB : total xs2 ≤ 1048576 := by have := rz3 (by omega); omega
        have hn_aB := (small_of_total hz_aB).1
        clear rz3
        go_wp2_with fail
        refine Calls.mono (toStringS_any _ _ _ _ _ _ _ h0 (by first | omega | (simp; done) | (simp; omega)) hn_aO) ?_
        rintro e w1 ⟨Af1, nf1, cf1, rfl, hb1, hf1⟩
        have sz1 := hb1.size
        go_wp2_with fail
        refine Calls.mono (toStringS_any _ _ _ _ _ _ _ (h1.keep hb1 (Nat.le_refl _)) (by first | omega | (simp; done) | (simp; omega)) hn_aA) ?_
        rintro e w2 ⟨Af2, nf2, cf2, rfl, hb2, hf2⟩
        have sz2 := hb2.size
        go_wp2_with fail
        refine Calls.mono (toStringS_any _ _ _ _ _ _ _ (h2.keep (hb1.trans (hb2.mono (by first | omega | (simp; done) | (simp; omega)))) (Nat.le_refl _)) (by first | omega | (simp; done) | (simp; omega)) hn_aB) ?_
        rintro e w3 ⟨Af3, nf3, cf3, rfl, hb3, hf3⟩
        have sz3 := hb3.size
        go_wp2_with fail
        refine Calls.mono (spec_MergeClash_any _ _ _ _ _ _ _ _ _ _ _ _ _ _ _ _ _ _ _ ((Fresh.rep hf1).keep (hb2.trans (hb3.mono (by first | omega | (simp; done) | (simp; omega)))) (Nat.le_refl _)) ((Fresh.rep hf2).keep hb3 (Nat.le_refl _)) (Fresh.rep hf3) (by first | omega | (simp; done) | (simp; omega)) (by first | omega | (simp; done) | (simp; omega)) (by first | omega | (simp; done) | (simp; omega)) ok0 ok1 ok2) ?_
        rintro e w4 ⟨rfl, hb4⟩
        have sz4 := hb4.size
        go_wp2_with fail
        refine Calls.mono (toStringS_any _ _ _ _ _ _ _ (h0.keep (((hb1.trans (hb2.mono (by first | omega | (simp; done) | (simp; omega)))).trans (hb3.mono (by first | omega | (simp; done) | (simp; omega)))).trans (hb4.mono (by first | omega | (simp; done) | (simp; omega)))) (Nat.le_refl _)) (by first | omega | (simp; done) | (simp; omega)) hn_aO) ?_
        rintro e w5 ⟨Af4, nf4, cf4, rfl, hb5, hf4⟩
        have sz5 := hb5.size
        go_wp2_with fail
        refine Calls.mono (toStringS_any _ _ _ _ _ _ _ (h1.keep ((((hb1.trans (hb2.mono (by first | omega | (simp; done) | (simp; omega)))).trans (hb3.mono (by first | omega | (simp; done) | (simp; omega)))).trans (hb4.mono (by first | omega | (simp; done) | (simp; omega)))).trans (hb5.mono (by first | omega | (simp; done) | (simp; omega)))) (Nat.le_refl _)) (by first | omega | (simp; done) | (simp; omega)) hn_aA) ?_
        rintro e w6 ⟨Af5, nf5, cf5, rfl, hb6, hf5⟩
        have sz6 := hb6.size
        go_wp2_with fail
        refine Calls.mono (toStringS_any _ _ _ _ _ _ _ (h2.keep (((((hb1.trans (hb2.mono (by first | omega | (simp; done) | (simp; omega)))).trans (hb3.mono (by first | omega | (simp; done) | (simp; omega)))).trans (hb4.mono (by first | omega | (simp; done) | (simp; omega)))).trans (hb5.mono (by first | omega | (simp; done) | (simp; omega)))).trans (hb6.mono (by first | omega | (simp; done) | (simp; omega)))) (Nat.le_refl _)) (by first | omega | (simp; done) | (simp; omega)) hn_aB) ?_
        rintro e w7 ⟨Af6, nf6, cf6, rfl, hb7, hf6⟩
        have sz7 := hb7.size
        go_wp2_with fail
        refine Calls.mono (impl_MergeClash_any _ _ _ _ _ _ _ _ _ _ _ _ _ _ _ _ _ _ _ ((Fresh.rep hf4).keep (hb6.trans (hb7.mono (by first | omega | (simp; done) | (simp; omega)))) (Nat.le_refl _)) ((Fresh.rep hf5).keep hb7 (Nat.le_refl _)) (Fresh.rep hf6) (by first | omega | (simp; done) | (simp; omega)) (by first | omega | (simp; done) | (simp; omega)) (by first | omega | (simp; done) | (simp; omega))) ?_
        rintro e w8 ⟨rfl, hb8⟩
        have sz8 := hb8.size
        go_wp2_with fail
        refine Calls.mono (toStringS_any _ _ _ _ _ _ _ (h0.keep (((((((hb1.trans (hb2.mono (by first | omega | (simp; done) | (simp; omega)))).trans (hb3.mono (by first | omega | (simp; done) | (simp; omega)))).trans (hb4.mono (by first | omega | (simp; done) | (simp; omega)))).trans (hb5.mono (by first | omega | (simp; done) | (simp; omega)))).trans (hb6.mono (by first | omega | (simp; done) | (simp; omega)))).trans (hb7.mono (by first | omega | (simp; done) | (simp; omega)))).trans (hb8.mono (by first | omega | (simp; done) | (simp; omega)))) (Nat.le_refl _)) (by first | omega | (simp; done) | (simp; omega)) hn_aO) ?_
        rintro e w9 ⟨Af7, nf7, cf7, rfl, hb9, hf7⟩
        have sz9 := hb9.size
        go_wp2_with fail
        refine Calls.mono (eqStringS_any _ _ _ _ _ _ _ _ _ _ _ _ _ ((Fresh.rep hf4).keep (((hb6.trans (hb7.mono (by first | omega | (simp; done) | (simp; omega)))).trans (hb8.mono (by first | omega | (simp; done) | (simp; omega)))).trans (hb9.mono (by first | omega | (simp; done) | (simp; omega)))) (Nat.le_refl _)) (Fresh.rep hf7)) ?_
        rintro e w10 ⟨rfl, kk, hkk⟩
        have hb10 : Below w9.heap.size w9 w10 := by rw [hkk]; exact below_drewN (Below.refl _ _) _
        clear hkk kk
        have sz10 := hb10.size
        go_wp2_with fail
        refine Calls.mono (toStringS_any _ _ _ _ _ _ _ (h1.keep (((((((((hb1.trans (hb2.mono (by first | omega | (simp; done) | (simp; omega)))).trans (hb3.mono (by first | omega | (simp; done) | (simp; omega)))).trans (hb4.mono (by first | omega | (simp; done) | (simp; omega)))).trans (hb5.mono (by first | omega | (simp; done) | (simp; omega)))).trans (hb6.mono (by first | omega | (simp; done) | (simp; omega)))).trans (hb7.mono (by first | omega | (simp; done) | (simp; omega)))).trans (hb8.mono (by first | omega | (simp; done) | (simp; omega)))).trans (hb9.mono (by first | omega | (simp; done) | (simp; omega)))).trans (hb10.mono (by first | omega | (simp; done) | (simp; omega)))) (Nat.le_refl _)) (by first | omega | (simp; done) | (simp; omega)) hn_aA) ?_
        rintro e w11 ⟨Af8, nf8, cf8, rfl, hb11, hf8⟩
        have sz11 := hb11.size
        go_wp2_with fail
        refine Calls.mono (eqStringS_any _ _ _ _ _ _ _ _ _ _ _ _ _ ((Fresh.rep hf5).keep ((((hb7.trans (hb8.mono (by first | omega | (simp; done) | (simp; omega)))).trans (hb9.mono (by first | omega | (simp; done) | (simp; omega)))).trans (hb10.mono (by first | omega | (simp; done) | (simp; omega)))).trans (hb11.mono (by first | omega | (simp; done) | (simp; omega)))) (Nat.le_refl _)) (Fresh.rep hf8)) ?_
        rintro e w12 ⟨rfl, kk, hkk⟩
        have hb12 : Below w11.heap.size w11 w12 := by rw [hkk]; exact below_drewN (Below.refl _ _) _
        clear hkk kk
        have sz12 := hb12.size
        go_wp2_with fail
        refine Calls.mono (toStringS_any _ _ _ _ _ _ _ (h2.keep (((((((((((hb1.trans (hb2.mono (by first | omega | (simp; done) | (simp; omega)))).trans (hb3.mono (by first | omega | (simp; done) | (simp; omega)))).trans (hb4.mono (by first | omega | (simp; done) | (simp; omega)))).trans (hb5.mono (by first | omega | (simp; done) | (simp; omega)))).trans (hb6.mono (by first | omega | (simp; done) | (simp; omega)))).trans (hb7.mono (by first | omega | (simp; done) | (simp; omega)))).trans (hb8.mono (by first | omega | (simp; done) | (simp; omega)))).trans (hb9.mono (by first | omega | (simp; done) | (simp; omega)))).trans (hb10.mono (by first | omega | (simp; done) | (simp; omega)))).trans (hb11.mono (by first | omega | (simp; done) | (simp; omega)))).trans (hb12.mono (by first | omega | (simp; done) | (simp; omega)))) (Nat.le_refl _)) (by first | omega | (simp; done) | (simp; omega)) hn_aB) ?_
        rintro e w13 ⟨Af9, nf9, cf9, rfl, hb13, hf9⟩
        have sz13 := hb13.size
        go_wp2_with fail
        refine Calls.mono (eqStringS_any _ _ _ _ _ _ _ _ _ _ _ _ _ ((Fresh.rep hf6).keep (((((hb8.trans (hb9.mono (by first | omega | (simp; done) | (simp; omega)))).trans (hb10.mono (by first | omega | (simp; done) | (simp; omega)))).trans (hb11.mono (by first | omega | (simp; done) | (simp; omega)))).trans (hb12.mono (by first | omega | (simp; done) | (simp; omega)))).trans (hb13.mono (by first | omega | (simp; done) | (simp; omega)))) (Nat.le_refl _)) (Fresh.rep hf9)) ?_
        rintro e w14 ⟨rfl, kk, hkk⟩
        have hb14 : Below w13.heap.size w13 w14 := by rw [hkk]; exact below_drewN (Below.refl _ _) _
        clear hkk kk
        have sz14 := hb14.size
        go_wp2
        go_ret
        exact ⟨rfl, (((((((((((((hb1.trans (hb2.mono (by first | omega | (simp; done) | (simp; omega)))).trans (hb3.mono (by first | omega | (simp; done) | (simp; omega)))).trans (hb4.mono (by first | omega | (simp; done) | (simp; omega)))).trans (hb5.mono (by first | omega | (simp; done) | (simp; omega)))).trans (hb6.mono (by first | omega | (simp; done) | (simp; omega)))).trans (hb7.mono (by first | omega | (simp; done) | (simp; omega)))).trans (hb8.mono (by first | omega | (simp; done) | (simp; omega)))).trans (hb9.mono (by first | omega | (simp; done) | (simp; omega)))).trans (hb10.mono (by first | omega | (simp; done) | (simp; omega)))).trans (hb11.mono (by first | omega | (simp; done) | (simp; omega)))).trans (hb12.mono (by first | omega | (simp; done) | (simp; omega)))).trans (hb13.mono (by first | omega | (simp; done) | (simp; omega)))).trans (hb14.mono (by first | omega | (simp; done) | (simp; omega))))⟩
end Go.Proofs.Ytbnhebmfgjdocaa
