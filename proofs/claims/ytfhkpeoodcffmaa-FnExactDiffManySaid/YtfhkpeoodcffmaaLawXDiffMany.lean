/- The walk of the law FnExactDiffMany. Printed by wip/genwalk.py. -/
import Derived.Test.YtfhkpeoodcffmaaMany
namespace Go.Proofs.Ytfhkpeoodcffmaa
open Go.RowKit
set_option maxRecDepth 100000 in
set_option maxHeartbeats 2000000 in
theorem law_XDiffMany (A0 : Option Addr) (n0 c0 : Nat) (xs0 : List Str) (A1 : Option Addr) (n1 c1 : Nat) (xs1 : List Str) (w : World) (h0 : Rep w 0 w.heap.size (encText xs0) (.slice A0 n0 c0)) (ok0 : ∀ s ∈ xs0, s.length ≤ 9223372036854775807) (h1 : Rep w 0 w.heap.size (encText xs1) (.slice A1 n1 c1)) (ok1 : ∀ s ∈ xs1, s.length ≤ 9223372036854775807) :
    Calls Try.prog 5 #[.slice A0 n0 c0, .slice A1 n1 c1] w fun e w' => e = .returned (.bool true) ∧ Below w.heap.size w w' := by
  go_enter Try.func5, Try.ntmps5
  go_wp2_with fail
  refine Calls.mono (szStringS_any _ _ _ _ _ _ _ _ h0 ok0 (by omega) (by omega)) ?_
  rintro e w' ⟨⟨r1, rfl, rl1, ru1, rz1⟩, rfl⟩
  by_cases g1 : r1 < 0
  · go_wp2
    go_ret
    exact ⟨rfl, Below.refl _ _⟩
  ·
    have hz_aA : total xs0 ≤ 1048576 := by have := rz1 (by omega); omega
    have hn_aA := (small_of_total hz_aA).1
    clear rz1
    go_wp2_with fail
    refine Calls.mono (szStringS_any _ _ _ _ _ _ _ _ h1 ok1 (by omega) (by omega)) ?_
    rintro e w' ⟨⟨r2, rfl, rl2, ru2, rz2⟩, rfl⟩
    by_cases g2 : r2 < 0
    · go_wp2
      go_ret
      exact ⟨rfl, Below.refl _ _⟩
    ·
      have hz_aB : total xs1 ≤ 1048576 := by have := rz2 (by omega); omega
      have hn_aB := (small_of_total hz_aB).1
      clear rz2
      go_wp2_with fail
      refine Calls.mono (toStringS_any _ _ _ _ _ _ _ h0 (by first | omega | (simp; done) | (simp; omega)) hn_aA) ?_
      rintro e w1 ⟨Af1, nf1, cf1, rfl, hb1, hf1⟩
      have sz1 := hb1.size
      go_wp2_with fail
      refine Calls.mono (toStringS_any _ _ _ _ _ _ _ (h1.keep hb1 (Nat.le_refl _)) (by first | omega | (simp; done) | (simp; omega)) hn_aB) ?_
      rintro e w2 ⟨Af2, nf2, cf2, rfl, hb2, hf2⟩
      have sz2 := hb2.size
      go_wp2_with fail
      refine Calls.mono (spec_DiffMany_any _ _ _ _ _ _ _ _ _ _ _ _ _ (hf1.rep.keep hb2 (Nat.le_refl _)) hf2.rep (by first | omega | (simp; done) | (simp; omega)) (by first | omega | (simp; done) | (simp; omega)) ok0 ok1) ?_
      rintro e w3 ⟨rfl, hb3⟩
      have sz3 := hb3.size
      go_wp2_with fail
      refine Calls.mono (toStringS_any _ _ _ _ _ _ _ (h0.keep ((hb1.trans (hb2.mono (by first | omega | (simp; done) | (simp; omega)))).trans (hb3.mono (by first | omega | (simp; done) | (simp; omega)))) (Nat.le_refl _)) (by first | omega | (simp; done) | (simp; omega)) hn_aA) ?_
      rintro e w4 ⟨Af3, nf3, cf3, rfl, hb4, hf3⟩
      have sz4 := hb4.size
      go_wp2_with fail
      refine Calls.mono (toStringS_any _ _ _ _ _ _ _ (h1.keep (((hb1.trans (hb2.mono (by first | omega | (simp; done) | (simp; omega)))).trans (hb3.mono (by first | omega | (simp; done) | (simp; omega)))).trans (hb4.mono (by first | omega | (simp; done) | (simp; omega)))) (Nat.le_refl _)) (by first | omega | (simp; done) | (simp; omega)) hn_aB) ?_
      rintro e w5 ⟨Af4, nf4, cf4, rfl, hb5, hf4⟩
      have sz5 := hb5.size
      go_wp2_with fail
      refine Calls.mono (impl_DiffMany_any _ _ _ _ _ _ _ _ _ _ _ _ _ (hf3.rep.keep hb5 (Nat.le_refl _)) hf4.rep (by first | omega | (simp; done) | (simp; omega)) (by first | omega | (simp; done) | (simp; omega))) ?_
      rintro e w6 ⟨rfl, hb6⟩
      have sz6 := hb6.size
      go_wp2_with fail
      refine Calls.mono (toStringS_any _ _ _ _ _ _ _ (h0.keep (((((hb1.trans (hb2.mono (by first | omega | (simp; done) | (simp; omega)))).trans (hb3.mono (by first | omega | (simp; done) | (simp; omega)))).trans (hb4.mono (by first | omega | (simp; done) | (simp; omega)))).trans (hb5.mono (by first | omega | (simp; done) | (simp; omega)))).trans (hb6.mono (by first | omega | (simp; done) | (simp; omega)))) (Nat.le_refl _)) (by first | omega | (simp; done) | (simp; omega)) hn_aA) ?_
      rintro e w7 ⟨Af5, nf5, cf5, rfl, hb7, hf5⟩
      have sz7 := hb7.size
      go_wp2_with fail
      refine Calls.mono (eqStringS_any _ _ _ _ _ _ _ _ _ _ _ _ _ (hf3.rep.keep ((hb5.trans (hb6.mono (by first | omega | (simp; done) | (simp; omega)))).trans (hb7.mono (by first | omega | (simp; done) | (simp; omega)))) (Nat.le_refl _)) hf5.rep) ?_
      rintro e w8 ⟨rfl, kk, hkk⟩
      have hb8 : Below w7.heap.size w7 w8 := by rw [hkk]; exact below_drewN (Below.refl _ _) _
      clear hkk kk
      have sz8 := hb8.size
      go_wp2_with fail
      refine Calls.mono (toStringS_any _ _ _ _ _ _ _ (h1.keep (((((((hb1.trans (hb2.mono (by first | omega | (simp; done) | (simp; omega)))).trans (hb3.mono (by first | omega | (simp; done) | (simp; omega)))).trans (hb4.mono (by first | omega | (simp; done) | (simp; omega)))).trans (hb5.mono (by first | omega | (simp; done) | (simp; omega)))).trans (hb6.mono (by first | omega | (simp; done) | (simp; omega)))).trans (hb7.mono (by first | omega | (simp; done) | (simp; omega)))).trans (hb8.mono (by first | omega | (simp; done) | (simp; omega)))) (Nat.le_refl _)) (by first | omega | (simp; done) | (simp; omega)) hn_aB) ?_
      rintro e w9 ⟨Af6, nf6, cf6, rfl, hb9, hf6⟩
      have sz9 := hb9.size
      go_wp2_with fail
      refine Calls.mono (eqStringS_any _ _ _ _ _ _ _ _ _ _ _ _ _ (hf4.rep.keep (((hb6.trans (hb7.mono (by first | omega | (simp; done) | (simp; omega)))).trans (hb8.mono (by first | omega | (simp; done) | (simp; omega)))).trans (hb9.mono (by first | omega | (simp; done) | (simp; omega)))) (Nat.le_refl _)) hf6.rep) ?_
      rintro e w10 ⟨rfl, kk, hkk⟩
      have hb10 : Below w9.heap.size w9 w10 := by rw [hkk]; exact below_drewN (Below.refl _ _) _
      clear hkk kk
      have sz10 := hb10.size
      go_wp2
      go_ret
      exact ⟨rfl, (((((((((hb1.trans (hb2.mono (by first | omega | (simp; done) | (simp; omega)))).trans (hb3.mono (by first | omega | (simp; done) | (simp; omega)))).trans (hb4.mono (by first | omega | (simp; done) | (simp; omega)))).trans (hb5.mono (by first | omega | (simp; done) | (simp; omega)))).trans (hb6.mono (by first | omega | (simp; done) | (simp; omega)))).trans (hb7.mono (by first | omega | (simp; done) | (simp; omega)))).trans (hb8.mono (by first | omega | (simp; done) | (simp; omega)))).trans (hb9.mono (by first | omega | (simp; done) | (simp; omega)))).trans (hb10.mono (by first | omega | (simp; done) | (simp; omega))))⟩
end Go.Proofs.Ytfhkpeoodcffmaa
