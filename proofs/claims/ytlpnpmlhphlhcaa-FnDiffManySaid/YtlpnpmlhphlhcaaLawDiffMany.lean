/- The walk of the law FnDiffMany. -/
import Derived.Test.YtlpnpmlhphlhcaaLcsLaw
import Derived.Test.YtlpnpmlhphlhcaaDraw4
namespace Go.Proofs.Ytlpnpmlhphlhcaa
open Go.RowKit

theorem small20 {xs : List Str} (h : ∀ s ∈ xs, s.length ≤ 20) : ∀ s ∈ xs, s.length ≤ 9223372036854775807 := fun s hs => by have := h s hs; omega

set_option maxRecDepth 100000 in
set_option maxHeartbeats 3200000 in
theorem law_DiffMany (A0 : Option Addr) (n0 c0 : Nat) (bs0 : List UInt8) (A9 : Option Addr) (n9 c9 : Nat) (bs9 : List UInt8) (w : World) (h0 : Rep w 0 w.heap.size (encBytes bs0) (.slice A0 n0 c0)) (h9 : Rep w 0 w.heap.size (encBytes bs9) (.slice A9 n9 c9)) :
    Calls Try.prog 3 #[.slice A0 n0 c0, .slice A9 n9 c9] w fun e w' => e = .returned (.bool true) ∧ Below w.heap.size w w' := by
  have hl0 := Bytes.n h0
  have hl9 := Bytes.n h9
  subst hl0 hl9
  by_cases g0 : 1048576 < (bs0.length : Int)
  · go_enter Try.func3, Try.ntmps3
    go_wp2
    go_ret
    exact ⟨rfl, Below.refl _ _⟩
  by_cases g9 : 1048576 < (bs9.length : Int)
  · go_enter Try.func3, Try.ntmps3
    go_wp2
    go_ret
    exact ⟨rfl, Below.refl _ _⟩
  go_enter Try.func3, Try.ntmps3
  go_wp2_with fail
  refine Calls.mono (spec_DrawDiffMany_any A0 bs0.length c0 bs0 w 0 w.heap.size h0 (Nat.le_refl _)) ?_
  rintro e w1 ⟨xs, ys, v, u, rfl, hb1, hM1, hM2, hl1, hl2⟩
  obtain ⟨A1, c1, rfl, hc1, _, _⟩ := hM1.shape
  obtain ⟨A2, c2, rfl, hc2, _, _⟩ := hM2.shape
  have R1 := hM1.fresh.rep
  have R2 := hM2.fresh.rep
  have k1 := small20 hM1.2
  have k2 := small20 hM2.2
  have hs1 := hb1.size
  go_wp2_with fail
  refine Calls.mono (spec_DrawDiffMany_any A9 bs9.length c9 bs9 w1 0 w.heap.size (h9.keep hb1 (Nat.le_refl _)) hs1) ?_
  rintro e w2 ⟨zs, us, v, u, rfl, hb2, hM3, hM4, hl3, hl4⟩
  obtain ⟨A3, c3, rfl, hc3, _, _⟩ := hM3.shape
  have R3 := hM3.fresh.rep
  have hs2 := hb2.size
  replace R1 := R1.keep hb2 (Nat.le_refl _)
  replace R2 := R2.keep hb2 (Nat.le_refl _)
  have B2 : Below w.heap.size w w2 := hb1.trans (hb2.mono hs1)
  have q2 := B2.size
  obtain ⟨r1, r2⟩ := many_range xs ys
  have bnd := @many_bounds xs ys
  have zer := @many_zero xs ys
  have tri := @many_triangle xs ys zs
  have sym := many_symm xs ys
  obtain ⟨r3, r4⟩ := many_range xs zs
  obtain ⟨r5, r6⟩ := many_range zs ys
  go_wp2_with fail
  refine Calls.mono (impl_DiffMany_any _ _ _ _ _ _ xs ys w2 _ _ _ _ R1 R2 hs2 hs2) ?_
  rintro e w3 ⟨rfl, hb3⟩
  have hs3 := hb3.size
  go_wp2_with fail
  refine Calls.mono (spec_DiffMany_any _ _ _ _ _ _ xs ys w3 _ _ _ _ (R1.keep hb3 hs2) (R2.keep hb3 hs2) (Nat.le_trans hs2 hs3) (Nat.le_trans hs2 hs3) k1 k2) ?_
  rintro e w4 ⟨rfl, hb4⟩
  have B4 : Below w2.heap.size w2 w4 := hb3.trans (hb4.mono hs3)
  have hs4 := B4.size
  replace R1 := R1.keep B4 hs2
  replace R2 := R2.keep B4 hs2
  replace R3 := R3.keep B4 (Nat.le_refl _)
  have T4 : w1.heap.size ≤ w4.heap.size := Nat.le_trans hs2 hs4
  have BW : Below w.heap.size w w4 := B2.trans (B4.mono q2)
  clear hb1 hb2 hb3 hb4 B4 B2 hM1 hM2 hM3 hM4
  by_cases hneg : diffMany xs ys < 0
  · go_wp2_with fail
    refine Calls.mono (spec_DiffMany_any _ _ _ _ _ _ xs ys w4 _ _ _ _ R1 R2 T4 T4 k1 k2) ?_
    rintro e w5 ⟨rfl, hb5⟩
    go_wp2
    go_ret
    exact ⟨by simp, BW.trans (hb5.mono BW.size)⟩
  have hpos : 0 ≤ diffMany xs ys := by omega
  replace bnd := bnd hpos
  replace zer := zer hpos
  replace tri := tri hpos
  obtain ⟨b1, b2, b3⟩ := bnd
  have main : ∀ (P : Prop), ((xs.length : Int) < ys.length → P) → (¬ (xs.length : Int) < ys.length → P) → P := fun P p q => by
    by_cases h : (xs.length : Int) < ys.length
    · exact p h
    · exact q h
  have hz : (diffMany xs ys == 0) = decide (xs = ys) := by
    by_cases e : xs = ys
    · simp [e]
      have := zer.2 e
      rw [e] at this
      exact this
    · have : diffMany xs ys ≠ 0 := fun h => e (zer.1 h)
      simp [e, this]
  obtain ⟨N, eN⟩ : ∃ N, N = diffMany xs ys := ⟨_, rfl⟩
  rw [← eN] at hz b1 b2 b3 tri sym r1 r2 hpos hneg ⊢
  have Hz := Lib.hid hz
  have Htri := Lib.hid tri
  clear zer tri eN hz
  refine main _ (fun hle => ?_) (fun hle => ?_)
  all_goals
    go_wp2_with fail
    refine Calls.mono (impl_DiffMany_any _ _ _ _ _ _ ys xs w4 _ _ _ _ R2 R1 T4 T4) ?_
    rintro e w5 ⟨rfl, hb5⟩
    rw [sym]
    have hs5 := hb5.size
    go_wp2_with fail
    refine Calls.mono (smTexts_any _ _ _ _ _ _ xs ys w5 _ _ _ _ (R1.keep hb5 T4) (R2.keep hb5 T4)) ?_
    rintro e w6 ⟨rfl, k6, rfl⟩
    rw [← Hz.out]
    go_wp2_with fail
    refine Calls.mono (impl_TextOk_any _ _ _ zs _ _ _ ((R3.keep hb5 hs4).drewN k6)) ?_
    rintro e w' ⟨rfl, rfl⟩
    have B6 := below_drewN (BW.trans (hb5.mono BW.size)) k6
    cases tz : textOk zs
    · go_wp2
      go_ret
      exact ⟨by simp, B6⟩
    · have htri := Htri.out tz
      go_wp2_with fail
      refine Calls.mono (impl_DiffMany_any _ _ _ _ _ _ xs zs (w5.drewN k6) _ _ _ _ ((R1.keep hb5 T4).drewN k6) ((R3.keep hb5 hs4).drewN k6) (Nat.le_trans T4 hs5) (Nat.le_trans hs4 hs5)) ?_
      rintro e w7 ⟨rfl, hb7⟩
      have hs7 := hb7.size
      go_wp2_with fail
      refine Calls.mono (impl_DiffMany_any _ _ _ _ _ _ zs ys w7 _ _ _ _ (((R3.keep hb5 hs4).drewN k6).keep hb7 (Nat.le_trans hs4 hs5)) (((R2.keep hb5 T4).drewN k6).keep hb7 (Nat.le_trans T4 hs5)) (Nat.le_trans (Nat.le_trans hs4 hs5) hs7) (Nat.le_trans (Nat.le_trans T4 hs5) hs7)) ?_
      rintro e w8 ⟨rfl, hb8⟩
      go_wp2
      go_ret
      exact ⟨by simp; try omega, (B6.trans (hb7.mono B6.size)).trans (hb8.mono (Nat.le_trans B6.size hs7))⟩
end Go.Proofs.Ytlpnpmlhphlhcaa
