/- Walks: two texts drawn: l30Two and the draws that are it. -/
import Derived.Test.YtpdbpekjfbeaaaaDraw3
namespace Go.Proofs.Ytpdbpekjfbeaaaa
open Go.RowKit

theorem ownsRow_base {w : World} {base base' e z n : Nat} {v : Value} {us : List Value} (h : w.ownsRow base e z v n us) (hb : base' ≤ base) : w.ownsRow base' e z v n us := by
  refine ⟨h.1, ?_⟩
  rcases h.2 with h2 | ⟨g, cap, cur, r1, r2, r3⟩
  · exact .inl h2
  · exact .inr ⟨g, cap, cur, r1, Nat.le_trans hb r2, r3⟩

set_option maxHeartbeats 800000 in
theorem spec_l30Two_any (A : Option Addr) (n c : Nat) (bs : List UInt8) (w : World) (lo hi : Nat) (h : Rep w lo hi (encBytes bs) (.slice A n c)) (hh : hi ≤ w.heap.size) :
    Calls Try.prog 56 #[.slice A n c] w fun e w' => ∃ (xs ys : List Str) (v u : Value), e = .returned (.tuple #[v, u]) ∧ Below w.heap.size w w' ∧ Mine w' w.heap.size xs v ∧ Mine w' w.heap.size ys u ∧ xs.length ≤ 18 ∧ ys.length ≤ 22 := by
  go_enter Try.func56, Try.ntmps56
  go_wp2_with fail
  refine Calls.mono (spec_l30Open_any A n c bs w lo hi h hh) ?_
  rintro e w1 ⟨rfl, hb1, hd1⟩
  have hs1 := hb1.size
  have hlt := hd1.lt
  go_wp2_with fail
  refine Calls.mono (spec_l30AnyText_any w.heap.size 0 w1 hd1 (by omega)) ?_
  rintro e w2 ⟨xs, v, m2, rfl, hM2, hl2, hR2, hD2, hm2⟩
  have hs2 := hR2.size
  have hb2 : Below w.heap.size w w2 := hb1.trans (hR2.below (Nat.le_refl _) hs1)
  go_wp2_with fail
  refine Calls.mono (spec_pick_any w.heap.size m2 4 w2 hD2 (by omega)) ?_
  rintro e w3 ⟨q, rfl, q0, q1, hR3, hD3, -⟩
  have hs3 := hR3.size
  have hM3 := hM2.rolls hR3 hlt
  have hb3 : Below w.heap.size w w3 := hb2.trans (hR3.below (Nat.le_refl _) (by omega))
  obtain ⟨A3, c3, rfl, hc3, hmx3, _⟩ := hM3.shape
  by_cases hq : q = 0
  · subst hq
    go_wp2_with fail
    refine Calls.mono (spec_l30AnyText_any w.heap.size (m2 + 1) w3 hD3 (by omega)) ?_
    rintro e w4 ⟨ys, u, m4, rfl, hM4, hl4, hR4, hD4, hm4⟩
    have hM5 := hM3.rolls hR4 hlt
    have hb4 : Below w.heap.size w w4 := hb3.trans (hR4.below (Nat.le_refl _) (by omega))
    go_wp2
    go_ret2
    exact ⟨xs, ys, _, _, rfl, hb4, ⟨ownsRow_base hM5.1 hs1, hM5.2⟩, ⟨ownsRow_base hM4.1 (by omega), hM4.2⟩, hl2, by omega⟩
  · go_wp2_with fail
    refine Calls.mono (spec_l30Turn_any w.heap.size (m2 + 1) A3 xs.length c3 xs w3 _ _ hD3 (by omega) hM3.fresh.rep (Nat.le_refl _) hM3.2 (by omega)) ?_
    rintro e w4 ⟨ys, u, m4, rfl, hM4, hl4, hR4, hD4, hm4⟩
    have hM5 := hM3.rolls hR4 hlt
    have hb4 : Below w.heap.size w w4 := hb3.trans (hR4.below (Nat.le_refl _) (by omega))
    go_wp2
    go_ret2
    exact ⟨xs, ys, _, _, rfl, hb4, ⟨ownsRow_base hM5.1 hs1, hM5.2⟩, ⟨ownsRow_base hM4.1 (by omega), hM4.2⟩, hl2, by omega⟩

set_option maxHeartbeats 400000 in
theorem spec_DrawDiffMatch_any (A : Option Addr) (n c : Nat) (bs : List UInt8) (w : World) (lo hi : Nat) (h : Rep w lo hi (encBytes bs) (.slice A n c)) (hh : hi ≤ w.heap.size) :
    Calls Try.prog 24 #[.slice A n c] w fun e w' => ∃ (xs ys : List Str) (v u : Value), e = .returned (.tuple #[v, u]) ∧ Below w.heap.size w w' ∧ Mine w' w.heap.size xs v ∧ Mine w' w.heap.size ys u ∧ xs.length ≤ 18 ∧ ys.length ≤ 22 := by
  go_enter Try.func24, Try.ntmps24
  go_wp2_with fail
  refine Calls.mono (spec_l30Two_any A n c bs w lo hi h hh) ?_
  rintro e w1 ⟨xs, ys, v, u, rfl, hb1, hM1, hM2, hl1, hl2⟩
  go_wp2
  go_ret2
  exact ⟨xs, ys, _, _, rfl, hb1, hM1, hM2, hl1, hl2⟩

set_option maxHeartbeats 400000 in
theorem spec_DrawDiffOf_any (A : Option Addr) (n c : Nat) (bs : List UInt8) (w : World) (lo hi : Nat) (h : Rep w lo hi (encBytes bs) (.slice A n c)) (hh : hi ≤ w.heap.size) :
    Calls Try.prog 46 #[.slice A n c] w fun e w' => ∃ (xs ys : List Str) (v u : Value), e = .returned (.tuple #[v, u]) ∧ Below w.heap.size w w' ∧ Mine w' w.heap.size xs v ∧ Mine w' w.heap.size ys u ∧ xs.length ≤ 18 ∧ ys.length ≤ 22 := by
  go_enter Try.func46, Try.ntmps46
  go_wp2_with fail
  refine Calls.mono (spec_l30Two_any A n c bs w lo hi h hh) ?_
  rintro e w1 ⟨xs, ys, v, u, rfl, hb1, hM1, hM2, hl1, hl2⟩
  go_wp2
  go_ret2
  exact ⟨xs, ys, _, _, rfl, hb1, hM1, hM2, hl1, hl2⟩


end Go.Proofs.Ytpdbpekjfbeaaaa
