/- Walks: three texts drawn: l30Three and the draws that are it. -/
import Derived.Test.YtbnhebmfgjdocaaDraw4
import Derived.OwnWalk
namespace Go.Proofs.Ytbnhebmfgjdocaa
open Go.RowKit

def Three (w w' : World) (xs ys zs : List Str) (v u t : Value) : Prop :=
  Below w.heap.size w w' ∧ Mine w' w.heap.size xs v ∧ Mine w' w.heap.size ys u ∧ Mine w' w.heap.size zs t ∧ xs.length ≤ 18 ∧ ys.length ≤ 22 ∧ zs.length ≤ 22
set_option maxHeartbeats 800000 in
theorem spec_l30Three_any (A : Option Addr) (n c : Nat) (bs : List UInt8) (w : World) (lo hi : Nat) (h : Rep w lo hi (encBytes bs) (.slice A n c)) (hh : hi ≤ w.heap.size) :
    Calls Try.prog 44 #[.slice A n c] w fun e w' => ∃ (xs ys zs : List Str) (v u t : Value), e = .returned (.tuple #[v, u, t]) ∧ Three w w' xs ys zs v u t := by
  go_enter Try.func44, Try.ntmps44
  go_wp2_with fail
  refine Calls.mono (spec_l30Open_any A n c bs w lo hi h hh) ?_
  rintro e w1 ⟨rfl, hb1, hd1⟩
  have hs1 := hb1.size
  have hlt := hd1.lt
  go_wp2_with fail
  refine Calls.mono (spec_l30AnyText_any w.heap.size 0 w1 hd1 (by omega)) ?_
  rintro e w2 ⟨xs, v, m2, rfl, hM2, hl2, hR2, hD2, hm2⟩
  have hs2 := hR2.size
  have hb2 : Below w.heap.size w w2 := hb1.trans (hR2.below (Nat.le_refl _) hs1)
  obtain ⟨A3, c3, rfl, hc3, hmx3, _⟩ := hM2.shape
  go_wp2_with fail
  refine Calls.mono (spec_l30Turn_any w.heap.size m2 A3 xs.length c3 xs w2 _ _ hD2 (by omega) hM2.fresh.rep (Nat.le_refl _) hM2.2 (by omega)) ?_
  rintro e w3 ⟨ys, u, m3, rfl, hM3, hl3, hR3, hD3, hm3⟩
  have hs3 := hR3.size
  have hM2' := hM2.rolls hR3 hlt
  have hb3 : Below w.heap.size w w3 := hb2.trans (hR3.below (Nat.le_refl _) (by omega))
  go_wp2_with fail
  refine Calls.mono (spec_pick_any w.heap.size m3 8 w3 hD3 (by omega)) ?_
  rintro e w4 ⟨q, rfl, q0, q1, hR4, hD4, -⟩
  have hs4 := hR4.size
  have hM2'' := hM2'.rolls hR4 hlt
  have hM3' := hM3.rolls hR4 (by omega)
  have hb4 : Below w.heap.size w w4 := hb3.trans (hR4.below (Nat.le_refl _) (by omega))
  by_cases hq : q = 0
  · subst hq
    go_wp2
    refine bodyPost_ret (results_tmp3 rfl _ _ _) rfl ?_
    exact ⟨xs, ys, ys, _, _, _, rfl, hb4, ⟨ownsRow_base hM2''.1 hs1, hM2''.2⟩, ⟨ownsRow_base hM3'.1 (by omega), hM3'.2⟩, ⟨ownsRow_base hM3'.1 (by omega), hM3'.2⟩, hl2, by omega, by omega⟩
  · go_wp2_with fail
    refine Calls.mono (spec_l30Turn_any w.heap.size (m3 + 1) A3 xs.length c3 xs w4 _ _ hD4 (by omega) hM2''.fresh.rep (Nat.le_refl _) hM2''.2 (by omega)) ?_
    rintro e w5 ⟨zs, t, m5, rfl, hM5, hl5, hR5, hD5, hm5⟩
    have hM2z := hM2''.rolls hR5 hlt
    have hM3z := hM3'.rolls hR5 (by omega)
    have hb5 : Below w.heap.size w w5 := hb4.trans (hR5.below (Nat.le_refl _) (by omega))
    go_wp2
    refine bodyPost_ret (results_tmp3 rfl _ _ _) rfl ?_
    exact ⟨xs, ys, zs, _, _, _, rfl, hb5, ⟨ownsRow_base hM2z.1 hs1, hM2z.2⟩, ⟨ownsRow_base hM3z.1 (by omega), hM3z.2⟩, ⟨ownsRow_base hM5.1 (by omega), hM5.2⟩, hl2, by omega, by omega⟩

set_option maxHeartbeats 400000 in
theorem spec_DrawMergeOf_any (A : Option Addr) (n c : Nat) (bs : List UInt8) (w : World) (lo hi : Nat) (h : Rep w lo hi (encBytes bs) (.slice A n c)) (hh : hi ≤ w.heap.size) :
    Calls Try.prog 23 #[.slice A n c] w fun e w' => ∃ (xs ys zs : List Str) (v u t : Value), e = .returned (.tuple #[v, u, t]) ∧ Three w w' xs ys zs v u t := by
  go_enter Try.func23, Try.ntmps23
  go_wp2_with fail
  refine Calls.mono (spec_l30Three_any A n c bs w lo hi h hh) ?_
  rintro e w1 ⟨xs, ys, zs, v, u, t, rfl, h3⟩
  go_wp2
  refine bodyPost_ret (results_tmp3 rfl _ _ _) rfl ?_
  exact ⟨xs, ys, zs, _, _, _, rfl, h3⟩

set_option maxHeartbeats 400000 in
theorem spec_DrawMergeText_any (A : Option Addr) (n c : Nat) (bs : List UInt8) (w : World) (lo hi : Nat) (h : Rep w lo hi (encBytes bs) (.slice A n c)) (hh : hi ≤ w.heap.size) :
    Calls Try.prog 31 #[.slice A n c] w fun e w' => ∃ (xs ys zs : List Str) (v u t : Value), e = .returned (.tuple #[v, u, t]) ∧ Three w w' xs ys zs v u t := by
  go_enter Try.func31, Try.ntmps31
  go_wp2_with fail
  refine Calls.mono (spec_l30Three_any A n c bs w lo hi h hh) ?_
  rintro e w1 ⟨xs, ys, zs, v, u, t, rfl, h3⟩
  go_wp2
  refine bodyPost_ret (results_tmp3 rfl _ _ _) rfl ?_
  exact ⟨xs, ys, zs, _, _, _, rfl, h3⟩

set_option maxHeartbeats 400000 in
theorem spec_DrawMergeClash_any (A : Option Addr) (n c : Nat) (bs : List UInt8) (w : World) (lo hi : Nat) (h : Rep w lo hi (encBytes bs) (.slice A n c)) (hh : hi ≤ w.heap.size) :
    Calls Try.prog 35 #[.slice A n c] w fun e w' => ∃ (xs ys zs : List Str) (v u t : Value), e = .returned (.tuple #[v, u, t]) ∧ Three w w' xs ys zs v u t := by
  go_enter Try.func35, Try.ntmps35
  go_wp2_with fail
  refine Calls.mono (spec_l30Three_any A n c bs w lo hi h hh) ?_
  rintro e w1 ⟨xs, ys, zs, v, u, t, rfl, h3⟩
  go_wp2
  refine bodyPost_ret (results_tmp3 rfl _ _ _) rfl ?_
  exact ⟨xs, ys, zs, _, _, _, rfl, h3⟩

end Go.Proofs.Ytbnhebmfgjdocaa
