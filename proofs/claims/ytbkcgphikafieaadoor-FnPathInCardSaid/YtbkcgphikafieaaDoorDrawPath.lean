/- Walks: draws of paths. -/
import Derived.Test.YtbkcgphikafieaaDoorDrawOf
namespace Go.Proofs.YtbkcgphikafieaaDoor
open Go.RowKit

def p_a : Str := [97]
def pathPool : List Str := [[97], [98], [100, 47, 101], [100, 47, 102], [103, 47, 104, 47, 105], [103, 47, 107], [122]]
def oddPool : List Str := [[], [100], [103], [65], [97, 47], [97, 47, 98, 47, 99, 47, 100], [116, 111, 111, 108, 111, 110, 103], [103, 47, 104], [100, 47, 101, 47, 102]]
def dirPool : List Str := [[97], [100], [103], [103, 47, 104], [100, 47, 101], [], [97, 97]]
theorem pool_small {s : Str} (h : s ∈ pathPool ∨ s ∈ oddPool ∨ s ∈ dirPool) : s.length ≤ 20 := by
  have h1 : ∀ s ∈ pathPool, s.length ≤ 20 := by decide
  have h2 : ∀ s ∈ oddPool, s.length ≤ 20 := by decide
  have h3 : ∀ s ∈ dirPool, s.length ≤ 20 := by decide
  rcases h with h | h | h
  · exact h1 s h
  · exact h2 s h
  · exact h3 s h

theorem spec_l30Path_any (b m : Nat) (w : World) (h : Rd w b m) (hm : m ≤ 1000000) :
    Calls Tryd.prog 70 #[.pointer (some ⟨b, 0, none⟩)] w fun e w' => ∃ s : Str, s ∈ pathPool ∧ e = .returned (.string ⟨s.toArray⟩) ∧ Rolls w.heap.size b w w' ∧ Rd w' b (m + 1) := by
  have hlt := h.lt
  go_enter Tryd.func70, Tryd.ntmps70
  go_wp2_with fail
  have hL := lit_text w 9 pathPool (by decide)
  refine Calls.mono (spec_of_any b m _ _ _ pathPool _ _ _ (h.alloc _) hm hL hlt (by simp) (by decide)) ?_
  rintro e w1 ⟨s, hs, rfl, z1, z2, z3⟩
  go_wp2
  go_ret
  exact ⟨s, hs, rfl, ((Rolls.refl _ _ _).alloc (Nat.le_refl _) _).trans (z1.mono (by simp)), z2⟩

set_option maxHeartbeats 400000 in
theorem spec_l30AnyPath_any (b m : Nat) (w : World) (h : Rd w b m) (hm : m ≤ 900000) :
    Calls Tryd.prog 48 #[.pointer (some ⟨b, 0, none⟩)] w fun e w' => ∃ s : Str, s.length ≤ 20 ∧ e = .returned (.string ⟨s.toArray⟩) ∧ Rolls w.heap.size b w w' ∧ Rd w' b (m + 2) := by
  have hlt := h.lt
  go_enter Tryd.func48, Tryd.ntmps48
  go_wp2_with fail
  refine Calls.mono (spec_pick_any b m 6 w h (by omega)) ?_
  rintro e w1 ⟨v, rfl, v0, v1, z1, z2, -⟩
  by_cases hv : v = 0
  · subst hv
    go_wp2_with fail
    have hL := lit_text w1 9 oddPool (by decide)
    refine Calls.mono (spec_of_any b (m + 1) _ _ _ oddPool _ _ _ (z2.alloc _) (by omega) hL z2.lt (by simp) (by decide)) ?_
    rintro e w2 ⟨s, hs, rfl, y1, y2, -⟩
    go_wp2
    go_ret
    exact ⟨s, pool_small (.inr (.inl hs)), rfl, z1.trans (((Rolls.refl _ _ _).alloc (Nat.le_refl _) _).trans (y1.mono (by simp)) |>.mono z1.size), y2⟩
  · have hv' : (v == 0) = false := by simpa using hv
    go_wp2_with fail
    refine Calls.mono (spec_l30Path_any b (m + 1) w1 z2 (by omega)) ?_
    rintro e w2 ⟨s, hs, rfl, y1, y2⟩
    go_wp2
    go_ret
    exact ⟨s, pool_small (.inl hs), rfl, z1.trans (y1.mono z1.size), y2⟩

set_option maxHeartbeats 400000 in
theorem spec_DrawPathIn_any (A : Option Addr) (n c : Nat) (bs : List UInt8) (w : World) (lo hi : Nat) (h : Rep w lo hi (encBytes bs) (.slice A n c)) (hh : hi ≤ w.heap.size) :
    Calls Tryd.prog 16 #[.slice A n c] w fun e w' => ∃ s t : Str, e = .returned (.tuple #[.string ⟨s.toArray⟩, .string ⟨t.toArray⟩]) ∧ Below w.heap.size w w' ∧ s.length ≤ 20 ∧ t.length ≤ 20 := by
  go_enter Tryd.func16, Tryd.ntmps16
  go_wp2_with fail
  refine Calls.mono (spec_l30Open_any A n c bs w lo hi h hh) ?_
  rintro e w1 ⟨rfl, hb, hd⟩
  have hlt := hd.lt
  go_wp2_with fail
  have hL := lit_text w1 9 dirPool (by decide)
  refine Calls.mono (spec_of_any w.heap.size 0 _ _ _ dirPool _ _ _ (hd.alloc _) (by omega) hL hlt (by simp) (by decide)) ?_
  rintro e w2 ⟨s, hs, rfl, z1, z2, z3⟩
  go_wp2_with fail
  refine Calls.mono (spec_l30AnyPath_any _ _ _ z2 (by omega)) ?_
  rintro e w3 ⟨t, ht, rfl, y1, y2⟩
  go_wp2
  go_ret2
  have z4 := (((Rolls.refl _ w.heap.size _).alloc (Nat.le_refl _) _).trans (z1.mono (by simp))).trans (y1.mono (by simp at z3; omega))
  exact ⟨s, t, rfl, hb.trans (z4.below (Nat.le_refl _) hb.size), pool_small (.inr (.inr hs)), ht⟩
end Go.Proofs.YtbkcgphikafieaaDoor
