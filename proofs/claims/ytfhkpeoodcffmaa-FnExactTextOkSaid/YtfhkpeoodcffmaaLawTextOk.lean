/- FnExactTextOk: the walk of the law. -/
import Derived.Test.YtfhkpeoodcffmaaText
import Derived.Test.YtfhkpeoodcffmaaOpen
namespace Go.Proofs.Ytfhkpeoodcffmaa
open Go.RowKit

theorem le_sum_of_mem : ∀ {l : List Nat} {a : Nat}, a ∈ l → a ≤ l.sum
  | b :: l, a, h => by
    rcases List.mem_cons.1 h with rfl | h
    · simp
    · have := le_sum_of_mem h
      simp; omega
theorem small_of_total {xs : List Str} (h : total xs ≤ 1048576) : xs.length ≤ 1048576 ∧ ∀ s ∈ xs, s.length ≤ 1048576 := by
  unfold total at h
  refine ⟨by omega, fun s hs => ?_⟩
  have : s.length ≤ (xs.map List.length).sum := le_sum_of_mem (List.mem_map_of_mem hs)
  omega

set_option maxHeartbeats 400000 in
theorem law_XTextOk (A : Option Addr) (n c : Nat) (xs : List Str) (w : World) (h : Rep w 0 w.heap.size (encText xs) (.slice A n c)) (hs : ∀ s ∈ xs, s.length ≤ 9223372036854775807) :
    Calls Try.prog 4 #[.slice A n c] w fun e w' => e = .returned (.bool true) ∧ Below w.heap.size w w' := by
  go_enter Try.func4, Try.ntmps4
  go_wp2_with fail
  refine (szStringS_any _ _ _ _ _ _ _ _ h hs (by omega) (by omega)).mono ?_
  rintro e w' ⟨⟨r, rfl, hr1, hr2, hr3⟩, rfl⟩
  by_cases hr : r < 0
  · go_wp2
    go_ret
    exact ⟨rfl, Below.refl _ _⟩
  · obtain ⟨hn, _⟩ := small_of_total (xs := xs) (by omega)
    go_wp2_with fail
    refine (toStringS_any _ _ _ _ _ _ _ h (Nat.le_refl _) hn).mono ?_
    rintro e w1 ⟨A1, n1, c1, rfl, hb1, hf1⟩
    go_wp2_with fail
    refine (spec_TextOk_any _ _ _ _ _ _ _ hf1.rep hs).mono ?_
    rintro e w' ⟨rfl, rfl⟩
    go_wp2_with fail
    refine (toStringS_any _ _ _ _ _ _ _ (h.keep hb1 (Nat.le_refl _)) hb1.size hn).mono ?_
    rintro e w2 ⟨A2, n2, c2, rfl, hb2, hf2⟩
    have hb2' := hb1.trans (hb2.mono hb1.size)
    go_wp2_with fail
    refine (impl_TextOk_any _ _ _ _ _ _ _ hf2.rep).mono ?_
    rintro e w' ⟨rfl, rfl⟩
    go_wp2_with fail
    refine (toStringS_any _ _ _ _ _ _ _ (h.keep hb2' (Nat.le_refl _)) hb2'.size hn).mono ?_
    rintro e w3 ⟨A3, n3, c3, rfl, hb3, hf3⟩
    have hb3' := hb2'.trans (hb3.mono hb2'.size)
    go_wp2_with fail
    refine (eqStringS_any _ _ _ _ _ _ _ _ _ _ _ _ _ (hf2.rep.keep hb3 (Nat.le_refl _)) hf3.rep).mono ?_
    rintro e w4 ⟨rfl, k, rfl⟩
    go_wp2
    go_ret
    exact ⟨rfl, hb3'.trans ⟨rfl, rfl, rfl, Nat.le_refl _, fun _ _ => rfl⟩⟩
end Go.Proofs.Ytfhkpeoodcffmaa
