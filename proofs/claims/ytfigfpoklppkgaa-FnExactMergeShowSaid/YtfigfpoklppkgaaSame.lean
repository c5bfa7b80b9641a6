/- Two walks: the comparison of two texts by Go's library and by the reference. -/
import Derived.Test.YtfigfpoklppkgaaCopy
namespace Go.Proofs.Ytfigfpoklppkgaa
open Go.RowKit

set_option maxHeartbeats 400000 in
theorem slices_Equal_any (A1 A2 : Option Addr) (n1 c1 n2 c2 : Nat) (xs ys : List Str) (w : World) (lo hi lo' hi' : Nat) (h1 : Rep w lo hi (encText xs) (.slice A1 n1 c1)) (h2 : Rep w lo' hi' (encText ys) (.slice A2 n2 c2)) :
    Calls Try.prog 25 #[.slice A1 n1 c1, .slice A2 n2 c2] w fun e w' => e = .returned (.bool (decide (xs = ys))) ∧ ∃ k, w' = w.drewN k := by
  have hl1 := Text.n h1
  have hl2 := Text.n h2
  obtain ⟨hc1, hm1⟩ := Text.cap h1
  subst hl1 hl2
  by_cases hn : xs.length = ys.length
  · have hn' : ((xs.length : Int) != (ys.length : Int)) = false := by simp [hn]
    have Hn := Lib.hid hn
    clear hn
    go_enter Try.func25, Try.ntmps25
    go_wp2
    go_loopw [13] (fun i wr => ∃ k : Nat, k ≤ xs.length ∧ i = .int .i64 k ∧ Hid (xs.take k = ys.take k) ∧ ∃ m, wr = w.drewN m) (fun i _ => xs.length - (intOf i).toNat)
    case atStart => exact ⟨0, Nat.zero_le _, rfl, Lib.hid (by simp), 0, rfl⟩
    case round =>
      obtain ⟨k, hk, rfl, ht, m, rfl⟩ := hrel
      by_cases hlt : k < xs.length
      · obtain ⟨b1, o1, s1, rfl, _, _, hs1, hcell1⟩ := Text.at h1 hlt
        obtain ⟨b2, o2, s2, rfl, _, _, hs2, hcell2⟩ := Text.at h2 (k := k) (by have := Hn.out; omega)
        have hlt' : (k : Int) < (xs.length : Int) := by omega
        have hlt2 : (k : Int) < (ys.length : Int) := by have := Hn.out; omega
        have hkey : xs.take (k + 1) = ys.take (k + 1) ↔ s1 = s2 := by
          rw [List.take_add_one, List.take_add_one, hs1, hs2, ht.out]; simp
        have Hk := Lib.hid hkey
        have H1 := Lib.hid hs1
        have H2 := Lib.hid hs2
        clear hs1 hs2 hkey
        by_cases he : s1 = s2
        · subst he
          go_wp2
          go_quiet (fail)
          go_wp2
          go_roundw
          case rel => exact ⟨k + 1, by omega, by go_num, Lib.hid (Hk.out.2 (by simp)), m + nq, by simp⟩
          case measure => simp [intOf]; omega
        · have hb : (s1 == s2) = false := by simp [he]
          go_wp2
          go_quiet (fail)
          go_wp2
          go_ret
          refine ⟨?_, m + nq, by simp⟩
          have : xs ≠ ys := fun e => he (Hk.out.1 (by rw [e]))
          simp [this]
      · go_wp2
        go_ret
        refine ⟨?_, m, rfl⟩
        have : xs = ys := by
          have ht := ht.out
          have hn := Hn.out
          rwa [List.take_of_length_le (by omega), List.take_of_length_le (by omega)] at ht
        simp [this]
  · have hn' : ((xs.length : Int) != (ys.length : Int)) = true := by simp; omega
    go_enter Try.func25, Try.ntmps25
    go_wp2
    go_ret
    refine ⟨?_, 0, rfl⟩
    have : xs ≠ ys := fun e => hn (by rw [e])
    simp [this]

set_option maxHeartbeats 400000 in
theorem spec_l1Same_any (A1 A2 : Option Addr) (n1 c1 n2 c2 : Nat) (xs ys : List Str) (w : World) (lo hi lo' hi' : Nat) (h1 : Rep w lo hi (encText xs) (.slice A1 n1 c1)) (h2 : Rep w lo' hi' (encText ys) (.slice A2 n2 c2)) :
    Calls Try.prog 28 #[.slice A1 n1 c1, .slice A2 n2 c2] w fun e w' => e = .returned (.bool (decide (xs = ys))) ∧ ∃ k, w' = w.drewN k := by
  have hl1 := Text.n h1
  have hl2 := Text.n h2
  obtain ⟨hc1, hm1⟩ := Text.cap h1
  subst hl1 hl2
  by_cases hn : xs.length = ys.length
  · have hn' : ((xs.length : Int) != (ys.length : Int)) = false := by simp [hn]
    have Hn := Lib.hid hn
    clear hn
    go_enter Try.func28, Try.ntmps28
    go_wp2
    go_loopw [5] (fun i wr => ∃ k : Nat, k ≤ xs.length ∧ i = .int .i64 k ∧ Hid (xs.take k = ys.take k) ∧ ∃ m, wr = w.drewN m) (fun i _ => xs.length - (intOf i).toNat)
    case atStart => exact ⟨0, Nat.zero_le _, rfl, Lib.hid (by simp), 0, rfl⟩
    case round =>
      obtain ⟨k, hk, rfl, ht, m, rfl⟩ := hrel
      by_cases hlt : k < xs.length
      · obtain ⟨b1, o1, s1, rfl, _, _, hs1, hcell1⟩ := Text.at h1 hlt
        obtain ⟨b2, o2, s2, rfl, _, _, hs2, hcell2⟩ := Text.at h2 (k := k) (by have := Hn.out; omega)
        have hlt' : (k : Int) < (xs.length : Int) := by omega
        have hlt2 : (k : Int) < (ys.length : Int) := by have := Hn.out; omega
        have hkey : xs.take (k + 1) = ys.take (k + 1) ↔ s1 = s2 := by
          rw [List.take_add_one, List.take_add_one, hs1, hs2, ht.out]; simp
        have Hk := Lib.hid hkey
        have H1 := Lib.hid hs1
        have H2 := Lib.hid hs2
        clear hs1 hs2 hkey
        by_cases he : s1 = s2
        · subst he
          go_wp2
          go_quiet (fail)
          go_wp2
          go_roundw
          case rel => exact ⟨k + 1, by omega, by go_num, Lib.hid (Hk.out.2 (by simp)), m + nq, by simp⟩
          case measure => simp [intOf]; omega
        · have hb : (s1 == s2) = false := by simp [he]
          go_wp2
          go_quiet (fail)
          go_wp2
          go_ret
          refine ⟨?_, m + nq, by simp⟩
          have : xs ≠ ys := fun e => he (Hk.out.1 (by rw [e]))
          simp [this]
      · go_wp2
        go_ret
        refine ⟨?_, m, rfl⟩
        have : xs = ys := by
          have ht := ht.out
          have hn := Hn.out
          rwa [List.take_of_length_le (by omega), List.take_of_length_le (by omega)] at ht
        simp [this]
  · have hn' : ((xs.length : Int) != (ys.length : Int)) = true := by simp; omega
    go_enter Try.func28, Try.ntmps28
    go_wp2
    go_ret
    refine ⟨?_, 0, rfl⟩
    have : xs ≠ ys := fun e => hn (by rw [e])
    simp [this]

end Go.Proofs.Ytfigfpoklppkgaa
