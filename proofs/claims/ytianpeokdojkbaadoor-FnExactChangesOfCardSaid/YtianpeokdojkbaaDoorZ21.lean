/- Several of my texts in one: Same, Contains. -/
import Derived.Test.YtianpeokdojkbaaDoorCopy
/- Two walks: the comparison of two texts by Go's library and by the reference. -/
namespace Go.Proofs.YtianpeokdojkbaaDoor
open Go.RowKit

set_option maxHeartbeats 400000 in
theorem slices_Equal_any (A1 A2 : Option Addr) (n1 c1 n2 c2 : Nat) (xs ys : List Str) (w : World) (lo hi lo' hi' : Nat) (h1 : Rep w lo hi (encText xs) (.slice A1 n1 c1)) (h2 : Rep w lo' hi' (encText ys) (.slice A2 n2 c2)) :
    Calls Tryd.prog 24 #[.slice A1 n1 c1, .slice A2 n2 c2] w fun e w' => e = .returned (.bool (decide (xs = ys))) ∧ ∃ k, w' = w.drewN k := by
  have hl1 := Text.n h1
  have hl2 := Text.n h2
  obtain ⟨hc1, hm1⟩ := Text.cap h1
  subst hl1 hl2
  by_cases hn : xs.length = ys.length
  · have hn' : ((xs.length : Int) != (ys.length : Int)) = false := by simp [hn]
    have Hn := Lib.hid hn
    clear hn
    go_enter Tryd.func24, Tryd.ntmps24
    go_wp2
    go_loopw [13] (fun i wr => ∃ k : Nat, k ≤ xs.length ∧ i = .int .i64 k ∧ Hid (xs.take k = ys.take k) ∧ ∃ m, wr = w.drewN m) (fun i _ => xs.length - (intOf i).toNat)
    case atStart => exact ⟨0, Nat.zero_le _, rfl, Lib.hid (by simp), 0, rfl⟩
    case round =>
      obtain ⟨k, hk, rfl, ht, m, rfl⟩ := hrel
      by_cases hlt : k < xs.length
      · obtain ⟨b1, o1, s1, rfl, _, _, hs1, hcell1⟩ := Text.at h1 hlt
        obtain ⟨b2, o2, s2, rfl, _, _, hs2, hcell2⟩ := Text.at h2 (k := k) (by have := Hn.out; omega)
        have hlt' : (k : Int) < (xs.length : Int) := by omega
        have hlt2 : (k : Int) < (ys.length : Int) := by have := Hn.out; omega
        have hkey : xs.take (k + 1) = ys.take (k + 1) ↔ s1 = s2 := by
          rw [List.take_add_one, List.take_add_one, hs1, hs2, ht.out]; simp
        have Hk := Lib.hid hkey
        have H1 := Lib.hid hs1
        have H2 := Lib.hid hs2
        clear hs1 hs2 hkey
        by_cases he : s1 = s2
        · subst he
          go_wp2
          go_quiet (fail)
          go_wp2
          go_roundw
          case rel => exact ⟨k + 1, by omega, by go_num, Lib.hid (Hk.out.2 (by simp)), m + nq, by simp⟩
          case measure => simp [intOf]; omega
        · have hb : (s1 == s2) = false := by simp [he]
          go_wp2
          go_quiet (fail)
          go_wp2
          go_ret
          refine ⟨?_, m + nq, by simp⟩
          have : xs ≠ ys := fun e => he (Hk.out.1 (by rw [e]))
          simp [this]
      · go_wp2
        go_ret
        refine ⟨?_, m, rfl⟩
        have : xs = ys := by
          have ht := ht.out
          have hn := Hn.out
          rwa [List.take_of_length_le (by omega), List.take_of_length_le (by omega)] at ht
        simp [this]
  · have hn' : ((xs.length : Int) != (ys.length : Int)) = true := by simp; omega
    go_enter Tryd.func24, Tryd.ntmps24
    go_wp2
    go_ret
    refine ⟨?_, 0, rfl⟩
    have : xs ≠ ys := fun e => hn (by rw [e])
    simp [this]

set_option maxHeartbeats 400000 in
theorem spec_l1Same_any (A1 A2 : Option Addr) (n1 c1 n2 c2 : Nat) (xs ys : List Str) (w : World) (lo hi lo' hi' : Nat) (h1 : Rep w lo hi (encText xs) (.slice A1 n1 c1)) (h2 : Rep w lo' hi' (encText ys) (.slice A2 n2 c2)) :
    Calls Tryd.prog 46 #[.slice A1 n1 c1, .slice A2 n2 c2] w fun e w' => e = .returned (.bool (decide (xs = ys))) ∧ ∃ k, w' = w.drewN k := by
  have hl1 := Text.n h1
  have hl2 := Text.n h2
  obtain ⟨hc1, hm1⟩ := Text.cap h1
  subst hl1 hl2
  by_cases hn : xs.length = ys.length
  · have hn' : ((xs.length : Int) != (ys.length : Int)) = false := by simp [hn]
    have Hn := Lib.hid hn
    clear hn
    go_enter Tryd.func46, Tryd.ntmps46
    go_wp2
    go_loopw [5] (fun i wr => ∃ k : Nat, k ≤ xs.length ∧ i = .int .i64 k ∧ Hid (xs.take k = ys.take k) ∧ ∃ m, wr = w.drewN m) (fun i _ => xs.length - (intOf i).toNat)
    case atStart => exact ⟨0, Nat.zero_le _, rfl, Lib.hid (by simp), 0, rfl⟩
    case round =>
      obtain ⟨k, hk, rfl, ht, m, rfl⟩ := hrel
      by_cases hlt : k < xs.length
      · obtain ⟨b1, o1, s1, rfl, _, _, hs1, hcell1⟩ := Text.at h1 hlt
        obtain ⟨b2, o2, s2, rfl, _, _, hs2, hcell2⟩ := Text.at h2 (k := k) (by have := Hn.out; omega)
        have hlt' : (k : Int) < (xs.length : Int) := by omega
        have hlt2 : (k : Int) < (ys.length : Int) := by have := Hn.out; omega
        have hkey : xs.take (k + 1) = ys.take (k + 1) ↔ s1 = s2 := by
          rw [List.take_add_one, List.take_add_one, hs1, hs2, ht.out]; simp
        have Hk := Lib.hid hkey
        have H1 := Lib.hid hs1
        have H2 := Lib.hid hs2
        clear hs1 hs2 hkey
        by_cases he : s1 = s2
        · subst he
          go_wp2
          go_quiet (fail)
          go_wp2
          go_roundw
          case rel => exact ⟨k + 1, by omega, by go_num, Lib.hid (Hk.out.2 (by simp)), m + nq, by simp⟩
          case measure => simp [intOf]; omega
        · have hb : (s1 == s2) = false := by simp [he]
          go_wp2
          go_quiet (fail)
          go_wp2
          go_ret
          refine ⟨?_, m + nq, by simp⟩
          have : xs ≠ ys := fun e => he (Hk.out.1 (by rw [e]))
          simp [this]
      · go_wp2
        go_ret
        refine ⟨?_, m, rfl⟩
        have : xs = ys := by
          have ht := ht.out
          have hn := Hn.out
          rwa [List.take_of_length_le (by omega), List.take_of_length_le (by omega)] at ht
        simp [this]
  · have hn' : ((xs.length : Int) != (ys.length : Int)) = true := by simp; omega
    go_enter Tryd.func46, Tryd.ntmps46
    go_wp2
    go_ret
    refine ⟨?_, 0, rfl⟩
    have : xs ≠ ys := fun e => hn (by rw [e])
    simp [this]

end Go.Proofs.YtianpeokdojkbaaDoor

/- Walks: the library's Index and Contains at a text. -/
namespace Go.Proofs.YtianpeokdojkbaaDoor
open Go.RowKit

set_option maxHeartbeats 400000 in
theorem slices_Index_any (A : Option Addr) (n c : Nat) (xs : List Str) (s : Str) (w : World) (lo hi : Nat) (h : Rep w lo hi (encText xs) (.slice A n c)) :
    Calls Tryd.prog 54 #[.slice A n c, .string ⟨s.toArray⟩] w fun e w' => ∃ i : Int, e = .returned (.int .i64 i) ∧ (i ≥ 0 ↔ s ∈ xs) ∧ w = w' := by
  have hl := Text.n h
  obtain ⟨hc, hm⟩ := Text.cap h
  subst hl
  go_enter Tryd.func54, Tryd.ntmps54
  go_wp2
  go_loopw [8] (fun i wr => ∃ k : Nat, k ≤ xs.length ∧ i = .int .i64 k ∧ Hid (s ∉ xs.take k) ∧ wr = w) (fun i _ => xs.length - (intOf i).toNat)
  case atStart => exact ⟨0, Nat.zero_le _, rfl, Lib.hid (by simp), rfl⟩
  case round =>
    obtain ⟨k, hk, rfl, ht, rfl⟩ := hrel
    by_cases hlt : k < xs.length
    · obtain ⟨b1, o1, s1, rfl, _, _, hs1, hcell1⟩ := Text.at h hlt
      have hlt' : (k : Int) < (xs.length : Int) := by omega
      have hnx : xs.take (k + 1) = xs.take k ++ [s1] := by rw [List.take_add_one, hs1]; rfl
      have hmem := List.mem_of_getElem? hs1
      have Hnx := Lib.hid hnx
      have Hmem := Lib.hid hmem
      clear hs1 hnx hmem
      by_cases he : s = s1
      · subst he
        go_wp2
        go_ret
        exact ⟨_, rfl, ⟨fun _ => Hmem.out, fun _ => by omega⟩, rfl⟩
      · have hb : (s == s1) = false := by simp [he]
        go_wp2
        go_roundw
        case rel => exact ⟨k + 1, by omega, by go_num, Lib.hid (by rw [Hnx.out]; have := ht.out; simp [this, he]), by first | rfl | trivial⟩
        case measure => simp [intOf]; omega
    · obtain rfl : k = xs.length := by omega
      have h9 := ht.out
      rw [List.take_length] at h9
      have H9 := Lib.hid h9
      clear h9 ht
      go_wp2
      go_ret
      exact ⟨_, rfl, ⟨fun h => by omega, fun h => absurd h H9.out⟩, rfl⟩
set_option maxHeartbeats 400000 in
theorem slices_Contains_any (A : Option Addr) (n c : Nat) (xs : List Str) (s : Str) (w : World) (lo hi : Nat) (h : Rep w lo hi (encText xs) (.slice A n c)) :
    Calls Tryd.prog 27 #[.slice A n c, .string ⟨s.toArray⟩] w fun e w' => e = .returned (.bool (xs.contains s)) ∧ w = w' := by
  go_enter Tryd.func27, Tryd.ntmps27
  go_wp2_with fail
  refine Calls.mono (slices_Index_any A n c xs s w lo hi h) ?_
  rintro e w1 ⟨i, rfl, hi9, rfl⟩
  have Hi := Lib.hid hi9
  clear hi9
  go_wp2
  go_ret
  refine ⟨?_, rfl⟩
  congr 2
  have h9 := Hi.out
  by_cases hm : s ∈ xs
  · have := h9.2 hm
    simp [hm]
    omega
  · have : ¬ (i ≥ 0) := fun h8 => hm (h9.1 h8)
    simp [hm]
    omega
end Go.Proofs.YtianpeokdojkbaaDoor
