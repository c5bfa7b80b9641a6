/- In plain words: what the law DiffMatch says of the alignment. And the comparison of two slices of integers. -/
import Derived.Test.YtpdbpekjfbeaaaaMatchFn
namespace Go.Proofs.Ytpdbpekjfbeaaaa
open Go.RowKit

theorem mtch_sound : ∀ (a b : List Str) (j i : Nat) (e : Int), (mtch a b j)[i]? = some e → 0 ≤ e → ∃ q : Nat, e = ((j + q : Nat) : Int) ∧ q < b.length ∧ a[i]? = b[q]?
  | [], _, _, i, e, h, _ => by simp [mtch] at h
  | x :: xs, [], j, 0, e, h, he => by simp [mtch] at h; omega
  | x :: xs, [], j, i + 1, e, h, he => by
    simp only [mtch, List.getElem?_cons_succ] at h
    obtain ⟨q, _, h2, _⟩ := mtch_sound xs [] j i e h he
    simp at h2
  | x :: xs, y :: ys, j, i, e, h, he => by
    rw [mtch] at h
    split at h
    · rename_i hxy
      cases i with
      | zero =>
        simp at h
        exact ⟨0, by simp [h], by simp, by simp [hxy]⟩
      | succ i =>
        simp only [List.getElem?_cons_succ] at h
        obtain ⟨q, h1, h2, h3⟩ := mtch_sound xs ys (j + 1) i e h he
        exact ⟨q + 1, by rw [h1]; omega, by simp; omega, by simpa using h3⟩
    split at h
    · cases i with
      | zero => simp at h; omega
      | succ i =>
        simp only [List.getElem?_cons_succ] at h
        obtain ⟨q, h1, h2, h3⟩ := mtch_sound xs (y :: ys) j i e h he
        exact ⟨q, h1, h2, by simpa using h3⟩
    · obtain ⟨q, h1, h2, h3⟩ := mtch_sound (x :: xs) ys (j + 1) i e h he
      exact ⟨q + 1, by rw [h1]; omega, by simp; omega, by simpa using h3⟩
termination_by a b => a.length + b.length
theorem mtch_self : ∀ (a : List Str) (j i : Nat), i < a.length → (mtch a a j)[i]? = some ((j + i : Nat) : Int)
  | [], _, i, h => by simp at h
  | x :: xs, j, i, h => by
    rw [mtch, if_pos rfl]
    cases i with
    | zero => simp
    | succ i =>
      rw [List.getElem?_cons_succ, mtch_self xs (j + 1) i (by simpa using h)]
      congr 2
      omega
/-- One step along the alignment. -/
theorem inc_step {a b : List Str} {i : Nat} {last e : Int} (hi : (mtch a b 0)[i]? = some e) (h : Inc (last + 1) b.length ((pairsOf a b).drop i)) :
    (e = -1 ∧ Inc (last + 1) b.length ((pairsOf a b).drop (i + 1))) ∨ (last < e ∧ Inc (e + 1) b.length ((pairsOf a b).drop (i + 1))) := by
  have hp : (pairsOf a b)[i]? = some e := by
    unfold pairsOf
    rw [List.getElem?_append_left (List.getElem?_eq_some_iff.1 hi).1]
    exact hi
  rw [drop_cons hp] at h
  rcases h with ⟨h1, h2⟩ | ⟨h1, _, h3⟩
  · exact .inl ⟨h1, h2⟩
  · exact .inr ⟨by omega, h3⟩

set_option maxHeartbeats 400000 in
theorem smInts_any (A1 A2 : Option Addr) (n1 c1 n2 c2 : Nat) (xs ys : List Int) (w : World) (lo hi lo' hi' : Nat) (h1 : Rep w lo hi (encInts xs) (.slice A1 n1 c1)) (h2 : Rep w lo' hi' (encInts ys) (.slice A2 n2 c2)) :
    Calls Try.prog 25 #[.slice A1 n1 c1, .slice A2 n2 c2] w fun e w' => e = .returned (.bool (decide (xs = ys))) ∧ ∃ k, w' = w.drewN k := by
  have hl1 := Ints.n h1
  have hl2 := Ints.n h2
  obtain ⟨hc1, hm1⟩ := Ints.cap h1
  subst hl1 hl2
  by_cases hn : xs.length = ys.length
  · have hn' : ((xs.length : Int) != (ys.length : Int)) = false := by simp [hn]
    have Hn := Lib.hid hn
    clear hn
    go_enter Try.func25, Try.ntmps25
    go_wp2
    go_loopw [5] (fun i wr => ∃ k : Nat, k ≤ xs.length ∧ i = .int .i64 k ∧ Hid (xs.take k = ys.take k) ∧ ∃ m, wr = w.drewN m) (fun i _ => xs.length - (intOf i).toNat)
    case atStart => exact ⟨0, Nat.zero_le _, rfl, Lib.hid (by simp), 0, rfl⟩
    case round =>
      obtain ⟨k, hk, rfl, ht, m, rfl⟩ := hrel
      by_cases hlt : k < xs.length
      · obtain ⟨b1, o1, s1, rfl, _, _, hs1, hcell1⟩ := Ints.at h1 hlt
        obtain ⟨b2, o2, s2, rfl, _, _, hs2, hcell2⟩ := Ints.at h2 (k := k) (by have := Hn.out; omega)
        have hlt' : (k : Int) < (xs.length : Int) := by omega
        have hlt2 : (k : Int) < (ys.length : Int) := by have := Hn.out; omega
        have hkey : xs.take (k + 1) = ys.take (k + 1) ↔ s1 = s2 := by
          rw [List.take_add_one, List.take_add_one, hs1, hs2, ht.out]; simp
        have Hk := Lib.hid hkey
        have H1 := Lib.hid hs1
        have H2 := Lib.hid hs2
        clear hs1 hs2 hkey
        by_cases he : s1 = s2
        · subst he
          go_wp2
          go_quiet (fail)
          go_wp2
          go_roundw
          case rel => exact ⟨k + 1, by omega, by go_num, Lib.hid (Hk.out.2 (by simp)), m + nq, by simp⟩
          case measure => simp [intOf]; omega
        · have hb : (s1 != s2) = true := by simp [he]
          go_wp2
          go_quiet (fail)
          go_wp2
          go_ret
          refine ⟨?_, m + nq, by simp⟩
          have : xs ≠ ys := fun e => he (Hk.out.1 (by rw [e]))
          simp [this]
      · go_wp2
        go_ret
        refine ⟨?_, m, rfl⟩
        have : xs = ys := by
          have ht := ht.out
          have hn := Hn.out
          rwa [List.take_of_length_le (by omega), List.take_of_length_le (by omega)] at ht
        simp [this]
  · have hn' : ((xs.length : Int) != (ys.length : Int)) = true := by simp; omega
    go_enter Try.func25, Try.ntmps25
    go_wp2
    go_ret
    refine ⟨?_, 0, rfl⟩
    have : xs ≠ ys := fun e => hn (by rw [e])
    simp [this]

end Go.Proofs.Ytpdbpekjfbeaaaa
