/- The walk of the law FnDiffMatch. -/
import Derived.Test.YtpdbpekjfbeaaaaMatchLaw
import Derived.Test.YtpdbpekjfbeaaaaDraw4
namespace Go.Proofs.Ytpdbpekjfbeaaaa
open Go.RowKit

theorem small20 {xs : List Str} (h : ∀ s ∈ xs, s.length ≤ 20) : ∀ s ∈ xs, s.length ≤ 9223372036854775807 := fun s hs => by have := h s hs; omega

set_option maxRecDepth 100000 in
set_option maxHeartbeats 3200000 in
theorem law_DiffMatch (A : Option Addr) (n c : Nat) (bs : List UInt8) (w : World) (h : Rep w 0 w.heap.size (encBytes bs) (.slice A n c)) :
    Calls Try.prog 4 #[.slice A n c] w fun e w' => e = .returned (.bool true) ∧ Below w.heap.size w w' := by
  have hl := Bytes.n h
  subst hl
  by_cases g : 1048576 < (bs.length : Int)
  · go_enter Try.func4, Try.ntmps4
    go_wp2
    go_ret
    exact ⟨rfl, Below.refl _ _⟩
  go_enter Try.func4, Try.ntmps4
  go_wp2_with fail
  refine Calls.mono (spec_DrawDiffMatch_any A bs.length c bs w 0 w.heap.size h (Nat.le_refl _)) ?_
  rintro e w1 ⟨xs, ys, v, u, rfl, hb1, hM1, hM2, hl1, hl2⟩
  obtain ⟨A1, c1, rfl, hc1, _, _⟩ := hM1.shape
  obtain ⟨A2, c2, rfl, hc2, _, _⟩ := hM2.shape
  have R1 := hM1.fresh.rep
  have R2 := hM2.fresh.rep
  have k1 := small20 hM1.2
  have k2 := small20 hM2.2
  have hs1 := hb1.size
  go_wp2_with fail
  refine Calls.mono (impl_DiffMatch_any _ _ _ _ _ _ xs ys w1 _ _ _ _ R1 R2 (Nat.le_refl _) (Nat.le_refl _)) ?_
  rintro e w2 ⟨A3, n3, c3, rfl, hb2, hf2⟩
  have hs2 := hb2.size
  replace R1 := R1.keep hb2 (Nat.le_refl _)
  replace R2 := R2.keep hb2 (Nat.le_refl _)
  go_wp2_with fail
  refine Calls.mono (spec_DiffMatch_any _ _ _ _ _ _ xs ys w2 _ _ _ _ R1 R2 hs2 hs2 k1 k2) ?_
  rintro e w3 ⟨A4, n4, c4, rfl, hb3, hf3⟩
  have hs3 := hb3.size
  replace R1 := R1.keep hb3 hs2
  replace R2 := R2.keep hb3 hs2
  have Rm := hf2.rep.keep hb3 (Nat.le_refl _)
  have hbw : Below w.heap.size w w3 := (hb1.trans (hb2.mono hs1)).trans (hb3.mono (Nat.le_trans hs1 hs2))
  go_wp2_with fail
  refine Calls.mono (smInts_any _ _ _ _ _ _ _ _ w3 _ _ _ _ Rm hf3.rep) ?_
  rintro e w4 ⟨rfl, k4, rfl⟩
  replace R1 := R1.drewN k4
  replace R2 := R2.drewN k4
  replace Rm := Rm.drewN k4
  replace hbw := below_drewN hbw k4
  obtain ⟨W, eW⟩ : ∃ W, W = w3.drewN k4 := ⟨_, rfl⟩
  have hWs : w1.heap.size ≤ W.heap.size ∧ w2.heap.size ≤ W.heap.size := by rw [eW]; exact ⟨Nat.le_trans hs2 hs3, hs3⟩
  rw [← eW] at R1 R2 Rm hbw ⊢
  clear hb1 hb2 hb3 hf2 hf3 hM1 hM2 eW
  go_wp2_with fail
  refine Calls.mono (impl_TextOk_any _ _ _ xs W _ _ R1) ?_
  rintro e w' ⟨rfl, rfl⟩
  go_wp2_with fail
  refine Calls.mono (spec_TextOk_any _ _ _ xs W _ _ R1 k1) ?_
  rintro e w' ⟨rfl, rfl⟩
  go_wp2_with fail
  refine Calls.mono (impl_TextOk_any _ _ _ xs W _ _ R1) ?_
  rintro e w' ⟨rfl, rfl⟩
  cases t1 : textOk xs
  · go_wp2_with fail
    refine Calls.mono (spec_DiffMatch_any _ _ _ _ _ _ xs ys W _ _ _ _ R1 R2 hWs.1 hWs.1 k1 k2) ?_
    rintro e w5 ⟨A5, n5, c5, rfl, hb5, hf5⟩
    go_wp2_with fail
    refine Calls.mono (smInts_any _ _ _ _ _ _ _ _ w5 _ _ _ _ (Rm.keep hb5 hWs.2) hf5.rep) ?_
    rintro e w6 ⟨rfl, k6, rfl⟩
    go_wp2_with fail
    refine Calls.mono (impl_TextOk_any _ _ _ xs _ _ _ ((R1.keep hb5 hWs.1).drewN k6)) ?_
    rintro e w' ⟨rfl, rfl⟩
    go_wp2_with fail
    refine Calls.mono (spec_TextOk_any _ _ _ xs _ _ _ ((R1.keep hb5 hWs.1).drewN k6) k1) ?_
    rintro e w' ⟨rfl, rfl⟩
    go_wp2
    go_ret
    exact ⟨by simp, below_drewN (hbw.trans (hb5.mono hbw.size)) k6⟩
  go_wp2_with fail
  refine Calls.mono (impl_TextOk_any _ _ _ ys W _ _ R2) ?_
  rintro e w' ⟨rfl, rfl⟩
  cases t2 : textOk ys
  · go_wp2_with fail
    refine Calls.mono (spec_DiffMatch_any _ _ _ _ _ _ xs ys W _ _ _ _ R1 R2 hWs.1 hWs.1 k1 k2) ?_
    rintro e w5 ⟨A5, n5, c5, rfl, hb5, hf5⟩
    go_wp2_with fail
    refine Calls.mono (smInts_any _ _ _ _ _ _ _ _ w5 _ _ _ _ (Rm.keep hb5 hWs.2) hf5.rep) ?_
    rintro e w6 ⟨rfl, k6, rfl⟩
    go_wp2_with fail
    refine Calls.mono (impl_TextOk_any _ _ _ xs _ _ _ ((R1.keep hb5 hWs.1).drewN k6)) ?_
    rintro e w' ⟨rfl, rfl⟩
    go_wp2_with fail
    refine Calls.mono (spec_TextOk_any _ _ _ xs _ _ _ ((R1.keep hb5 hWs.1).drewN k6) k1) ?_
    rintro e w' ⟨rfl, rfl⟩
    go_wp2
    go_ret
    exact ⟨by simp, below_drewN (hbw.trans (hb5.mono hbw.size)) k6⟩
  have hm : diffMatch xs ys = mtch xs ys 0 := by rw [diffMatch, t1, t2]; rfl
  have hown : diffMatch xs xs = mtch xs xs 0 := by rw [diffMatch, t1]; rfl
  rw [hm] at Rm
  have hn3 := Ints.n Rm
  rw [mtch_len] at hn3
  subst hn3
  have Hown := Lib.hid hown
  have hinc := pairsOf_inc xs ys
  have Hinc := Lib.hid hinc
  clear hm hown hinc
  go_wp2
  go_loopw [6, 7] (fun last i wr => ∃ (k : Nat) (l : Int), k ≤ xs.length ∧ i = .int .i64 k ∧ last = .int .i64 l ∧ -1 ≤ l ∧ l ≤ 100 ∧ Hid (Inc (l + 1) ys.length ((pairsOf xs ys).drop k)) ∧ ∃ m, wr = W.drewN m) (fun _ i _ => xs.length - (intOf i).toNat)
  case atStart => exact ⟨0, -1, Nat.zero_le _, rfl, rfl, by omega, by omega, Lib.hid (by simpa using Hinc.out), 0, rfl⟩
  case round =>
    obtain ⟨k, l, hk, rfl, rfl, hl0, hl100, hi, m, rfl⟩ := hrel
    by_cases hkn : k < xs.length
    · have hkn' : (k : Int) < (xs.length : Int) := by omega
      obtain ⟨b3, o3, e, rfl, _, _, he, hcell⟩ := Ints.at Rm hkn
      rcases inc_step he hi.out with ⟨rfl, hi2⟩ | ⟨hlast, hi2⟩
      · have Hi2 := Lib.hid hi2
        clear hi2 he
        go_wp2
        go_quiet (fail)
        go_wp2
        go_roundw
        case rel => exact ⟨k + 1, l, by omega, by go_num, rfl, hl0, hl100, Hi2, m + nq, by simp⟩
        case measure => simp [intOf]; omega
      · obtain ⟨q, hq, hqy, hqx⟩ := mtch_sound xs ys 0 k e he (by omega)
        rw [Nat.zero_add] at hq
        subst hq
        obtain ⟨b1, o1, s1, rfl, _, _, hx1, hcell1⟩ := Text.at R1 hkn
        obtain ⟨b2, o2, s2, rfl, _, _, hx2, hcell2⟩ := Text.at R2 hqy
        rw [hx1, hx2] at hqx
        obtain rfl : s1 = s2 := by simpa using hqx
        have Hi2 := Lib.hid hi2
        have hqy' : (q : Int) < (ys.length : Int) := by omega
        have f1 : decide ((q : Int) ≤ l) = false := by simp; omega
        have f2 : decide (ys.length ≤ q) = false := by simp; omega
        have f3 : decide ((ys.length : Int) ≤ (q : Int)) = false := by simp; omega
        clear hi2 he hx1 hx2 hqx
        go_wp2
        go_quiet (fail)
        go_wp2
        go_roundw
        case rel => exact ⟨k + 1, q, by omega, by go_num, by go_num, by omega, by omega, Hi2, m + nq, by simp⟩
        case measure => simp [intOf]; omega
    · obtain rfl : k = xs.length := by omega
      go_wp2_with fail
      refine Calls.mono (impl_DiffMatch_any _ _ _ _ _ _ xs xs (W.drewN m) _ _ _ _ (R1.drewN m) (R1.drewN m) hWs.1 hWs.1) ?_
      rintro e w5 ⟨A5, n5, c5, rfl, hb5, hf5⟩
      have Ro := hf5.rep
      rw [Hown.out] at Ro
      have hn5 := Ints.n Ro
      rw [mtch_len] at hn5
      subst hn5
      have hbv := (below_drewN hbw m).trans (hb5.mono hbw.size)
      clear hf5 hb5
      go_wp2
      go_loopw [9] (fun i wr => ∃ k : Nat, k ≤ xs.length ∧ i = .int .i64 k ∧ ∃ m, wr = w5.drewN m) (fun i _ => xs.length - (intOf i).toNat)
      case atStart => exact ⟨0, Nat.zero_le _, rfl, 0, rfl⟩
      case round =>
        obtain ⟨k, hk2, rfl, m2, rfl⟩ := hrel
        by_cases hkn2 : k < xs.length
        · have hkn2' : (k : Int) < (xs.length : Int) := by omega
          obtain ⟨b6, o6, e, rfl, _, _, he, hcell⟩ := Ints.at Ro hkn2
          rw [mtch_self xs 0 k hkn2] at he
          obtain rfl : ((0 + k : Nat) : Int) = e := by simpa using he
          rw [Nat.zero_add] at hcell
          clear he
          go_wp2
          go_roundw
          case rel => exact ⟨k + 1, by omega, by go_num, m2, by simp⟩
          case measure => simp [intOf]; omega
        · obtain rfl : k = xs.length := by omega
          go_wp2
          go_ret
          exact ⟨by simp, below_drewN hbv m2⟩
end Go.Proofs.Ytpdbpekjfbeaaaa
