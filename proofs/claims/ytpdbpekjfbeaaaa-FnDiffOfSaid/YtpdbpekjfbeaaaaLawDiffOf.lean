/- The walk of the law FnDiffOf. -/
import Derived.Test.YtpdbpekjfbeaaaaDiffLaw
import Derived.Test.YtpdbpekjfbeaaaaDiffFn
import Derived.Test.YtpdbpekjfbeaaaaDo
import Derived.Test.YtpdbpekjfbeaaaaMany
import Derived.Test.YtpdbpekjfbeaaaaSmHunks
import Derived.Test.YtpdbpekjfbeaaaaDraw4
namespace Go.Proofs.Ytpdbpekjfbeaaaa
open Go.RowKit

theorem small20' {xs : List Str} (h : ∀ s ∈ xs, s.length ≤ 20) : ∀ s ∈ xs, s.length ≤ 9223372036854775807 := fun s hs => by have := h s hs; omega
theorem lcs_self' : ∀ a : List Str, lcsLen a a = a.length
  | [] => by simp [lcsLen]
  | x :: xs => by rw [lcsLen, if_pos rfl, lcs_self' xs]; rfl
theorem linesIn_take {d : List PHunk} {k : Nat} {x : PHunk} (h : d[k]? = some x) : linesIn (d.take (k + 1)) = linesIn (d.take k) + (x.less.length + x.more.length) := by
  rw [List.take_add_one, h, Option.toList_some, linesIn_app]
  simp [linesIn]

set_option maxRecDepth 100000 in
set_option maxHeartbeats 3200000 in
theorem law_DiffOf (A : Option Addr) (n c : Nat) (bs : List UInt8) (w : World) (h : Rep w 0 w.heap.size (encBytes bs) (.slice A n c)) :
    Calls Try.prog 10 #[.slice A n c] w fun e w' => e = .returned (.bool true) ∧ Below w.heap.size w w' := by
  have hl := Bytes.n h
  subst hl
  by_cases g : 1048576 < (bs.length : Int)
  · go_enter Try.func10, Try.ntmps10
    go_wp2
    go_ret
    exact ⟨rfl, Below.refl _ _⟩
  go_enter Try.func10, Try.ntmps10
  go_wp2_with fail
  refine Calls.mono (spec_DrawDiffOf_any A bs.length c bs w 0 w.heap.size h (Nat.le_refl _)) ?_
  rintro e w1 ⟨xs, ys, v, u, rfl, hb1, hM1, hM2, hl1, hl2⟩
  obtain ⟨A1, c1, rfl, hc1, _, _⟩ := hM1.shape
  obtain ⟨A2, c2, rfl, hc2, _, _⟩ := hM2.shape
  have R1 := hM1.fresh.rep
  have R2 := hM2.fresh.rep
  have k1 := small20' hM1.2
  have k2 := small20' hM2.2
  have hs1 := hb1.size
  go_wp2_with fail
  refine Calls.mono (impl_DiffOf_any _ _ _ _ _ _ xs ys w1 _ _ _ _ R1 R2 (Nat.le_refl _) (Nat.le_refl _)) ?_
  rintro e w2 ⟨A3, n3, c3, rfl, hb2, hf2⟩
  have hs2 := hb2.size
  replace R1 := R1.keep hb2 (Nat.le_refl _)
  replace R2 := R2.keep hb2 (Nat.le_refl _)
  go_wp2_with fail
  refine Calls.mono (spec_DiffOf_any _ _ _ _ _ _ xs ys w2 _ _ _ _ R1 R2 hs2 hs2 k1 k2) ?_
  rintro e w3 ⟨A4, n4, c4, rfl, hb3, hf3⟩
  have hs3 := hb3.size
  replace R1 := R1.keep hb3 hs2
  replace R2 := R2.keep hb3 hs2
  have Rm := hf2.rep.keep hb3 (Nat.le_refl _)
  have hbw : Below w.heap.size w w3 := (hb1.trans (hb2.mono hs1)).trans (hb3.mono (Nat.le_trans hs1 hs2))
  go_wp2_with fail
  refine Calls.mono (smHunks_same _ _ _ _ _ _ _ w3 _ _ _ _ Rm hf3.rep hs3 (Nat.le_refl _)) ?_
  rintro e W ⟨rfl, hb4⟩
  have hs4 := hb4.size
  replace R1 := R1.keep hb4 (Nat.le_trans hs2 hs3)
  replace R2 := R2.keep hb4 (Nat.le_trans hs2 hs3)
  replace Rm := Rm.keep hb4 hs3
  replace hbw := hbw.trans (hb4.mono hbw.size)
  have hWs : w1.heap.size ≤ W.heap.size ∧ w2.heap.size ≤ W.heap.size := ⟨Nat.le_trans (Nat.le_trans hs2 hs3) hs4, Nat.le_trans hs3 hs4⟩
  clear hb1 hb2 hb3 hb4 hf2 hf3 hM1 hM2
  go_wp2_with fail
  refine Calls.mono (impl_TextOk_any _ _ _ xs W _ _ R1) ?_
  rintro e w' ⟨rfl, rfl⟩
  cases t1 : textOk xs
  · go_wp2_with fail
    refine Calls.mono (spec_DiffOf_any _ _ _ _ _ _ xs ys W _ _ _ _ R1 R2 hWs.1 hWs.1 k1 k2) ?_
    rintro e w5 ⟨A5, n5, c5, rfl, hb5, hf5⟩
    go_wp2_with fail
    refine Calls.mono (smHunks_same _ _ _ _ _ _ _ w5 _ _ _ _ (Rm.keep hb5 hWs.2) hf5.rep (Nat.le_trans hWs.2 hb5.size) (Nat.le_refl _)) ?_
    rintro e w6 ⟨rfl, hb6⟩
    go_wp2
    go_ret
    exact ⟨rfl, (hbw.trans (hb5.mono hbw.size)).trans (hb6.mono (Nat.le_trans hbw.size hb5.size))⟩
  go_wp2_with fail
  refine Calls.mono (impl_TextOk_any _ _ _ ys W _ _ R2) ?_
  rintro e w' ⟨rfl, rfl⟩
  cases t2 : textOk ys
  · go_wp2_with fail
    refine Calls.mono (spec_DiffOf_any _ _ _ _ _ _ xs ys W _ _ _ _ R1 R2 hWs.1 hWs.1 k1 k2) ?_
    rintro e w5 ⟨A5, n5, c5, rfl, hb5, hf5⟩
    go_wp2_with fail
    refine Calls.mono (smHunks_same _ _ _ _ _ _ _ w5 _ _ _ _ (Rm.keep hb5 hWs.2) hf5.rep (Nat.le_trans hWs.2 hb5.size) (Nat.le_refl _)) ?_
    rintro e w6 ⟨rfl, hb6⟩
    go_wp2
    go_ret
    exact ⟨rfl, (hbw.trans (hb5.mono hbw.size)).trans (hb6.mono (Nat.le_trans hbw.size hb5.size))⟩
  have hm : diffOfOk xs ys = diffOf xs ys := by rw [diffOfOk, t1, t2]; rfl
  have hown : diffOfOk xs xs = [] := by rw [diffOfOk, t1]; exact diffOf_self xs (lcs_self' xs)
  have hdo : patchDo xs (diffOf xs ys) = some ys := by rw [patchDo, t1, diffOf_ok t1 t2]; exact do_diff t2
  have hpk := diffOf_ok t1 t2
  have hln := lines_diff xs ys
  have hmy : diffMany xs ys = (linesIn (diffOf xs ys) : Nat) := by
    unfold diffMany
    rw [t1, t2]
    simp only [Bool.and_self, if_true]
    omega
  have hxl := textOk_len t1
  have hyl := textOk_len t2
  rw [hm] at Rm
  have hn3 := Hunks.n Rm
  subst hn3
  obtain ⟨d, ed⟩ : ∃ d, d = diffOf xs ys := ⟨_, rfl⟩
  rw [← ed] at Rm hdo hpk hln hmy ⊢
  have Hown := Lib.hid hown
  have Hdo := Lib.hid hdo
  have Hpk := Lib.hid hpk
  have Hmy := Lib.hid hmy
  have hln2 : linesIn d ≤ 20 := by omega
  have hdl : d.length ≤ 20 := by omega
  clear hm hown hdo hpk hmy hln ed
  go_wp2_with fail
  refine Calls.mono (impl_PatchDo_any _ _ _ _ _ _ xs d W _ _ _ _ R1 Rm hWs.1 hWs.2) ?_
  rw [Hdo.out]
  rintro e w5 ⟨A5, n5, c5, rfl, hb5, hf5⟩
  have hs5 := hb5.size
  replace R1 := R1.keep hb5 hWs.1
  replace R2 := R2.keep hb5 hWs.1
  replace Rm := Rm.keep hb5 hWs.2
  replace hbw := hbw.trans (hb5.mono hbw.size)
  have hVs : w1.heap.size ≤ w5.heap.size ∧ w2.heap.size ≤ w5.heap.size := ⟨Nat.le_trans hWs.1 hs5, Nat.le_trans hWs.2 hs5⟩
  have R5 := hf5.rep
  simp only [Option.getD_some] at R5
  clear hb5 hf5
  go_wp2
  go_loopw [8, 9] (fun many i wr => ∃ k : Nat, k ≤ d.length ∧ i = .int .i64 k ∧ many = .int .i64 (linesIn (d.take k) : Nat) ∧ linesIn (d.take k) ≤ 20 ∧ ∃ m, wr = w5.drewN m) (fun _ i _ => d.length - (intOf i).toNat)
  case atStart => exact ⟨0, Nat.zero_le _, rfl, rfl, by simp [linesIn], 0, rfl⟩
  case round =>
    obtain ⟨k, hk, rfl, rfl, hle, m, rfl⟩ := hrel
    by_cases hkn : k < d.length
    · have hkn' : (k : Int) < (d.length : Int) := by omega
      obtain ⟨b3, o3, x, rfl, _, _, hx, B1, m1, e1, B2, m2, e2, d0, d1, r1, d2, r2⟩ := Hunks.at Rm hkn
      have hq1 := Text.n r1
      have hq2 := Text.n r2
      subst hq1 hq2
      have hstep := linesIn_take hx
      have htot : linesIn (d.take (k + 1)) ≤ linesIn d := by
        have := congrArg linesIn (List.take_append_drop (k + 1) d)
        rw [linesIn_app] at this
        omega
      have Hstep := Lib.hid hstep
      have hb20 : linesIn (d.take k) + (x.less.length + x.more.length) ≤ 20 := by omega
      obtain ⟨L, eL⟩ : ∃ L, L = linesIn (d.take k) := ⟨_, rfl⟩
      rw [← eL] at hle hb20 ⊢
      have HL := Lib.hid eL
      clear hstep htot hx eL
      go_wp2
      go_quiet (fail)
      go_wp2
      go_roundw
      case rel => exact ⟨k + 1, by omega, by go_num, by rw [Hstep.out, ← HL.out]; go_num, by rw [Hstep.out, ← HL.out]; omega, m + nq, by simp⟩
      case measure => simp [intOf]; omega
    · obtain rfl : k = d.length := by omega
      rw [List.take_length]
      go_wp2_with fail
      refine Calls.mono (smTexts_any _ _ _ _ _ _ ys ys (w5.drewN m) _ _ _ _ (R5.drewN m) (R2.drewN m)) ?_
      rintro e w6 ⟨rfl, m6, rfl⟩
      go_wp2_with fail
      refine Calls.mono (impl_PatchOk_any _ _ _ d _ _ _ (Rm.drewN (m + m6)) hVs.2) ?_
      rw [Hpk.out]
      rintro e w7 ⟨rfl, hb7⟩
      have hs7 := hb7.size
      have B7 := (below_drewN hbw (m + m6)).trans (hb7.mono hbw.size)
      go_wp2_with fail
      refine Calls.mono (impl_DiffMany_any _ _ _ _ _ _ xs ys w7 _ _ _ _ ((R1.drewN (m + m6)).keep hb7 hVs.1) ((R2.drewN (m + m6)).keep hb7 hVs.1) (Nat.le_trans hVs.1 hs7) (Nat.le_trans hVs.1 hs7)) ?_
      rw [Hmy.out]
      rintro e w8 ⟨rfl, hb8⟩
      have hs8 := hb8.size
      have B8 := B7.trans (hb8.mono B7.size)
      go_wp2_with fail
      refine Calls.mono (impl_DiffOf_any _ _ _ _ _ _ xs xs w8 _ _ _ _ (((R1.drewN (m + m6)).keep hb7 hVs.1).keep hb8 (Nat.le_trans hVs.1 hs7)) (((R1.drewN (m + m6)).keep hb7 hVs.1).keep hb8 (Nat.le_trans hVs.1 hs7)) (Nat.le_trans (Nat.le_trans hVs.1 hs7) hs8) (Nat.le_trans (Nat.le_trans hVs.1 hs7) hs8)) ?_
      rw [Hown.out]
      rintro e w9 ⟨A9, n9, c9, rfl, hb9, hf9⟩
      have hn9 := Hunks.n hf9.rep
      simp only [List.length_nil] at hn9
      subst hn9
      go_wp2
      go_ret
      exact ⟨by simp, B8.trans (hb9.mono B8.size)⟩
end Go.Proofs.Ytpdbpekjfbeaaaa
