/- The walk of the law FnDiffBack. -/
import Derived.Test.YtpdbpekjfbeaaaaBackLaw
import Derived.Test.YtpdbpekjfbeaaaaDiffFn
import Derived.Test.YtpdbpekjfbeaaaaDo
import Derived.Test.YtpdbpekjfbeaaaaSmHunks
import Derived.Test.YtpdbpekjfbeaaaaDraw4
namespace Go.Proofs.Ytpdbpekjfbeaaaa
open Go.RowKit

theorem small20b {xs : List Str} (h : ∀ s ∈ xs, s.length ≤ 20) : ∀ s ∈ xs, s.length ≤ 9223372036854775807 := fun s hs => by have := h s hs; omega
set_option maxRecDepth 100000 in
set_option maxHeartbeats 3200000 in
theorem law_DiffBack (A : Option Addr) (n c : Nat) (bs : List UInt8) (w : World) (h : Rep w 0 w.heap.size (encBytes bs) (.slice A n c)) :
    Calls Try.prog 12 #[.slice A n c] w fun e w' => e = .returned (.bool true) ∧ Below w.heap.size w w' := by
  have hl := Bytes.n h
  subst hl
  by_cases g : 1048576 < (bs.length : Int)
  · go_enter Try.func12, Try.ntmps12
    go_wp2
    go_ret
    exact ⟨rfl, Below.refl _ _⟩
  go_enter Try.func12, Try.ntmps12
  go_wp2_with fail
  refine Calls.mono (spec_DrawDiffOf_any A bs.length c bs w 0 w.heap.size h (Nat.le_refl _)) ?_
  rintro e w1 ⟨xs, ys, v, u, rfl, hb1, hM1, hM2, hl1, hl2⟩
  obtain ⟨A1, c1, rfl, hc1, _, _⟩ := hM1.shape
  obtain ⟨A2, c2, rfl, hc2, _, _⟩ := hM2.shape
  have R1 := hM1.fresh.rep
  have R2 := hM2.fresh.rep
  have k1 := small20b hM1.2
  have k2 := small20b hM2.2
  have hs1 := hb1.size
  go_wp2_with fail
  refine Calls.mono (impl_DiffOf_any _ _ _ _ _ _ xs ys w1 _ _ _ _ R1 R2 (Nat.le_refl _) (Nat.le_refl _)) ?_
  rintro e w2 ⟨A3, n3, c3, rfl, hb2, hf2⟩
  have hs2 := hb2.size
  replace R1 := R1.keep hb2 (Nat.le_refl _)
  replace R2 := R2.keep hb2 (Nat.le_refl _)
  go_wp2_with fail
  refine Calls.mono (spec_DiffOf_any _ _ _ _ _ _ xs ys w2 _ _ _ _ R1 R2 hs2 hs2 k1 k2) ?_
  rintro e w3 ⟨A4, n4, c4, rfl, hb3, hf3⟩
  have hs3 := hb3.size
  replace R1 := R1.keep hb3 hs2
  replace R2 := R2.keep hb3 hs2
  have Rm := hf2.rep.keep hb3 (Nat.le_refl _)
  have hbw : Below w.heap.size w w3 := (hb1.trans (hb2.mono hs1)).trans (hb3.mono (Nat.le_trans hs1 hs2))
  go_wp2_with fail
  refine Calls.mono (smHunks_same _ _ _ _ _ _ _ w3 _ _ _ _ Rm hf3.rep hs3 (Nat.le_refl _)) ?_
  rintro e W ⟨rfl, hb4⟩
  have hs4 := hb4.size
  replace R1 := R1.keep hb4 (Nat.le_trans hs2 hs3)
  replace R2 := R2.keep hb4 (Nat.le_trans hs2 hs3)
  replace Rm := Rm.keep hb4 hs3
  replace hbw := hbw.trans (hb4.mono hbw.size)
  have hWs : w1.heap.size ≤ W.heap.size ∧ w2.heap.size ≤ W.heap.size := ⟨Nat.le_trans (Nat.le_trans hs2 hs3) hs4, Nat.le_trans hs3 hs4⟩
  clear hb1 hb2 hb3 hb4 hf2 hf3 hM1 hM2
  go_wp2_with fail
  refine Calls.mono (impl_TextOk_any _ _ _ xs W _ _ R1) ?_
  rintro e w' ⟨rfl, rfl⟩
  cases t1 : textOk xs
  · go_wp2_with fail
    refine Calls.mono (spec_DiffOf_any _ _ _ _ _ _ xs ys W _ _ _ _ R1 R2 hWs.1 hWs.1 k1 k2) ?_
    rintro e w5 ⟨A5, n5, c5, rfl, hb5, hf5⟩
    go_wp2_with fail
    refine Calls.mono (smHunks_same _ _ _ _ _ _ _ w5 _ _ _ _ (Rm.keep hb5 hWs.2) hf5.rep (Nat.le_trans hWs.2 hb5.size) (Nat.le_refl _)) ?_
    rintro e w6 ⟨rfl, hb6⟩
    go_wp2
    go_ret
    exact ⟨rfl, (hbw.trans (hb5.mono hbw.size)).trans (hb6.mono (Nat.le_trans hbw.size hb5.size))⟩
  go_wp2_with fail
  refine Calls.mono (impl_TextOk_any _ _ _ ys W _ _ R2) ?_
  rintro e w' ⟨rfl, rfl⟩
  cases t2 : textOk ys
  · go_wp2_with fail
    refine Calls.mono (spec_DiffOf_any _ _ _ _ _ _ xs ys W _ _ _ _ R1 R2 hWs.1 hWs.1 k1 k2) ?_
    rintro e w5 ⟨A5, n5, c5, rfl, hb5, hf5⟩
    go_wp2_with fail
    refine Calls.mono (smHunks_same _ _ _ _ _ _ _ w5 _ _ _ _ (Rm.keep hb5 hWs.2) hf5.rep (Nat.le_trans hWs.2 hb5.size) (Nat.le_refl _)) ?_
    rintro e w6 ⟨rfl, hb6⟩
    go_wp2
    go_ret
    exact ⟨rfl, (hbw.trans (hb5.mono hbw.size)).trans (hb6.mono (Nat.le_trans hbw.size hb5.size))⟩
  have hm : diffOfOk xs ys = diffOf xs ys := by rw [diffOfOk, t1, t2]; rfl
  have hpk := diffOf_ok t1 t2
  have hbk : patchBack (diffOf xs ys) = backFrom (diffOf xs ys) 0 := by rw [patchBack, hpk]; rfl
  have hdo1 : patchDo ys (backFrom (diffOf xs ys) 0) = some xs := by rw [patchDo, t2, undo_ok t1 t2]; exact undo_diff t1
  have hm2 : diffOfOk ys xs = diffOf ys xs := by rw [diffOfOk, t1, t2]; rfl
  have hdo2 : patchDo ys (diffOf ys xs) = some xs := by rw [patchDo, t2, diffOf_ok t2 t1]; exact do_diff t1
  rw [hm] at Rm
  have Hbk := Lib.hid hbk
  have Hdo1 := Lib.hid hdo1
  have Hm2 := Lib.hid hm2
  have Hdo2 := Lib.hid hdo2
  clear hm hbk hdo1 hm2 hdo2 hpk
  go_wp2_with fail
  refine Calls.mono (impl_PatchBack_any _ _ _ (diffOf xs ys) W _ _ Rm hWs.2) ?_
  rw [Hbk.out]
  rintro e w5 ⟨A5, n5, c5, rfl, hb5, hf5⟩
  have hs5 := hb5.size
  replace R1 := R1.keep hb5 hWs.1
  replace R2 := R2.keep hb5 hWs.1
  replace hbw := hbw.trans (hb5.mono hbw.size)
  have z5 := Nat.le_trans hWs.1 hs5
  go_wp2_with fail
  refine Calls.mono (impl_PatchDo_any _ _ _ _ _ _ ys (backFrom (diffOf xs ys) 0) w5 _ _ _ _ R2 hf5.rep z5 (Nat.le_refl _)) ?_
  rw [Hdo1.out]
  rintro e w6 ⟨A6, n6, c6, rfl, hb6, hf6⟩
  have hs6 := hb6.size
  replace R1 := R1.keep hb6 z5
  replace R2 := R2.keep hb6 z5
  replace hbw := hbw.trans (hb6.mono hbw.size)
  have z6 := Nat.le_trans z5 hs6
  have R6 := hf6.rep
  simp only [Option.getD_some] at R6
  go_wp2_with fail
  refine Calls.mono (impl_DiffOf_any _ _ _ _ _ _ ys xs w6 _ _ _ _ R2 R1 z6 z6) ?_
  rw [Hm2.out]
  rintro e w7 ⟨A7, n7, c7, rfl, hb7, hf7⟩
  have hs7 := hb7.size
  replace R1 := R1.keep hb7 z6
  replace R2 := R2.keep hb7 z6
  replace R6 := R6.keep hb7 (Nat.le_refl _)
  replace hbw := hbw.trans (hb7.mono hbw.size)
  have z7 := Nat.le_trans z6 hs7
  go_wp2_with fail
  refine Calls.mono (impl_PatchDo_any _ _ _ _ _ _ ys (diffOf ys xs) w7 _ _ _ _ R2 hf7.rep z7 (Nat.le_refl _)) ?_
  rw [Hdo2.out]
  rintro e w8 ⟨A8, n8, c8, rfl, hb8, hf8⟩
  have hs8 := hb8.size
  replace R1 := R1.keep hb8 z7
  replace R6 := R6.keep hb8 hs7
  replace hbw := hbw.trans (hb8.mono hbw.size)
  have R8 := hf8.rep
  simp only [Option.getD_some] at R8
  clear hb5 hb6 hb7 hb8 hf5 hf6 hf7 hf8 R2
  go_wp2_with fail
  refine Calls.mono (smTexts_any _ _ _ _ _ _ xs xs w8 _ _ _ _ R6 R1) ?_
  rintro e w9 ⟨rfl, m9, rfl⟩
  go_wp2_with fail
  refine Calls.mono (smTexts_any _ _ _ _ _ _ xs xs _ _ _ _ _ (R8.drewN m9) (R1.drewN m9)) ?_
  rintro e w10 ⟨rfl, m10, rfl⟩
  go_wp2
  go_ret
  exact ⟨by simp, below_drewN hbw _⟩
end Go.Proofs.Ytpdbpekjfbeaaaa
