/- The walk of the law FnPatchShift. -/
import Derived.Test.YthjjocimpkjldaaDrawPatch
import Derived.Test.YthjjocimpkjldaaShiftLaw
import Derived.Test.YthjjocimpkjldaaShift3
import Derived.Test.YthjjocimpkjldaaDoFn
import Derived.Test.YthjjocimpkjldaaSmHunks
namespace Go.Proofs.Ythjjocimpkjldaa
open Go.RowKit

set_option maxRecDepth 100000 in
set_option maxHeartbeats 3200000 in
theorem law_PatchShift (A : Option Addr) (n c : Nat) (bs : List UInt8) (w : World) (h : Rep w 0 w.heap.size (encBytes bs) (.slice A n c)) :
    Calls Try.prog 6 #[.slice A n c] w fun e w' => e = .returned (.bool true) ∧ Below w.heap.size w w' := by
  have hl := Bytes.n h
  subst hl
  by_cases g : 1048576 < (bs.length : Int)
  · go_enter Try.func6, Try.ntmps6
    go_wp2
    go_ret
    exact ⟨rfl, Below.refl _ _⟩
  go_enter Try.func6, Try.ntmps6
  go_wp2_with fail
  refine Calls.mono (spec_DrawPatchShift_any A bs.length c bs w 0 w.heap.size h (Nat.le_refl _)) ?_
  rintro e w1 ⟨xs, ys, A1, A2, n1, c1, n2, c2, rfl, hb1, R1, R2, hs1, hs2⟩
  have hbw := hb1
  have hw1 := hb1.size
  have hz := Nat.le_refl w1.heap.size
  go_wp2_with fail
  refine Calls.mono (impl_PatchShift_any _ _ _ _ _ _ xs ys w1 _ _ _ _ R1 R2 hz hz) ?_
  rintro e w2 ⟨A3, n3, c3, rfl, hb2, hf2⟩
  have hw2 := hb2.size
  replace hbw := hbw.trans (hb2.mono hbw.size)
  replace R1 := R1.keep hb2 hz
  replace R2 := R2.keep hb2 hz
  have R3 := hf2.rep
  have hz3 := Nat.le_refl w2.heap.size
  replace hz := Nat.le_trans hz hw2
  clear hb1 hb2 hf2
  go_wp2_with fail
  refine Calls.mono (impl_PatchFree_any _ _ _ _ _ _ xs ys w2 _ _ _ _ R1 R2 hz hz) ?_
  rintro e w3 ⟨rfl, hb3⟩
  have hw3 := hb3.size
  replace hbw := hbw.trans (hb3.mono hbw.size)
  replace R1 := R1.keep hb3 hz
  replace R2 := R2.keep hb3 hz
  replace R3 := R3.keep hb3 hz3
  replace hz3 := Nat.le_trans hz3 hw3
  replace hz := Nat.le_trans hz hw3
  obtain ⟨fr, hfr⟩ : ∃ fr, fr = patchFree xs ys := ⟨_, rfl⟩
  rw [← hfr]
  have hoo : (!(fr == fr)) = false := by simp
  have hoe : (fr == fr) = true := by simp
  have Hfr := Lib.hid hfr
  clear hb3 hfr
  go_wp2_with fail
  refine Calls.mono (spec_PatchShift_any _ _ _ _ _ _ xs ys w3 _ _ _ _ R1 R2 hz hz (smallHunks_ok hs1) (smallHunks_ok hs2)) ?_
  rintro e w4 ⟨A4, n4, c4, rfl, hb4, hf4⟩
  have hw4 := hb4.size
  replace hbw := hbw.trans (hb4.mono hbw.size)
  replace R1 := R1.keep hb4 hz
  replace R2 := R2.keep hb4 hz
  replace R3 := R3.keep hb4 hz3
  have R4 := hf4.rep
  replace hz3 := Nat.le_trans hz3 hw4
  replace hz := Nat.le_trans hz hw4
  clear hb4 hf4
  go_wp2_with fail
  refine Calls.mono (smHunks_same _ _ _ _ _ _ (patchShift xs ys) w4 _ _ _ _ R3 R4 hz3 (Nat.le_refl _)) ?_
  rintro e w5 ⟨rfl, hb5⟩
  have hw5 := hb5.size
  replace hbw := hbw.trans (hb5.mono hbw.size)
  replace R1 := R1.keep hb5 hz
  replace R2 := R2.keep hb5 hz
  replace R3 := R3.keep hb5 hz3
  replace hz3 := Nat.le_trans hz3 hw5
  replace hz := Nat.le_trans hz hw5
  clear hb5 R4
  go_wp2_with fail
  refine Calls.mono (spec_PatchFree_any _ _ _ _ _ _ xs ys w5 _ _ _ _ R1 R2 hz hz (smallHunks_ok hs1) (smallHunks_ok hs2)) ?_
  rintro e w6 ⟨rfl, hb6⟩
  have hw6 := hb6.size
  replace hbw := hbw.trans (hb6.mono hbw.size)
  replace R1 := R1.keep hb6 hz
  replace R2 := R2.keep hb6 hz
  replace R3 := R3.keep hb6 hz3
  replace hz3 := Nat.le_trans hz3 hw6
  replace hz := Nat.le_trans hz hw6
  rw [← Hfr.out]
  clear hb6
  cases fr
  · go_wp2_with fail
    refine Calls.mono (spec_PatchShift_any _ _ _ _ _ _ xs ys w6 _ _ _ _ R1 R2 hz hz (smallHunks_ok hs1) (smallHunks_ok hs2)) ?_
    rintro e w7 ⟨A7, n7, c7, rfl, hb7, hf7⟩
    have hw7 := hb7.size
    replace hbw := hbw.trans (hb7.mono hbw.size)
    replace R1 := R1.keep hb7 hz
    replace R2 := R2.keep hb7 hz
    replace R3 := R3.keep hb7 hz3
    replace hz3 := Nat.le_trans hz3 hw7
    replace hz := Nat.le_trans hz hw7
    go_wp2_with fail
    refine Calls.mono (smHunks_same _ _ _ _ _ _ (patchShift xs ys) w7 _ _ _ _ R3 hf7.rep hz3 (Nat.le_refl _)) ?_
    rintro e w8 ⟨rfl, hb8⟩
    have hw8 := hb8.size
    replace hbw := hbw.trans (hb8.mono hbw.size)
    replace R1 := R1.keep hb8 hz
    replace R2 := R2.keep hb8 hz
    replace hz := Nat.le_trans hz hw8
    go_wp2_with fail
    refine Calls.mono (spec_PatchFree_any _ _ _ _ _ _ xs ys w8 _ _ _ _ R1 R2 hz hz (smallHunks_ok hs1) (smallHunks_ok hs2)) ?_
    rintro e w9 ⟨rfl, hb9⟩
    rw [← Hfr.out]
    go_wp2
    go_ret
    exact ⟨by simp, hbw.trans (hb9.mono hbw.size)⟩
  · go_wp2_with fail
    have hT := lit_eight w6
    generalize hW : w6.alloc (.cells #[.string ⟨#[49]⟩, .string ⟨#[50]⟩, .string ⟨#[51]⟩, .string ⟨#[52]⟩, .string ⟨#[53]⟩, .string ⟨#[54]⟩, .string ⟨#[55]⟩, .string ⟨#[56]⟩] 9) = W at hT ⊢
    have hbW : Below w6.heap.size w6 W := by rw [← hW]; exact (Below.refl _ _).alloc (Nat.le_refl _) _
    have hsW : w6.heap.size + 1 ≤ W.heap.size := by rw [← hW]; simp
    have hsW' := hbW.size
    generalize w6.heap.size + 1 = b6 at hT hsW
    replace hbw := hbw.trans (hbW.mono hbw.size)
    replace R1 := R1.keep hbW hz
    replace R2 := R2.keep hbW hz
    replace R3 := R3.keep hbW hz3
    replace hz3 := Nat.le_trans hz3 hsW'
    replace hz := Nat.le_trans hz hsW'
    clear hW hbW
    refine Calls.mono (impl_PatchDo_any _ _ _ _ _ _ eightT xs W _ _ _ _ hT R1 hsW hz) ?_
    rintro e w8 ⟨A8, n8, c8, rfl, hb8, hf8⟩
    have hw8 := hb8.size
    replace hbw := hbw.trans (hb8.mono hbw.size)
    replace R1 := R1.keep hb8 hz
    replace R2 := R2.keep hb8 hz
    replace R3 := R3.keep hb8 hz3
    replace hT := hT.keep hb8 hsW
    have X8 := hf8.rep
    have hz8 := Nat.le_refl w8.heap.size
    replace hz3 := Nat.le_trans hz3 hw8
    replace hz := Nat.le_trans hz hw8
    replace hsW := Nat.le_trans hsW hw8
    clear hb8 hf8
    obtain ⟨r1, hr1⟩ : ∃ r, r = patchDo eightT xs := ⟨_, rfl⟩
    rw [← hr1] at X8 ⊢
    have Hr1 := Lib.hid hr1
    clear hr1
    go_wp2_with fail
    refine Calls.mono (impl_PatchDo_any _ _ _ _ _ _ eightT ys w8 _ _ _ _ hT R2 hsW hz) ?_
    rintro e w9 ⟨A9, n9, c9, rfl, hb9, hf9⟩
    have hw9 := hb9.size
    replace hbw := hbw.trans (hb9.mono hbw.size)
    replace R1 := R1.keep hb9 hz
    replace R2 := R2.keep hb9 hz
    replace R3 := R3.keep hb9 hz3
    replace X8 := X8.keep hb9 hz8
    have X9 := hf9.rep
    have hz9 := Nat.le_refl w9.heap.size
    replace hz8 := Nat.le_trans hz8 hw9
    replace hz3 := Nat.le_trans hz3 hw9
    replace hz := Nat.le_trans hz hw9
    clear hb9 hf9 hT
    obtain ⟨r2, hr2⟩ : ∃ r, r = patchDo eightT ys := ⟨_, rfl⟩
    rw [← hr2] at X9 ⊢
    have Hr2 := Lib.hid hr2
    clear hr2
    cases r1 with
    | none =>
      simp only [Option.isSome_none, Option.getD_none] at X8 ⊢
      go_wp2
      go_ret
      exact ⟨rfl, hbw⟩
    | some x =>
      simp only [Option.isSome_some, Option.getD_some] at X8 ⊢
      cases r2 with
      | none =>
        simp only [Option.isSome_none, Option.getD_none] at X9 ⊢
        go_wp2
        go_ret
        exact ⟨rfl, hbw⟩
      | some y =>
        simp only [Option.isSome_some, Option.getD_some] at X9 ⊢
        have q1 := bnd_PatchDo eightT xs
        have q2 := bnd_PatchDo eightT ys
        rw [← Hr1.out] at q1
        rw [← Hr2.out] at q2
        simp only [Option.getD_some] at q1 q2
        have hn8 := Text.n X8
        have hn9 := Text.n X9
        subst hn8 hn9
        have hv1 : IntKind.i64.wrap ((x.length : Int) + (y.length : Int)) = (x.length : Int) + (y.length : Int) := by rw [IntKind.wrap_i64]; omega
        have hv2 : IntKind.i64.wrap ((x.length : Int) + (y.length : Int) - 8) = (x.length : Int) + (y.length : Int) - 8 := by rw [IntKind.wrap_i64]; omega
        by_cases hg : 10 < (x.length : Int) + (y.length : Int) - 8
        · go_wp2
          go_ret
          exact ⟨rfl, hbw⟩
        · obtain ⟨p, p1, p2⟩ := patch_shift Hfr.out.symm Hr1.out.symm Hr2.out.symm (show x.length + y.length ≤ 8 + 10 by omega)
          have P1 := Lib.hid p1
          have P2 := Lib.hid p2
          clear p1 p2
          go_wp2_with fail
          refine Calls.mono (impl_PatchDo_any _ _ _ _ _ _ x (patchShift xs ys) w9 _ _ _ _ X8 R3 hz8 hz3) ?_
          rintro e w10 ⟨A10, n10, c10, rfl, hb10, hf10⟩
          rw [P1.out] at hf10 ⊢
          simp only [Option.isSome_some, Option.getD_some] at hf10 ⊢
          have hw10 := hb10.size
          replace hbw := hbw.trans (hb10.mono hbw.size)
          replace R1 := R1.keep hb10 hz
          replace R2 := R2.keep hb10 hz
          replace X9 := X9.keep hb10 hz9
          have X10 := hf10.rep
          have hz10 := Nat.le_refl w10.heap.size
          replace hz9 := Nat.le_trans hz9 hw10
          replace hz := Nat.le_trans hz hw10
          clear hb10 hf10 X8 R3
          go_wp2_with fail
          refine Calls.mono (impl_PatchShift_any _ _ _ _ _ _ ys xs w10 _ _ _ _ R2 R1 hz hz) ?_
          rintro e w11 ⟨A11, n11, c11, rfl, hb11, hf11⟩
          have hw11 := hb11.size
          replace hbw := hbw.trans (hb11.mono hbw.size)
          replace X9 := X9.keep hb11 hz9
          replace X10 := X10.keep hb11 hz10
          have X11 := hf11.rep
          replace hz9 := Nat.le_trans hz9 hw11
          replace hz10 := Nat.le_trans hz10 hw11
          clear hb11 hf11 R1 R2
          go_wp2_with fail
          refine Calls.mono (impl_PatchDo_any _ _ _ _ _ _ y (patchShift ys xs) w11 _ _ _ _ X9 X11 hz9 (Nat.le_refl _)) ?_
          rintro e w12 ⟨A12, n12, c12, rfl, hb12, hf12⟩
          rw [P2.out] at hf12 ⊢
          simp only [Option.isSome_some, Option.getD_some] at hf12 ⊢
          replace hbw := hbw.trans (hb12.mono hbw.size)
          replace X10 := X10.keep hb12 hz10
          have X12 := hf12.rep
          clear hb12 hf12
          go_wp2_with fail
          refine Calls.mono (smTexts_any _ _ _ _ _ _ p p _ _ _ _ _ X10 X12) ?_
          rintro e _ ⟨rfl, m, rfl⟩
          rw [decide_eq_true rfl]
          go_wp2
          go_ret
          exact ⟨by simp, by (repeat' (first | with_reducible exact Below.refl _ _ | with_reducible assumption | (with_reducible refine Below.setCell ?_ ?_ _) | (with_reducible refine Below.alloc ?_ ?_ _) | (with_reducible refine below_drewN ?_ _) | (with_reducible refine Below.drew ?_) | omega | (simp; done) | (simp; omega)))⟩
end Go.Proofs.Ythjjocimpkjldaa
