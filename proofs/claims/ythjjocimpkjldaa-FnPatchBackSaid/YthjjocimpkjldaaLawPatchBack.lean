/- The walk of the law FnPatchBack. -/
import Derived.Test.YthjjocimpkjldaaDrawPatch
import Derived.Test.YthjjocimpkjldaaPatchLaw
import Derived.Test.YthjjocimpkjldaaDoFn
import Derived.Test.YthjjocimpkjldaaBackFn
import Derived.Test.YthjjocimpkjldaaSmHunks
namespace Go.Proofs.Ythjjocimpkjldaa
open Go.RowKit

set_option maxRecDepth 100000 in
set_option maxHeartbeats 3200000 in
theorem law_PatchBack (A : Option Addr) (n c : Nat) (bs : List UInt8) (w : World) (h : Rep w 0 w.heap.size (encBytes bs) (.slice A n c)) :
    Calls Try.prog 7 #[.slice A n c] w fun e w' => e = .returned (.bool true) ∧ Below w.heap.size w w' := by
  have hl := Bytes.n h
  subst hl
  by_cases g : 1048576 < (bs.length : Int)
  · go_enter Try.func7, Try.ntmps7
    go_wp2
    go_ret
    exact ⟨rfl, Below.refl _ _⟩
  go_enter Try.func7, Try.ntmps7
  go_wp2_with fail
  refine Calls.mono (spec_DrawPatchDo_any A bs.length c bs w 0 w.heap.size h (Nat.le_refl _)) ?_
  rintro e w1 ⟨xs, ys, A1, A2, n1, c1, n2, c2, rfl, hb1, R1, R2, hx1, hs2⟩
  have hw1 := hb1.size
  go_wp2_with fail
  refine Calls.mono (impl_PatchDo_any _ _ _ _ _ _ xs ys w1 _ _ _ _ R1 R2 (Nat.le_refl _) (Nat.le_refl _)) ?_
  rintro e w2 ⟨A3, n3, c3, rfl, hb2, hf2⟩
  have hw2 := hb2.size
  replace R1 := R1.keep hb2 (Nat.le_refl _)
  replace R2 := R2.keep hb2 (Nat.le_refl _)
  go_wp2_with fail
  refine Calls.mono (spec_PatchDo_any _ _ _ _ _ _ xs ys w2 _ _ _ _ R1 R2 hw2 hw2 (small20p hx1) (smallHunks_ok hs2)) ?_
  rintro e w3 ⟨A4, n4, c4, rfl, hb3, hf3⟩
  have hw3 := hb3.size
  replace R1 := R1.keep hb3 hw2
  replace R2 := R2.keep hb3 hw2
  have X3 := hf2.rep.keep hb3 (Nat.le_refl _)
  have X4 := hf3.rep
  have hbw : Below w.heap.size w w3 := (hb1.trans (hb2.mono hw1)).trans (hb3.mono (Nat.le_trans hw1 hw2))
  have hz : w1.heap.size ≤ w3.heap.size := Nat.le_trans hw2 hw3
  obtain ⟨r, hr⟩ : ∃ r, r = patchDo xs ys := ⟨_, rfl⟩
  rw [← hr] at X3 X4 ⊢
  have Hr := Lib.hid hr
  clear hb1 hb2 hf2 hf3 hr
  cases r with
  | none =>
    simp only [Option.isSome_none, Option.getD_none] at X3 X4 ⊢
    go_wp2_with fail
    refine Calls.mono (smTexts_any _ _ _ _ _ _ [] [] _ _ _ _ _ X3 X4) ?_
    rintro e _ ⟨rfl, m1, rfl⟩
    rw [decide_eq_true rfl]
    go_wp2_with fail
    refine Calls.mono (smTexts_any _ _ _ _ _ _ [] [] _ _ _ _ _ (X3.same (fun _ _ _ => rfl)) (X4.same (fun _ _ _ => rfl))) ?_
    rintro e _ ⟨rfl, m2, rfl⟩
    rw [decide_eq_true rfl]
    go_wp2
    go_ret
    exact ⟨by simp, by (repeat' (first | with_reducible exact Below.refl _ _ | with_reducible assumption | (with_reducible refine Below.setCell ?_ ?_ _) | (with_reducible refine Below.alloc ?_ ?_ _) | (with_reducible refine below_drewN ?_ _) | (with_reducible refine Below.drew ?_) | omega | (simp; done) | (simp; omega)))⟩
  | some zs =>
    simp only [Option.isSome_some, Option.getD_some] at X3 X4 ⊢
    obtain ⟨e1, e2⟩ := patch_back Hr.out.symm
    have E1 := Lib.hid e1
    have E2 := Lib.hid e2
    clear e1 e2
    have hzz := Nat.le_refl w3.heap.size
    go_wp2_with fail
    refine Calls.mono (smTexts_any _ _ _ _ _ _ zs zs _ _ _ _ _ X3 X4) ?_
    rintro e _ ⟨rfl, m1, rfl⟩
    rw [decide_eq_true rfl]
    go_wp2_with fail
    refine Calls.mono (impl_PatchBack_any _ _ _ ys _ _ _ (R2.same (fun _ _ _ => rfl)) hz) ?_
    rintro e w5 ⟨A5, n5, c5, rfl, hb5, hf5⟩
    have hbi5 : Below w3.heap.size w3 w5 := ⟨hb5.os, hb5.tape, hb5.output, hb5.size, hb5.block⟩
    have hw5 := hbi5.size
    replace hbw := hbw.trans (hbi5.mono hbw.size)
    replace R1 := R1.keep hbi5 hz
    replace R2 := R2.keep hbi5 hz
    replace X3 := X3.keep hbi5 hw3
    have X5 := hf5.rep
    replace hz := Nat.le_trans hz hw5
    have hz5 := Nat.le_refl w5.heap.size
    clear hb5 hf5 X4 hb3 hbi5
    go_wp2_with fail
    refine Calls.mono (impl_PatchDo_any _ _ _ _ _ _ zs (patchBack ys) w5 _ _ _ _ X3 X5 (Nat.le_trans hw3 hw5) hz5) ?_
    rintro e w6 ⟨A6, n6, c6, rfl, hb6, hf6⟩
    have hw6 := hb6.size
    rw [E1.out] at hf6 ⊢
    simp only [Option.isSome_some, Option.getD_some] at hf6 ⊢
    have X6 := hf6.rep
    replace hbw := hbw.trans (hb6.mono hbw.size)
    replace R1 := R1.keep hb6 hz
    replace R2 := R2.keep hb6 hz
    replace X5 := X5.keep hb6 hz5
    replace hz := Nat.le_trans hz hw6
    replace hz5 := Nat.le_trans hz5 hw6
    clear hb6 hf6
    go_wp2_with fail
    refine Calls.mono (smTexts_any _ _ _ _ _ _ xs xs _ _ _ _ _ X6 R1) ?_
    rintro e _ ⟨rfl, m2, rfl⟩
    rw [decide_eq_true rfl]
    go_wp2_with fail
    refine Calls.mono (impl_PatchBack_any _ _ _ (patchBack ys) _ _ _ (X5.same (fun _ _ _ => rfl)) hz5) ?_
    rintro e w7 ⟨A7, n7, c7, rfl, hb7, hf7⟩
    have hbi7 : Below w6.heap.size w6 w7 := ⟨hb7.os, hb7.tape, hb7.output, hb7.size, hb7.block⟩
    have hw7 := hbi7.size
    rw [E2.out] at hf7
    have X7 := hf7.rep
    replace hbw := hbw.trans (hbi7.mono hbw.size)
    replace R2 := R2.keep hbi7 hz
    replace X5 := X5.keep hbi7 hz5
    replace hz := Nat.le_trans hz hw7
    replace hz5 := Nat.le_trans hz5 hw7
    clear hb7 hf7 hbi7 X6 X3
    go_wp2_with fail
    refine Calls.mono (smHunks_same _ _ _ _ _ _ ys w7 _ _ _ _ X7 R2 (Nat.le_refl _) hz) ?_
    rintro e w8 ⟨rfl, hb8⟩
    have hw8 := hb8.size
    replace hbw := hbw.trans (hb8.mono hbw.size)
    replace R2 := R2.keep hb8 hz
    replace X5 := X5.keep hb8 hz5
    replace hz := Nat.le_trans hz hw8
    replace hz5 := Nat.le_trans hz5 hw8
    clear hb8 X7
    go_wp2_with fail
    refine Calls.mono (spec_PatchBack_any _ _ _ ys w8 _ _ R2 hz (smallHunks_ok hs2)) ?_
    rintro e w9 ⟨A9, n9, c9, rfl, hb9, hf9⟩
    have hw9 := hb9.size
    have X9 := hf9.rep
    replace hbw := hbw.trans (hb9.mono hbw.size)
    replace X5 := X5.keep hb9 hz5
    replace hz5 := Nat.le_trans hz5 hw9
    go_wp2_with fail
    refine Calls.mono (smHunks_same _ _ _ _ _ _ (patchBack ys) w9 _ _ _ _ X5 X9 hz5 (Nat.le_refl _)) ?_
    rintro e w10 ⟨rfl, hb10⟩
    replace hbw := hbw.trans (hb10.mono hbw.size)
    go_wp2
    go_ret
    exact ⟨by simp, hbw⟩
end Go.Proofs.Ythjjocimpkjldaa
