/- The walk of the law FnMergeOne. -/
import Derived.Test.YtbnhebmfgjdocaaMergeTextLaw
import Derived.Test.YtbnhebmfgjdocaaSpecText
import Derived.Test.YtbnhebmfgjdocaaDrawThree
import Derived.Test.YtbnhebmfgjdocaaSmTexts
namespace Go.Proofs.Ytbnhebmfgjdocaa
open Go.RowKit

theorem small20c {xs : List Str} (h : ∀ s ∈ xs, s.length ≤ 20) : ∀ s ∈ xs, s.length ≤ 9223372036854775807 := fun s hs => by have := h s hs; omega
set_option maxRecDepth 100000 in
set_option maxHeartbeats 3200000 in
theorem law_MergeOne (A : Option Addr) (n c : Nat) (bs : List UInt8) (w : World) (h : Rep w 0 w.heap.size (encBytes bs) (.slice A n c)) :
    Calls Try.prog 9 #[.slice A n c] w fun e w' => e = .returned (.bool true) ∧ Below w.heap.size w w' := by
  have hl := Bytes.n h
  subst hl
  by_cases g : 1048576 < (bs.length : Int)
  · go_enter Try.func9, Try.ntmps9
    go_wp2
    go_ret
    exact ⟨rfl, Below.refl _ _⟩
  go_enter Try.func9, Try.ntmps9
  go_wp2_with fail
  refine Calls.mono (spec_DrawMergeText_any A bs.length c bs w 0 w.heap.size h (Nat.le_refl _)) ?_
  rintro e w1 ⟨xs, ys, zs, v, u, t, rfl, hb1, hM1, hM2, hM3, hl1, hl2, hl3⟩
  obtain ⟨A1, c1, rfl, hc1, _, _⟩ := hM1.shape
  obtain ⟨A2, c2, rfl, hc2, _, _⟩ := hM2.shape
  obtain ⟨A3, c3, rfl, hc3, _, _⟩ := hM3.shape
  have R1 := hM1.fresh.rep
  have R2 := hM2.fresh.rep
  have R3 := hM3.fresh.rep
  have k1 := small20c hM1.2
  have k2 := small20c hM2.2
  have k3 := small20c hM3.2
  have hs1 := hb1.size
  go_wp2_with fail
  refine Calls.mono (impl_MergeText_any _ _ _ _ _ _ _ _ _ xs ys zs w1 _ _ _ _ _ _ R1 R2 R3 (Nat.le_refl _) (Nat.le_refl _) (Nat.le_refl _)) ?_
  rintro e w2 ⟨A4, n4, c4, rfl, hb2, hf2⟩
  have hs2 := hb2.size
  replace R1 := R1.keep hb2 (Nat.le_refl _)
  replace R2 := R2.keep hb2 (Nat.le_refl _)
  replace R3 := R3.keep hb2 (Nat.le_refl _)
  go_wp2_with fail
  refine Calls.mono (spec_MergeText_any _ _ _ _ _ _ _ _ _ xs ys zs w2 _ _ _ _ _ _ R1 R2 R3 hs2 hs2 hs2 k1 k2 k3) ?_
  rintro e w3 ⟨A5, n5, c5, rfl, hb3, hf3⟩
  have hs3 := hb3.size
  replace R1 := R1.keep hb3 hs2
  replace R2 := R2.keep hb3 hs2
  replace R3 := R3.keep hb3 hs2
  have X4 := hf2.rep.keep hb3 (Nat.le_refl _)
  have X5 := hf3.rep
  have hbw : Below w.heap.size w w3 := (hb1.trans (hb2.mono hs1)).trans (hb3.mono (Nat.le_trans hs1 hs2))
  have hz : w1.heap.size ≤ w3.heap.size := Nat.le_trans hs2 hs3
  obtain ⟨ok, hok⟩ : ∃ ok, ok = (mergeText xs ys zs).isSome := ⟨_, rfl⟩
  obtain ⟨tx, htx⟩ : ∃ tx, tx = (mergeText xs ys zs).getD [] := ⟨_, rfl⟩
  rw [← htx] at X4 X5
  rw [← hok]
  have hoo : (!(ok == ok)) = false := by simp
  have hoe : (ok == ok) = true := by simp
  clear hb1 hb2 hb3 hf2 hf3 hM1 hM2 hM3 hok htx
  go_wp2_with fail
  refine Calls.mono (smTexts_any _ _ _ _ _ _ tx tx _ _ _ _ _ (X4.same (fun _ _ _ => rfl)) (X5.same (fun _ _ _ => rfl))) ?_
  rintro e _ ⟨rfl, m1, rfl⟩
  rw [decide_eq_true rfl]
  go_wp2_with fail
  refine Calls.mono (impl_TextOk_any _ _ _ xs _ _ _ (R1.same (fun _ _ _ => rfl))) ?_
  rintro e w' ⟨rfl, rfl⟩
  cases t1 : textOk xs
  · go_wp2_with fail
    refine Calls.mono (smTexts_any _ _ _ _ _ _ tx tx _ _ _ _ _ (X4.same (fun _ _ _ => rfl)) (X5.same (fun _ _ _ => rfl))) ?_
    rintro e _ ⟨rfl, m2, rfl⟩
    rw [decide_eq_true rfl]
    go_wp2
    go_ret
    exact ⟨by simp, by (repeat' (first | with_reducible exact Below.refl _ _ | with_reducible assumption | (with_reducible refine Below.setCell ?_ ?_ _) | (with_reducible refine Below.alloc ?_ ?_ _) | (with_reducible refine below_drewN ?_ _) | (with_reducible refine Below.drew ?_) | omega | (simp; done) | (simp; omega)))⟩
  go_wp2_with fail
  refine Calls.mono (impl_TextOk_any _ _ _ ys _ _ _ (R2.same (fun _ _ _ => rfl))) ?_
  rintro e w' ⟨rfl, rfl⟩
  cases t2 : textOk ys
  · go_wp2_with fail
    refine Calls.mono (smTexts_any _ _ _ _ _ _ tx tx _ _ _ _ _ (X4.same (fun _ _ _ => rfl)) (X5.same (fun _ _ _ => rfl))) ?_
    rintro e _ ⟨rfl, m2, rfl⟩
    rw [decide_eq_true rfl]
    go_wp2
    go_ret
    exact ⟨by simp, by (repeat' (first | with_reducible exact Below.refl _ _ | with_reducible assumption | (with_reducible refine Below.setCell ?_ ?_ _) | (with_reducible refine Below.alloc ?_ ?_ _) | (with_reducible refine below_drewN ?_ _) | (with_reducible refine Below.drew ?_) | omega | (simp; done) | (simp; omega)))⟩
  go_wp2_with fail
  refine Calls.mono (impl_TextOk_any _ _ _ zs _ _ _ (R3.same (fun _ _ _ => rfl))) ?_
  rintro e w' ⟨rfl, rfl⟩
  cases t3 : textOk zs
  · go_wp2_with fail
    refine Calls.mono (smTexts_any _ _ _ _ _ _ tx tx _ _ _ _ _ (X4.same (fun _ _ _ => rfl)) (X5.same (fun _ _ _ => rfl))) ?_
    rintro e _ ⟨rfl, m2, rfl⟩
    rw [decide_eq_true rfl]
    go_wp2
    go_ret
    exact ⟨by simp, by (repeat' (first | with_reducible exact Below.refl _ _ | with_reducible assumption | (with_reducible refine Below.setCell ?_ ?_ _) | (with_reducible refine Below.alloc ?_ ?_ _) | (with_reducible refine below_drewN ?_ _) | (with_reducible refine Below.drew ?_) | omega | (simp; done) | (simp; omega)))⟩
  have hmo : mergeOk xs ys zs = true := by unfold mergeOk; rw [t1, t2, t3]; rfl
  obtain ⟨e1, e2, e3⟩ := mergeText_left hmo
  have E1 := Lib.hid e1
  have E2 := Lib.hid e2
  have E3 := Lib.hid e3
  clear hmo e1 e2 e3 t1 t2 t3 X4 X5
  go_wp2_with fail
  refine Calls.mono (impl_MergeText_any _ _ _ _ _ _ _ _ _ xs xs zs _ _ _ _ _ _ _ (R1.same (fun _ _ _ => rfl)) (R1.same (fun _ _ _ => rfl)) (R3.same (fun _ _ _ => rfl)) (show w1.heap.size ≤ w3.heap.size from hz) (show w1.heap.size ≤ w3.heap.size from hz) (show w1.heap.size ≤ w3.heap.size from hz)) ?_
  rw [E1.out]
  rintro e w6 ⟨B6, p6, d6, rfl, hb6, hf6⟩
  have hbi6 : Below w3.heap.size w3 w6 := ⟨hb6.os, hb6.tape, hb6.output, hb6.size, hb6.block⟩
  have hs6 := hbi6.size
  replace hbw := hbw.trans (hbi6.mono hbw.size)
  replace R1 := R1.keep hbi6 hz
  replace R2 := R2.keep hbi6 hz
  replace R3 := R3.keep hbi6 hz
  have Y6 := hf6.rep
  simp only [Option.getD_some] at Y6
  have hzY6 := Nat.le_refl w6.heap.size
  replace hz := Nat.le_trans hz hs6
  clear hb6 hf6 hbi6
  go_wp2_with fail
  refine Calls.mono (impl_MergeText_any _ _ _ _ _ _ _ _ _ xs ys xs _ _ _ _ _ _ _ (R1.same (fun _ _ _ => rfl)) (R2.same (fun _ _ _ => rfl)) (R1.same (fun _ _ _ => rfl)) hz hz hz) ?_
  rw [E2.out]
  rintro e w7 ⟨B7, p7, d7, rfl, hb7, hf7⟩
  have hbi7 := hb7
  have hs7 := hbi7.size
  replace hbw := hbw.trans (hbi7.mono hbw.size)
  replace R1 := R1.keep hbi7 hz
  replace R2 := R2.keep hbi7 hz
  replace R3 := R3.keep hbi7 hz
  replace Y6 := Y6.keep hbi7 hzY6
  have Y7 := hf7.rep
  simp only [Option.getD_some] at Y7
  have hzY7 := Nat.le_refl w7.heap.size
  replace hz := Nat.le_trans hz hs7
  replace hzY6 := Nat.le_trans hzY6 hs7
  clear hb7 hf7 hbi7
  go_wp2_with fail
  refine Calls.mono (impl_MergeText_any _ _ _ _ _ _ _ _ _ xs ys ys _ _ _ _ _ _ _ (R1.same (fun _ _ _ => rfl)) (R2.same (fun _ _ _ => rfl)) (R2.same (fun _ _ _ => rfl)) hz hz hz) ?_
  rw [E3.out]
  rintro e w8 ⟨B8, p8, d8, rfl, hb8, hf8⟩
  have hbi8 := hb8
  have hs8 := hbi8.size
  replace hbw := hbw.trans (hbi8.mono hbw.size)
  replace R1 := R1.keep hbi8 hz
  replace R2 := R2.keep hbi8 hz
  replace R3 := R3.keep hbi8 hz
  replace Y6 := Y6.keep hbi8 hzY6
  replace Y7 := Y7.keep hbi8 hzY7
  have Y8 := hf8.rep
  simp only [Option.getD_some] at Y8
  have hzY8 := Nat.le_refl w8.heap.size
  replace hz := Nat.le_trans hz hs8
  replace hzY6 := Nat.le_trans hzY6 hs8
  replace hzY7 := Nat.le_trans hzY7 hs8
  clear hb8 hf8 hbi8
  go_wp2_with fail
  refine Calls.mono (smTexts_any _ _ _ _ _ _ zs zs _ _ _ _ _ (Y6.same (fun _ _ _ => rfl)) (R3.same (fun _ _ _ => rfl))) ?_
  rintro e _ ⟨rfl, q1, rfl⟩
  rw [decide_eq_true rfl]
  go_wp2_with fail
  refine Calls.mono (smTexts_any _ _ _ _ _ _ ys ys _ _ _ _ _ (Y7.same (fun _ _ _ => rfl)) (R2.same (fun _ _ _ => rfl))) ?_
  rintro e _ ⟨rfl, q2, rfl⟩
  rw [decide_eq_true rfl]
  go_wp2_with fail
  refine Calls.mono (smTexts_any _ _ _ _ _ _ ys ys _ _ _ _ _ (Y8.same (fun _ _ _ => rfl)) (R2.same (fun _ _ _ => rfl))) ?_
  rintro e _ ⟨rfl, q3, rfl⟩
  rw [decide_eq_true rfl]
  go_wp2
  go_ret
  exact ⟨by simp, by (repeat' (first | with_reducible exact Below.refl _ _ | with_reducible assumption | (with_reducible refine Below.setCell ?_ ?_ _) | (with_reducible refine Below.alloc ?_ ?_ _) | (with_reducible refine below_drewN ?_ _) | (with_reducible refine Below.drew ?_) | omega | (simp; done) | (simp; omega)))⟩
end Go.Proofs.Ytbnhebmfgjdocaa
