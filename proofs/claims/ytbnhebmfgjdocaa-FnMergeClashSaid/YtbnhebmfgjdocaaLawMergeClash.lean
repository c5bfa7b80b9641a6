/- The walk of the law FnMergeClash. -/
import Derived.Test.YtbnhebmfgjdocaaMergeTextLaw
import Derived.Test.YtbnhebmfgjdocaaMergedSide
import Derived.Test.YtbnhebmfgjdocaaClash
import Derived.Test.YtbnhebmfgjdocaaDrawThree
namespace Go.Proofs.Ytbnhebmfgjdocaa
open Go.RowKit

theorem small20d {xs : List Str} (h : ∀ s ∈ xs, s.length ≤ 20) : ∀ s ∈ xs, s.length ≤ 9223372036854775807 := fun s hs => by have := h s hs; omega
theorem clashes_swap (ps : List PPart) : clashes (ps.map swapPart) = clashes ps := by
  unfold clashes
  rw [List.filter_map, List.length_map]
  rfl
theorem mergeClash_swap {o a b : List Str} (h : mergeOk o a b = true) : mergeClash o b a = mergeClash o a b := by
  have h2 : mergeOk o b a = true := by
    unfold mergeOk at *
    simp only [Bool.and_eq_true] at *
    exact ⟨h.1, h.2.2, h.2.1⟩
  rw [mergeClash_yes h, mergeClash_yes h2, swap_merge o a b, clashes_swap]
theorem clashes_none {ps : List PPart} : clashes ps = 0 ↔ noClash ps := by
  unfold clashes noClash
  rw [List.length_eq_zero_iff, List.filter_eq_nil_iff]
  simp
theorem clash_text {o a b : List Str} (h : mergeOk o a b = true) (hc : 0 < clashes (mergeOf o a b)) : (mergeText o a b).isSome = false := by
  unfold mergeText
  rw [mergedOf_yes h, joinOk_none (join_clash (fun hn => by have := clashes_none.2 hn; omega))]
  rfl
theorem clash_side {o a b : List Str} (h : mergeOk o a b = true) (hc : clashes (mergeOf o a b) = 0) : (mergeText o a b).isSome = (mergeSide o a b 1).isSome := by
  have hn := clashes_none.1 hc
  rw [mergeSide_yes (by decide)]
  unfold mergeText
  rw [mergedOf_yes h, mergedOf_yes h, joinOk_some (join_noClash hn), joinOk_some (join_noClash hn)]

set_option maxRecDepth 100000 in
set_option maxHeartbeats 3200000 in
theorem law_MergeClash (A : Option Addr) (n c : Nat) (bs : List UInt8) (w : World) (h : Rep w 0 w.heap.size (encBytes bs) (.slice A n c)) :
    Calls Try.prog 11 #[.slice A n c] w fun e w' => e = .returned (.bool true) ∧ Below w.heap.size w w' := by
  have hl := Bytes.n h
  subst hl
  by_cases g : 1048576 < (bs.length : Int)
  · go_enter Try.func11, Try.ntmps11
    go_wp2
    go_ret
    exact ⟨rfl, Below.refl _ _⟩
  go_enter Try.func11, Try.ntmps11
  go_wp2_with fail
  refine Calls.mono (spec_DrawMergeClash_any A bs.length c bs w 0 w.heap.size h (Nat.le_refl _)) ?_
  rintro e w1 ⟨xs, ys, zs, v, u, t, rfl, hb1, hM1, hM2, hM3, hl1, hl2, hl3⟩
  obtain ⟨A1, c1, rfl, hc1, _, _⟩ := hM1.shape
  obtain ⟨A2, c2, rfl, hc2, _, _⟩ := hM2.shape
  obtain ⟨A3, c3, rfl, hc3, _, _⟩ := hM3.shape
  have R1 := hM1.fresh.rep
  have R2 := hM2.fresh.rep
  have R3 := hM3.fresh.rep
  have k1 := small20d hM1.2
  have k2 := small20d hM2.2
  have k3 := small20d hM3.2
  have hs1 := hb1.size
  go_wp2_with fail
  refine Calls.mono (impl_MergeClash_any _ _ _ _ _ _ _ _ _ xs ys zs w1 _ _ _ _ _ _ R1 R2 R3 (Nat.le_refl _) (Nat.le_refl _) (Nat.le_refl _)) ?_
  rintro e w2 ⟨rfl, hb2⟩
  have hs2 := hb2.size
  replace R1 := R1.keep hb2 (Nat.le_refl _)
  replace R2 := R2.keep hb2 (Nat.le_refl _)
  replace R3 := R3.keep hb2 (Nat.le_refl _)
  replace hb1 := hb1.trans (hb2.mono hs1)
  clear hb2 hM1 hM2 hM3
  go_wp2_with fail
  refine Calls.mono (spec_MergeClash_any _ _ _ _ _ _ _ _ _ xs ys zs w2 _ _ _ _ _ _ R1 R2 R3 hs2 hs2 hs2 k1 k2 k3) ?_
  rintro e w3 ⟨rfl, hb3⟩
  have hs3 := hb3.size
  replace R1 := R1.keep hb3 hs2
  replace R2 := R2.keep hb3 hs2
  replace R3 := R3.keep hb3 hs2
  replace hb1 := hb1.trans (hb3.mono hb1.size)
  have hz : w1.heap.size ≤ w3.heap.size := Nat.le_trans hs2 hs3
  clear hb3
  have hnn : ∀ m : Int, (m != m) = false := by simp
  cases hmo : mergeOk xs ys zs
  · have Hm := Lib.hid (mergeClash_no hmo)
    rw [Hm.out]
    clear hmo
    go_wp2_with fail
    refine Calls.mono (spec_MergeClash_any _ _ _ _ _ _ _ _ _ xs ys zs w3 _ _ _ _ _ _ R1 R2 R3 hz hz hz k1 k2 k3) ?_
    rw [Hm.out]
    rintro e w4 ⟨rfl, hb4⟩
    go_wp2
    go_ret
    exact ⟨rfl, hb1.trans (hb4.mono hb1.size)⟩
  · have Hm := Lib.hid (mergeClash_yes hmo)
    have Hsw := Lib.hid (mergeClash_swap hmo)
    rw [Hm.out]
    have hct := fun hc => clash_text hmo hc
    have hcs := fun hc => clash_side hmo hc
    obtain ⟨q, hq⟩ : ∃ q, q = clashes (mergeOf xs ys zs) := ⟨_, rfl⟩
    rw [← hq] at Hm hct hcs ⊢
    have Hq := Lib.hid hq
    obtain ⟨ok, hok⟩ : ∃ ok, ok = (mergeText xs ys zs).isSome := ⟨_, rfl⟩
    obtain ⟨sd, hsd⟩ : ∃ sd, sd = (mergeSide xs ys zs 1).isSome := ⟨_, rfl⟩
    rw [← hok] at hct hcs
    rw [← hsd] at hcs
    have Hok := Lib.hid hok
    have Hsd := Lib.hid hsd
    have hq0 : ¬ (q : Int) < 0 := by omega
    have hqq : ((q : Int) == (q : Int)) = true := by simp
    clear hmo hq hok hsd
    go_wp2_with fail
    refine Calls.mono (impl_MergeText_any _ _ _ _ _ _ _ _ _ xs ys zs w3 _ _ _ _ _ _ R1 R2 R3 hz hz hz) ?_
    rw [← Hok.out]
    rintro e w4 ⟨A4, n4, c4, rfl, hb4, hf4⟩
    have hs4 := hb4.size
    replace R1 := R1.keep hb4 hz
    replace R2 := R2.keep hb4 hz
    replace R3 := R3.keep hb4 hz
    replace hb1 := hb1.trans (hb4.mono hb1.size)
    replace hz := Nat.le_trans hz hs4
    clear hb4 hf4
    go_wp2_with fail
    refine Calls.mono (impl_MergeSide_any _ _ _ _ _ _ _ _ _ xs ys zs 1 w4 _ _ _ _ _ _ R1 R2 R3 hz hz hz) ?_
    rw [← Hsd.out]
    rintro e w5 ⟨A5, n5, c5, rfl, hb5, hf5⟩
    have hs5 := hb5.size
    replace R1 := R1.keep hb5 hz
    replace R2 := R2.keep hb5 hz
    replace R3 := R3.keep hb5 hz
    replace hb1 := hb1.trans (hb5.mono hb1.size)
    replace hz := Nat.le_trans hz hs5
    clear hb5 hf5
    go_wp2_with fail
    refine Calls.mono (impl_MergeClash_any _ _ _ _ _ _ _ _ _ xs zs ys w5 _ _ _ _ _ _ R1 R3 R2 hz hz hz) ?_
    rw [Hsw.out, Hm.out]
    rintro e w6 ⟨rfl, hb6⟩
    have hbz := hb1.trans (hb6.mono hb1.size)
    clear hb6
    by_cases hq1 : q = 0
    · have e := hcs hq1
      have hqi : ((q : Int) == 0) = true := by simp [hq1]
      have hql : ¬ (0 : Int) < (q : Int) := by omega
      have E := Lib.hid e
      clear hct hcs e hq1
      have hes : ∀ x : Bool, (x == x) = true := by simp
      cases ok
      all_goals
        rw [← E.out]
        go_wp2
        go_ret
        exact ⟨by simp, hbz⟩
    · have e := hct (by omega)
      have hql : (0 : Int) < (q : Int) := by omega
      subst e
      clear hct hcs hq1
      go_wp2
      go_ret
      exact ⟨by simp, hbz⟩
end Go.Proofs.Ytbnhebmfgjdocaa
