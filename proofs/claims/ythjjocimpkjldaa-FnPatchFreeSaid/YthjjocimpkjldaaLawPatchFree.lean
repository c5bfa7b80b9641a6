/- The walk of the law FnPatchFree. -/
import Derived.Test.YthjjocimpkjldaaDrawPatch
import Derived.Test.YthjjocimpkjldaaFreeLaw
import Derived.Test.YthjjocimpkjldaaRepL
namespace Go.Proofs.Ythjjocimpkjldaa
open Go.RowKit

theorem Try.cutTailH (A : Option Addr) (n c i : Nat) (hij : i + 1 ≤ n) : ∃ A', A' = (if c = i + 1 then A else A.map fun a => a.add ((i + 1) * 3)) ∧
    (∀ W, (Instr.sliceAt 23 (.slice A n c) (some (.int .i64 ((i : Int) + 1))) none none).run Try.prog W = .ok (.slice A' (n - (i + 1)) (c - (i + 1))) W) ∧
    (∀ W, (Instr.slice 23 (.slice A n c) (some (.int .i64 ((i : Int) + 1))) none none).run Try.prog W = .ok (.slice A' (n - (i + 1)) (c - (i + 1))) W) := by
  have ht : Try.prog.underlying 23 = some (.slice (Try.prog.elem 23)) := by kernel_rfl
  obtain ⟨ii, hi0, hi1, hi2, hi3⟩ := info_parts Try.infoHunk
  have he : Try.prog.elem 23 = 42 := by kernel_rfl
  have h : ∀ W, (Instr.slice 23 (.slice A n c) (some (.int .i64 ((i + 1 : Nat) : Int))) none none).run Try.prog W = .ok (.slice (if c = i + 1 then A else A.map fun a => a.add ((i + 1) * 3)) (n - (i + 1)) (c - (i + 1))) W := by
    intro W
    rw [run_slice_l (h0 := by omega) (h1 := by omega) (ht := ht), he, sizeOf_runT hi0, hi2]
    simp [Result.andThen, sliced]
  exact ⟨_, rfl, fun W => by rw [run_sliceAt_slice (h := ht)]; exact h W, h⟩
theorem Try.cutHeadH (A : Option Addr) (n c i : Nat) (hij : i ≤ c) :
    (∀ W, (Instr.sliceAt 23 (.slice A n c) none (some (.int .i64 i)) none).run Try.prog W = .ok (.slice A i c) W) ∧
    (∀ W, (Instr.slice 23 (.slice A n c) none (some (.int .i64 i)) none).run Try.prog W = .ok (.slice A i c) W) := by
  have ht : Try.prog.underlying 23 = some (.slice (Try.prog.elem 23)) := by kernel_rfl
  obtain ⟨ii, hi0, hi1, hi2, hi3⟩ := info_parts Try.infoHunk
  have he : Try.prog.elem 23 = 42 := by kernel_rfl
  have e0 : (A.map fun a => a.add 0) = A := by cases A <;> simp [Addr.add]
  have h : ∀ W, (Instr.slice 23 (.slice A n c) none (some (.int .i64 i)) none).run Try.prog W = .ok (.slice A i c) W := by
    intro W
    rw [run_slice_h (h0 := by omega) (h2 := by omega) (ht := ht), he, sizeOf_runT hi0, hi2]
    simp [Result.andThen, sliced, e0]
  exact ⟨fun W => by rw [run_sliceAt_slice (h := ht)]; exact h W, h⟩
theorem RepL.take {w : World} {lo hi : Nat} {ps : List PV} {us : List Value} (h : RepL w lo hi ps us) (k : Nat) : RepL w lo hi (ps.take k) (us.take k) :=
  ⟨by simp [h.1], fun j p hj => by
    rw [List.getElem?_take] at hj ⊢
    split at hj
    · rename_i hlt; rw [if_pos hlt]; exact h.2 j p hj
    · cases hj⟩
theorem RepL.drop {w : World} {lo hi : Nat} {ps : List PV} {us : List Value} (h : RepL w lo hi ps us) (k : Nat) : RepL w lo hi (ps.drop k) (us.drop k) :=
  ⟨by simp [h.1], fun j p hj => by
    rw [List.getElem?_drop] at hj ⊢
    exact h.2 _ p hj⟩
theorem RepL.one {w : World} {lo hi : Nat} {ps : List PV} {us : List Value} (h : RepL w lo hi ps us) (hs : ∀ p ∈ ps, ∀ u, Rep w lo hi p u → u.oneCell' = true) : ∀ u ∈ us, u.oneCell' = true := fun u hu => by
  obtain ⟨j, hj⟩ := List.getElem?_of_mem hu
  have hlt := (List.getElem?_eq_some_iff.1 hj).1
  have hlt' : j < ps.length := by rw [← h.1]; exact hlt
  obtain ⟨u', hu', hr⟩ := h.2 j ps[j] (List.getElem?_eq_getElem hlt')
  rw [hj] at hu'
  cases hu'
  exact hs _ (List.getElem_mem hlt') _ hr
theorem hunk_one (d : List PHunk) : ∀ p ∈ d.flatMap cHunks, ∀ (w : World) (lo hi : Nat) (u : Value), Rep w lo hi p u → u.oneCell' = true := by
  intro p hp w lo hi u hr
  obtain ⟨x, _, hx⟩ := List.mem_flatMap.1 hp
  simp only [cHunks, List.mem_cons, List.not_mem_nil, or_false] at hx
  rcases hx with rfl | rfl | rfl
  · cases hr; rfl
  · cases hr; rfl
  · cases hr; rfl
theorem flat_take (d : List PHunk) (k : Nat) : (d.flatMap cHunks).take (k * 3) = (d.take k).flatMap cHunks := by
  induction d generalizing k with
  | nil => simp
  | cons x t ih =>
    cases k with
    | zero => simp
    | succ k =>
      rw [List.flatMap_cons, List.take_succ_cons, List.flatMap_cons, ← ih k, List.take_append, List.take_of_length_le (by rw [cHunks_len]; omega), cHunks_len, show (k + 1) * 3 - 3 = k * 3 by omega]
theorem flat_drop (d : List PHunk) (k : Nat) : (d.flatMap cHunks).drop (k * 3) = (d.drop k).flatMap cHunks := by
  induction d generalizing k with
  | nil => simp
  | cons x t ih =>
    cases k with
    | zero => simp
    | succ k =>
      rw [List.flatMap_cons, List.drop_succ_cons, ← ih k, List.drop_append, List.drop_of_length_le (by rw [cHunks_len]; omega), cHunks_len, show (k + 1) * 3 - 3 = k * 3 by omega, List.nil_append]

set_option maxRecDepth 100000 in
set_option maxHeartbeats 3200000 in
theorem law_PatchFree (A : Option Addr) (n c : Nat) (bs : List UInt8) (w : World) (h : Rep w 0 w.heap.size (encBytes bs) (.slice A n c)) :
    Calls Try.prog 3 #[.slice A n c] w fun e w' => e = .returned (.bool true) ∧ Below w.heap.size w w' := by
  have hl := Bytes.n h
  subst hl
  by_cases g : 1048576 < (bs.length : Int)
  · go_enter Try.func3, Try.ntmps3
    go_wp2
    go_ret
    exact ⟨rfl, Below.refl _ _⟩
  obtain ⟨ih, gi0, gi1, gi2, gi3⟩ := info_parts Try.infoHunk
  go_enter Try.func3, Try.ntmps3
  go_wp2_with fail
  refine Calls.mono (spec_DrawPatchFree_any A bs.length c bs w 0 w.heap.size h (Nat.le_refl _)) ?_
  rintro e w1 ⟨xs, ys, A1, A2, n1, c1, n2, c2, rfl, hb1, R1, R2, hs1, hs2⟩
  have hw1 := hb1.size
  have hl1 := Hunks.n R1
  have hl2 := Hunks.n R2
  obtain ⟨hc1, hm1⟩ := Hunks.cap R1
  subst hl1 hl2
  go_wp2_with fail
  refine Calls.mono (impl_PatchFree_any _ _ _ _ _ _ xs ys w1 _ _ _ _ R1 R2 (Nat.le_refl _) (Nat.le_refl _)) ?_
  rintro e w2 ⟨rfl, hb2⟩
  have hw2 := hb2.size
  replace R1 := R1.keep hb2 (Nat.le_refl _)
  replace R2 := R2.keep hb2 (Nat.le_refl _)
  go_wp2_with fail
  refine Calls.mono (spec_PatchFree_any _ _ _ _ _ _ xs ys w2 _ _ _ _ R1 R2 hw2 hw2 (smallHunks_ok hs1) (smallHunks_ok hs2)) ?_
  rintro e w3 ⟨rfl, hb3⟩
  have hw3 := hb3.size
  replace R1 := R1.keep hb3 hw2
  replace R2 := R2.keep hb3 hw2
  have hbw : Below w.heap.size w w3 := (hb1.trans (hb2.mono hw1)).trans (hb3.mono (Nat.le_trans hw1 hw2))
  have hz : w1.heap.size ≤ w3.heap.size := Nat.le_trans hw2 hw3
  obtain ⟨fr, hfr⟩ : ∃ fr, fr = patchFree xs ys := ⟨_, rfl⟩
  rw [← hfr]
  have hoo : (!(fr == fr)) = false := by simp
  have hoe : (fr == fr) = true := by simp
  have Hfr := Lib.hid hfr
  clear hb1 hb2 hb3 hfr
  go_wp2_with fail
  refine Calls.mono (impl_PatchOk_any _ _ _ xs w3 _ _ R1 hz) ?_
  rintro e w4 ⟨rfl, hb4⟩
  have hw4 := hb4.size
  replace R1 := R1.keep hb4 hz
  replace R2 := R2.keep hb4 hz
  replace hbw := hbw.trans (hb4.mono hbw.size)
  replace hz := Nat.le_trans hz hw4
  cases t1 : patchOk xs
  · go_wp2_with fail
    refine Calls.mono (spec_PatchFree_any _ _ _ _ _ _ xs ys w4 _ _ _ _ R1 R2 hz hz (smallHunks_ok hs1) (smallHunks_ok hs2)) ?_
    rintro e w9 ⟨rfl, hb9⟩
    rw [← Hfr.out]
    go_wp2
    go_ret
    exact ⟨by simp, hbw.trans (hb9.mono hbw.size)⟩
  go_wp2_with fail
  refine Calls.mono (impl_PatchOk_any _ _ _ ys w4 _ _ R2 hz) ?_
  rintro e w5 ⟨rfl, hb5⟩
  have hw5 := hb5.size
  replace R1 := R1.keep hb5 hz
  replace R2 := R2.keep hb5 hz
  replace hbw := hbw.trans (hb5.mono hbw.size)
  replace hz := Nat.le_trans hz hw5
  cases t2 : patchOk ys
  · go_wp2_with fail
    refine Calls.mono (spec_PatchFree_any _ _ _ _ _ _ xs ys w5 _ _ _ _ R1 R2 hz hz (smallHunks_ok hs1) (smallHunks_ok hs2)) ?_
    rintro e w9 ⟨rfl, hb9⟩
    rw [← Hfr.out]
    go_wp2
    go_ret
    exact ⟨by simp, hbw.trans (hb9.mono hbw.size)⟩
  have T1 := Lib.hid t1
  have T2 := Lib.hid t2
  have hxl := patchOk_len t1
  clear t1 t2 hb4 hb5
  obtain ⟨wz, rfl⟩ : ∃ wz : World, wz = w5 := ⟨_, rfl⟩
  go_wp2
  go_loopw [6] (fun i wr => ∃ k : Nat, k ≤ xs.length ∧ i = .int .i64 k ∧ Below wz.heap.size wz wr) (fun i _ => xs.length - (intOf i).toNat)
  case atStart => exact ⟨0, Nat.zero_le _, rfl, Below.refl _ _⟩
  case round =>
    obtain ⟨k, hk, rfl, hb⟩ := hrel
    obtain ⟨wo, rfl⟩ : ∃ wo : World, wo = wr := ⟨_, rfl⟩
    have hsz := hb.size
    replace R1 := R1.keep hb hz
    replace R2 := R2.keep hb hz
    replace hz := Nat.le_trans hz hsz
    replace hbw := hbw.trans (hb.mono hbw.size)
    have Hb := Lib.hid hb
    clear hb
    by_cases hkn : k < xs.length
    · have hkn' : (k : Int) < (xs.length : Int) := by omega
      cases fr
      · go_wp2_with fail
        refine Calls.mono (impl_PatchFree_any _ _ _ _ _ _ ys xs wo _ _ _ _ R2 R1 hz hz) ?_
        rintro e w6 ⟨rfl, hb6⟩
        have hs6 := hb6.size
        rw [patchFree_symm T1.out T2.out, ← Hfr.out]
        go_wp2_with fail
        refine Calls.mono (impl_PatchFree_any _ _ _ _ _ _ xs [] w6 _ _ 0 0 (R1.keep hb6 hz) (Rep.of_nil _ _ _ _ _) (Nat.le_trans hz hs6) (Nat.zero_le _)) ?_
        rintro e w7 ⟨rfl, hb7⟩
        have hs7 := hb7.size
        rw [patchFree_nil T1.out]
        replace hbw := (hbw.trans (hb6.mono hbw.size)).trans (hb7.mono (Nat.le_trans hbw.size hs6))
        by_cases hx0 : xs.length = 0
        · have Hx0 := Lib.hid hx0
          have hx1 : ((xs.length : Int) == 0) = true := by simp [hx0]
          clear hx0
          go_wp2
          go_ret
          exact ⟨by simp, hbw⟩
        · have hx1 : ((xs.length : Int) == 0) = false := by rw [beq_eq_false_iff_ne]; omega
          have hxn : xs ≠ [] := fun e => hx0 (by rw [e]; rfl)
          have Hxn := Lib.hid hxn
          replace R1 := (R1.keep hb6 hz).keep hb7 (Nat.le_trans hz hs6)
          replace hz := Nat.le_trans (Nat.le_trans hz hs6) hs7
          clear hx0 hxn
          go_wp2_with fail
          refine Calls.mono (impl_PatchFree_any _ _ _ _ _ _ xs xs w7 _ _ _ _ R1 R1 hz hz) ?_
          rintro e w8 ⟨rfl, hb8⟩
          rw [patchFree_self Hxn.out]
          go_wp2
          go_ret
          exact ⟨by simp, hbw.trans (hb8.mono hbw.size)⟩
      · obtain ⟨hq3, hq3'⟩ := Try.cutHeadH A1 xs.length c1 k (by omega)
        obtain ⟨C4, eC4, hq4, hq4'⟩ := Try.cutTailH A1 xs.length c1 k (by omega)
        have hwp : IntKind.i64.wrap ((k : Int) + 1) = (k : Int) + 1 := by rw [IntKind.wrap_i64]; omega
        have hp0 : (0 : Int) ≤ (k : Int) := by omega
        have HeC := Lib.hid eC4
        have hB1 : Below wo.heap.size wo (wo.alloc (.cells #[] 42)).drew := ((Below.refl _ _).alloc (Nat.le_refl _) _).drew
        obtain ⟨us, hS, hL⟩ := (R1.keep hB1 hz).cells_
        have hone := hL.one (fun p hp u => hunk_one xs p hp _ _ _ u)
        have Hone := Lib.hid hone
        clear eC4 hone
        go_wp2
        go_region_held3 (fun _ => True) (trivial) (first
          | (
            refine step_append_src _ (by rfl) (.tmp 47) (.tmp 50) _ (by rfl) wo.heap.size 42 ih _ 3 56 Try.underlying23 gi0 gi1 gi2 gi3 (by rfl) (by omega) _ 0 [] (by rfl) (show (wo.alloc (.cells #[] 42)).drew.ownsRow wo.heap.size 42 3 (.slice (some ⟨wo.heap.size, 0, none⟩) 0 0) 0 [] from World.ownsRow_made wo #[] 0 (Nat.le_refl _) (Nat.zero_le _) rfl) A1 k c1 _ (by rfl) (show Src (wo.alloc (.cells #[] 42)).drew 3 A1 k _ from hS.take (Nat.le_of_lt hkn)) (fun u hu => Hone.out u (List.mem_of_mem_take hu)) (by unfold maxLen; omega) (by omega) (by simp) ?_
            intro A5 c5 w5 hown5 hg5 hat5
            rw [Nat.zero_add] at hown5 hat5
            change World.grownBy _ w5 (Value.slice (some ⟨wo.heap.size, 0, none⟩) 0 0).ownBlock at hg5
            have hB5 : Below wo.heap.size wo w5 := Below.grown hB1 hg5 (by simp) (fun g hg => by simp [Value.ownBlock] at hg; omega)
            have hs5 := hB5.size
            have hL5 := hL.keep (Below.grown (Below.refl wo.heap.size _) hg5 (by simp) (fun g hg => by simp [Value.ownBlock] at hg; omega)) hz
            obtain ⟨us2, hS2, hL2⟩ := (R1.keep hB5 hz).cells_
            have Hone2 := Lib.hid (hL2.one (fun p hp u => hunk_one xs p hp _ _ _ u))
            have hS6 := hS2.cut (k := k + 1) (by omega) hc1
            rw [← HeC.out] at hS6)
          | (
            refine step_append_src _ (by rfl) (.tmp 51) (.tmp 55) _ (by rfl) wo.heap.size 42 ih _ 3 56 Try.underlying23 gi0 gi1 gi2 gi3 (by rfl) (by omega) _ k _ (by first | rfl | (simp [Act.eval]; done)) hown5 C4 (xs.length - (k + 1)) (c1 - (k + 1)) _ (by rfl) hS6 (fun u hu => Hone2.out u (List.mem_of_mem_drop hu)) (by unfold maxLen; omega) (by omega) hs5 ?_
            intro A7 c7 w7 hown7 hg7 hat7
            change World.grownBy _ w7 (Value.slice A5 k c5).ownBlock at hg7
            have hB7 : Below wo.heap.size wo w7 := hB5.grown hg7 hs5 (fun g hg => (hown5.lt g hg).1))
          | (go_at_call 9
             have hB57 := Below.grown (Below.refl wo.heap.size _) hg7 hs5 (fun g hg => (hown5.lt g hg).1)
             have hs7 := hB7.size
             have hRL := RepL.append ((hL5.keep hB57 hz).take (k * 3)) ((hL2.keep hB57 hz).drop ((k + 1) * 3))
             rw [flat_take, flat_drop, ← List.flatMap_append] at hRL
             have hRR := RepL.row hown7 (hRL.mono (lo' := w.heap.size) (hi' := w7.heap.size) (Nat.le_refl _) (Nat.le_trans hz hs7)) hbw.size (Nat.le_refl _)
             refine (impl_PatchFree_any _ _ _ _ _ _ (xs.take k ++ xs.drop (k + 1)) ys w7 _ _ _ _ hRR ((R2.keep hB7 hz)) (Nat.le_refl _) (Nat.le_trans hz hs7)).mono ?_
             rintro e w8 ⟨rfl, hb8⟩
             rw [patchFree_sub k Hfr.out.symm]))
        clear hown5 hown7 hg5 hg7 hat5 hat7 hS2 hL2 hS6 hS hL hL5
        go_wp2
        go_roundw
        case rel => exact ⟨k + 1, by omega, by go_num, Hb.out.trans ((hB7.trans (hb8.mono hB7.size)).mono hsz)⟩
        case measure => simp [intOf]; omega
    · have hkn' : ¬ (k : Int) < (xs.length : Int) := by omega
      go_wp2_with fail
      refine Calls.mono (impl_PatchFree_any _ _ _ _ _ _ ys xs wo _ _ _ _ R2 R1 hz hz) ?_
      rintro e w6 ⟨rfl, hb6⟩
      have hs6 := hb6.size
      rw [patchFree_symm T1.out T2.out, ← Hfr.out]
      go_wp2_with fail
      refine Calls.mono (impl_PatchFree_any _ _ _ _ _ _ xs [] w6 _ _ 0 0 (R1.keep hb6 hz) (Rep.of_nil _ _ _ _ _) (Nat.le_trans hz hs6) (Nat.zero_le _)) ?_
      rintro e w7 ⟨rfl, hb7⟩
      have hs7 := hb7.size
      rw [patchFree_nil T1.out]
      replace hbw := (hbw.trans (hb6.mono hbw.size)).trans (hb7.mono (Nat.le_trans hbw.size hs6))
      by_cases hx0 : xs.length = 0
      · have Hx0 := Lib.hid hx0
        have hx1 : ((xs.length : Int) == 0) = true := by simp [hx0]
        clear hx0
        go_wp2
        go_ret
        exact ⟨by simp, hbw⟩
      · have hx1 : ((xs.length : Int) == 0) = false := by rw [beq_eq_false_iff_ne]; omega
        have hxn : xs ≠ [] := fun e => hx0 (by rw [e]; rfl)
        have Hxn := Lib.hid hxn
        replace R1 := (R1.keep hb6 hz).keep hb7 (Nat.le_trans hz hs6)
        replace hz := Nat.le_trans (Nat.le_trans hz hs6) hs7
        clear hx0 hxn
        go_wp2_with fail
        refine Calls.mono (impl_PatchFree_any _ _ _ _ _ _ xs xs w7 _ _ _ _ R1 R1 hz hz) ?_
        rintro e w8 ⟨rfl, hb8⟩
        rw [patchFree_self Hxn.out]
        go_wp2
        go_ret
        exact ⟨by simp, hbw.trans (hb8.mono hbw.size)⟩
end Go.Proofs.Ythjjocimpkjldaa
