import Derived.Test.YtenkceeicmfjhaaGreatDoorUnite
import Derived.Test.YtenkceeicmfjhaaGreatDoorSpecUnite
import Derived.Test.YtenkceeicmfjhaaGreatDoorUnitePlain
import Derived.Test.YtenkceeicmfjhaaGreatDoorZ26
import Derived.Test.YtenkceeicmfjhaaGreatDoorZ20
import Derived.Deep.RegionHeld3
/- The walk of the law FnExactUniteTree. Printed by wip/genwalk.py. -/
namespace Go.Proofs.YtenkceeicmfjhaaGreatDoor
open Go.RowKit
set_option maxRecDepth 100000 in
set_option maxHeartbeats 2000000 in
theorem law_XUniteTree (p0 : PRepo) (A00 : Option Addr) (n00 c00 : Nat) (A01 : Option Addr) (n01 c01 : Nat) (m1 : Int) (m2 : Int) (w : World) (h00 : Rep w 0 w.heap.size (encCommits p0.commits) (.slice A00 n00 c00)) (h01 : Rep w 0 w.heap.size (encHeads p0.heads) (.slice A01 n01 c01)) (ok0 : okRepo p0) (_ok1 : -9223372036854775808 ≤ m1 ∧ m1 ≤ 9223372036854775807) (_ok2 : -9223372036854775808 ≤ m2 ∧ m2 ≤ 9223372036854775807) :
    Calls Tryz.prog 3 #[.agg #[.slice A00 n00 c00, .slice A01 n01 c01], .int .i64 m1, .int .i64 m2] w fun e w' => e = .returned (.bool true) ∧ Below w.heap.size w w' := by
  go_enter Tryz.func3, Tryz.ntmps3
  have hbx1 := fun o => (Below.refl w.heap.size w).alloc (Nat.le_refl _) o
  go_wp2_with fail
  refine Calls.mono (szRepo_any p0 _ _ _ _ _ _ _ 0 w.heap.size _ (h00.keep (hbx1 _) (by first | omega | (simp; done) | (simp; omega))) (h01.keep (hbx1 _) (by first | omega | (simp; done) | (simp; omega))) (by first | omega | (simp; done) | (simp; omega)) ok0 (by omega) (by omega)) ?_
  rintro e w1 ⟨⟨r1', rfl, rl1, ru1, rz1⟩, hbb1⟩
  have hb1 : Below w.heap.size w w1 := (hbx1 _).trans (hbb1.mono (by simp))
  have kx1_0_1 : w1.cell? ⟨w.heap.size, 0, none⟩ = some (.slice A00 n00 c00) := by rw [hbb1.cell (by simp)]; go_simp
  have kx1_1_1 : w1.cell? ⟨w.heap.size, 1, none⟩ = some (.slice A01 n01 c01) := by rw [hbb1.cell (by simp)]; go_simp
  have szb1 : w.heap.size < w1.heap.size := by have := hbb1.size; simp at this; omega
  clear hbb1 hbx1
  have sz1 := hb1.size
  by_cases g1 : r1' < 0
  · go_wp2
    go_ret
    exact ⟨rfl, hb1⟩
  ·
    have hz_aR : szRepo p0 ≤ 1048576 := by have := rz1 (by omega); omega
    have hz_aR_0 : szCommits p0.commits ≤ 1048576 := by have h9 := hz_aR; unfold szRepo at h9; omega
    have hz_aR_1 : szHeads p0.heads ≤ 1048576 := by have h9 := hz_aR; unfold szRepo at h9; omega
    have hcnt_aR := cntRepo_le p0
    clear rz1
    go_wp2_with fail
    refine Calls.mono (toRepo_any p0 _ _ _ _ _ _ _ 0 w.heap.size (h00.keep hb1 (Nat.le_refl _)) (h01.keep hb1 (Nat.le_refl _)) (by first | omega | (simp; done) | (simp; omega)) hz_aR_0 hz_aR_1) ?_
    rintro e w2 ⟨Af10, nf10, cf10, Af11, nf11, cf11, rfl, hb2, hf1⟩
    have kx1_0_2 : w2.cell? ⟨w.heap.size, 0, none⟩ = some (.slice A00 n00 c00) := (hb2.cell (p := ⟨w.heap.size, 0, none⟩) (by first | omega | (simp; done) | (simp; omega))).trans kx1_0_1
    have kx1_1_2 : w2.cell? ⟨w.heap.size, 1, none⟩ = some (.slice A01 n01 c01) := (hb2.cell (p := ⟨w.heap.size, 1, none⟩) (by first | omega | (simp; done) | (simp; omega))).trans kx1_1_1
    clear kx1_0_1 kx1_1_1
    have sz2 := hb2.size
    go_wp2_with fail
    refine Calls.mono (spec_UniteTree_any _ _ p0 _ _ _ _ _ _ _ _ _ (FreshL.reps2 hf1).1 (FreshL.reps2 hf1).2 (by first | omega | (simp; done) | (simp; omega)) (okRepoS_of ok0 hz_aR)) ?_
    rintro e w3 ⟨Af2, nf2, cf2, rfl, hb3, hf2⟩
    have kx1_0_3 : w3.cell? ⟨w.heap.size, 0, none⟩ = some (.slice A00 n00 c00) := (hb3.cell (p := ⟨w.heap.size, 0, none⟩) (by first | omega | (simp; done) | (simp; omega))).trans kx1_0_2
    have kx1_1_3 : w3.cell? ⟨w.heap.size, 1, none⟩ = some (.slice A01 n01 c01) := (hb3.cell (p := ⟨w.heap.size, 1, none⟩) (by first | omega | (simp; done) | (simp; omega))).trans kx1_1_2
    clear kx1_0_2 kx1_1_2
    have sz3 := hb3.size
    go_wp2_with fail
    refine Calls.mono (toRepo_any p0 _ _ _ _ _ _ _ 0 w.heap.size (h00.keep ((hb1.trans (hb2.mono (by first | omega | (simp; done) | (simp; omega)))).trans (hb3.mono (by first | omega | (simp; done) | (simp; omega)))) (Nat.le_refl _)) (h01.keep ((hb1.trans (hb2.mono (by first | omega | (simp; done) | (simp; omega)))).trans (hb3.mono (by first | omega | (simp; done) | (simp; omega)))) (Nat.le_refl _)) (by first | omega | (simp; done) | (simp; omega)) hz_aR_0 hz_aR_1) ?_
    rintro e w4 ⟨Af30, nf30, cf30, Af31, nf31, cf31, rfl, hb4, hf3⟩
    have kx1_0_4 : w4.cell? ⟨w.heap.size, 0, none⟩ = some (.slice A00 n00 c00) := (hb4.cell (p := ⟨w.heap.size, 0, none⟩) (by first | omega | (simp; done) | (simp; omega))).trans kx1_0_3
    have kx1_1_4 : w4.cell? ⟨w.heap.size, 1, none⟩ = some (.slice A01 n01 c01) := (hb4.cell (p := ⟨w.heap.size, 1, none⟩) (by first | omega | (simp; done) | (simp; omega))).trans kx1_1_3
    clear kx1_0_3 kx1_1_3
    have sz4 := hb4.size
    have hbx2 := fun o => (Below.refl w4.heap.size w4).alloc (Nat.le_refl _) o
    go_wp2_with fail
    refine Calls.mono (impl_UniteTree_any _ _ p0 _ _ _ _ _ _ _ _ _ ((FreshL.reps2 hf3).1.keep (hbx2 _) (by first | omega | (simp; done) | (simp; omega))) ((FreshL.reps2 hf3).2.keep (hbx2 _) (by first | omega | (simp; done) | (simp; omega))) (by first | omega | (simp; done) | (simp; omega)) (okRepoS_of ok0 hz_aR)) ?_
    rintro e w5 ⟨Af4, nf4, cf4, rfl, hbb5, hf4⟩
    have hb5 : Below w4.heap.size w4 w5 := (hbx2 _).trans (hbb5.mono (by simp))
    replace hf4 := Fresh.mono (lo' := w4.heap.size) hf4 (by simp) (Nat.le_refl _)
    have kx1_0_5 : w5.cell? ⟨w.heap.size, 0, none⟩ = some (.slice A00 n00 c00) := (hb5.cell (p := ⟨w.heap.size, 0, none⟩) (by first | omega | (simp; done) | (simp; omega))).trans kx1_0_4
    have kx1_1_5 : w5.cell? ⟨w.heap.size, 1, none⟩ = some (.slice A01 n01 c01) := (hb5.cell (p := ⟨w.heap.size, 1, none⟩) (by first | omega | (simp; done) | (simp; omega))).trans kx1_1_4
    clear kx1_0_4 kx1_1_4
    have kx2_0_5 : w5.cell? ⟨w4.heap.size, 0, none⟩ = some (.slice Af30 nf30 cf30) := by rw [hbb5.cell (by simp)]; go_simp
    have kx2_1_5 : w5.cell? ⟨w4.heap.size, 1, none⟩ = some (.slice Af31 nf31 cf31) := by rw [hbb5.cell (by simp)]; go_simp
    have szb5 : w4.heap.size < w5.heap.size := by have := hbb5.size; simp at this; omega
    clear hbb5 hbx2
    have sz5 := hb5.size
    have bnd := bnd_UniteTree p0 m1 m2
    go_wp2_with fail
    refine Calls.mono (eqFileS_any _ _ _ _ _ _ _ _ _ _ _ _ _ (Fresh.rep hf4) ((Fresh.rep hf2).keep (hb4.trans (hb5.mono (by first | omega | (simp; done) | (simp; omega)))) (Nat.le_refl _)) (by first | omega | (simp; done) | (simp; omega)) (by first | omega | (simp; done) | (simp; omega))) ?_
    rintro e w6 ⟨rfl, hb6⟩
    have kx1_0_6 : w6.cell? ⟨w.heap.size, 0, none⟩ = some (.slice A00 n00 c00) := (hb6.cell (p := ⟨w.heap.size, 0, none⟩) (by first | omega | (simp; done) | (simp; omega))).trans kx1_0_5
    have kx1_1_6 : w6.cell? ⟨w.heap.size, 1, none⟩ = some (.slice A01 n01 c01) := (hb6.cell (p := ⟨w.heap.size, 1, none⟩) (by first | omega | (simp; done) | (simp; omega))).trans kx1_1_5
    have kx2_0_6 : w6.cell? ⟨w4.heap.size, 0, none⟩ = some (.slice Af30 nf30 cf30) := (hb6.cell (p := ⟨w4.heap.size, 0, none⟩) (by first | omega | (simp; done) | (simp; omega))).trans kx2_0_5
    have kx2_1_6 : w6.cell? ⟨w4.heap.size, 1, none⟩ = some (.slice Af31 nf31 cf31) := (hb6.cell (p := ⟨w4.heap.size, 1, none⟩) (by first | omega | (simp; done) | (simp; omega))).trans kx2_1_5
    clear kx1_0_5 kx1_1_5 kx2_0_5 kx2_1_5
    have sz6 := hb6.size
    go_wp2
    go_region_held3 (fun w' => w'.cell? ⟨w.heap.size, 0, none⟩ = some (.slice A00 n00 c00) ∧ w'.cell? ⟨w.heap.size, 1, none⟩ = some (.slice A01 n01 c01) ∧ w'.cell? ⟨w4.heap.size, 0, none⟩ = some (.slice Af30 nf30 cf30) ∧ w'.cell? ⟨w4.heap.size, 1, none⟩ = some (.slice Af31 nf31 cf31)) (first | trivial | exact ⟨cx0, cx1, cx2, cx3⟩ | exact ⟨cw0, cw1, cw2, cw3⟩ | go_keep) (first
      | (go_at_call 6; refine (toRepo_any p0 _ _ _ _ _ _ _ 0 w.heap.size (show Rep w6.drew _ _ _ (.slice A00 n00 c00) from ((h00.keep (((((hb1.trans (hb2.mono (by first | omega | (simp; done) | (simp; omega)))).trans (hb3.mono (by first | omega | (simp; done) | (simp; omega)))).trans (hb4.mono (by first | omega | (simp; done) | (simp; omega)))).trans (hb5.mono (by first | omega | (simp; done) | (simp; omega)))).trans (hb6.mono (by first | omega | (simp; done) | (simp; omega)))) (Nat.le_refl _))).drewN 1) (show Rep w6.drew _ _ _ (.slice A01 n01 c01) from ((h01.keep (((((hb1.trans (hb2.mono (by first | omega | (simp; done) | (simp; omega)))).trans (hb3.mono (by first | omega | (simp; done) | (simp; omega)))).trans (hb4.mono (by first | omega | (simp; done) | (simp; omega)))).trans (hb5.mono (by first | omega | (simp; done) | (simp; omega)))).trans (hb6.mono (by first | omega | (simp; done) | (simp; omega)))) (Nat.le_refl _))).drewN 1) (show _ ≤ w6.heap.size by omega) hz_aR_0 hz_aR_1).mono ?_
         rintro e w7 ⟨Af50, nf50, cf50, Af51, nf51, cf51, rfl, hbA, hfA⟩
         have cw0 : w7.cell? ⟨w.heap.size, 0, none⟩ = some (.slice A00 n00 c00) := (hbA.cell (p := ⟨w.heap.size, 0, none⟩) (show w.heap.size < w6.heap.size by omega)).trans kx1_0_6
         have cw1 : w7.cell? ⟨w.heap.size, 1, none⟩ = some (.slice A01 n01 c01) := (hbA.cell (p := ⟨w.heap.size, 1, none⟩) (show w.heap.size < w6.heap.size by omega)).trans kx1_1_6
         have cw2 : w7.cell? ⟨w4.heap.size, 0, none⟩ = some (.slice Af30 nf30 cf30) := (hbA.cell (p := ⟨w4.heap.size, 0, none⟩) (show w4.heap.size < w6.heap.size by omega)).trans kx2_0_6
         have cw3 : w7.cell? ⟨w4.heap.size, 1, none⟩ = some (.slice Af31 nf31 cf31) := (hbA.cell (p := ⟨w4.heap.size, 1, none⟩) (show w4.heap.size < w6.heap.size by omega)).trans kx2_1_6)
      | (go_at_call 9; refine (eqRepo_any p0 p0 _ _ _ _ _ _ _ _ _ _ _ _ _ _ _ _ _ ((show Rep w6.drew _ _ _ (.slice Af30 nf30 cf30) from (((FreshL.reps2 hf3).1.keep (hb5.trans (hb6.mono (by first | omega | (simp; done) | (simp; omega)))) (Nat.le_refl _))).drewN 1).keep hbA (show _ ≤ w6.heap.size by omega)) ((show Rep w6.drew _ _ _ (.slice Af31 nf31 cf31) from (((FreshL.reps2 hf3).2.keep (hb5.trans (hb6.mono (by first | omega | (simp; done) | (simp; omega)))) (Nat.le_refl _))).drewN 1).keep hbA (show _ ≤ w6.heap.size by omega)) (FreshL.reps2 hfA).1 (FreshL.reps2 hfA).2 (Nat.le_trans (show _ ≤ w6.heap.size by omega) hbA.size) (Nat.le_refl _)).mono ?_
         rintro e w8 ⟨rfl, hbB⟩
         have cx0 : w8.cell? ⟨w.heap.size, 0, none⟩ = some (.slice A00 n00 c00) := (hbB.cell (p := ⟨w.heap.size, 0, none⟩) (Nat.lt_of_lt_of_le (show w.heap.size < w6.heap.size by omega) hbA.size)).trans cw0
         have cx1 : w8.cell? ⟨w.heap.size, 1, none⟩ = some (.slice A01 n01 c01) := (hbB.cell (p := ⟨w.heap.size, 1, none⟩) (Nat.lt_of_lt_of_le (show w.heap.size < w6.heap.size by omega) hbA.size)).trans cw1
         have cx2 : w8.cell? ⟨w4.heap.size, 0, none⟩ = some (.slice Af30 nf30 cf30) := (hbB.cell (p := ⟨w4.heap.size, 0, none⟩) (Nat.lt_of_lt_of_le (show w4.heap.size < w6.heap.size by omega) hbA.size)).trans cw2
         have cx3 : w8.cell? ⟨w4.heap.size, 1, none⟩ = some (.slice Af31 nf31 cf31) := (hbB.cell (p := ⟨w4.heap.size, 1, none⟩) (Nat.lt_of_lt_of_le (show w4.heap.size < w6.heap.size by omega) hbA.size)).trans cw3))
    have hb7 : Below w6.heap.size w6 w7 := ⟨hbA.os, hbA.tape, hbA.output, hbA.size, hbA.block⟩
    have sz7 := hb7.size
    have hb8 := hbB
    have sz8 := hb8.size
    have kx1_0_8 := cx0
    have kx1_1_8 := cx1
    have kx2_0_8 := cx2
    have kx2_1_8 := cx3
    clear hbA hbB hfA kx1_0_6 cx0 cw0 kx1_1_6 cx1 cw1 kx2_0_6 cx2 cw2 kx2_1_6 cx3 cw3
    have hf6 := FreshL.same hf3 (.of_below (((hb5.trans (hb6.mono (by first | omega | (simp; done) | (simp; omega)))).trans (hb7.mono (by first | omega | (simp; done) | (simp; omega)))).trans (hb8.mono (by first | omega | (simp; done) | (simp; omega)))) (Nat.le_refl _))
    have hf7 := Fresh.keep hf4 ((hb6.trans (hb7.mono (by first | omega | (simp; done) | (simp; omega)))).trans (hb8.mono (by first | omega | (simp; done) | (simp; omega)))) (Nat.le_refl _)
    have hf8 := Fresh.keep hf2 ((((hb4.trans (hb5.mono (by first | omega | (simp; done) | (simp; omega)))).trans (hb6.mono (by first | omega | (simp; done) | (simp; omega)))).trans (hb7.mono (by first | omega | (simp; done) | (simp; omega)))).trans (hb8.mono (by first | omega | (simp; done) | (simp; omega)))) (Nat.le_refl _)
    obtain ⟨FF1, fo1, fn1, fb1⟩ := hf6
    go_wp2_with fail
    refine Calls.mono (markRepo_any p0 _ _ _ _ _ _ _ _ _ fo1 fn1 (by omega) (by omega)) ?_
    rintro e w9 ⟨rfl, fp1, hon1⟩
    have hb9 : Below w3.heap.size w8 w9 := hon1.below (fun z hz => (fb1 z hz).1) (by first | omega | (simp; done) | (simp; omega))
    have hf9 := (⟨FF1, fp1, fn1, fb1⟩ : FreshL w9 (w3.heap.size) (w4.heap.size) _ _)
    have hf10 := Fresh.same hf7 (hon1.same (fun z hz => by have := fb1 z hz; omega) (by first | omega | (simp; done) | (simp; omega)))
    have hf11 := Fresh.same hf8 (hon1.same (fun z hz => by have := fb1 z hz; omega) (by first | omega | (simp; done) | (simp; omega)))
    have kx1_0_9 : w9.cell? ⟨w.heap.size, 0, none⟩ = some (.slice A00 n00 c00) := (hb9.cell (p := ⟨w.heap.size, 0, none⟩) (by first | omega | (simp; done) | (simp; omega))).trans kx1_0_8
    have kx1_1_9 : w9.cell? ⟨w.heap.size, 1, none⟩ = some (.slice A01 n01 c01) := (hb9.cell (p := ⟨w.heap.size, 1, none⟩) (by first | omega | (simp; done) | (simp; omega))).trans kx1_1_8
    clear kx1_0_8 kx1_1_8 kx2_0_8 kx2_1_8
    have sz9 := hb9.size
    clear hon1 fo1 fp1 fn1 fb1
    go_wp2_with fail
    refine Calls.mono (eqFileS_any _ _ _ _ _ _ _ _ _ _ _ _ _ (Fresh.rep hf10) (Fresh.rep hf11) (by first | omega | (simp; done) | (simp; omega)) (by first | omega | (simp; done) | (simp; omega))) ?_
    rintro e w10 ⟨rfl, hb10⟩
    have kx1_0_10 : w10.cell? ⟨w.heap.size, 0, none⟩ = some (.slice A00 n00 c00) := (hb10.cell (p := ⟨w.heap.size, 0, none⟩) (by first | omega | (simp; done) | (simp; omega))).trans kx1_0_9
    have kx1_1_10 : w10.cell? ⟨w.heap.size, 1, none⟩ = some (.slice A01 n01 c01) := (hb10.cell (p := ⟨w.heap.size, 1, none⟩) (by first | omega | (simp; done) | (simp; omega))).trans kx1_1_9
    clear kx1_0_9 kx1_1_9
    have sz10 := hb10.size
    have hf12 := FreshL.same hf9 (.of_below hb10 (by first | omega | (simp; done) | (simp; omega)))
    have hf13 := Fresh.keep hf10 hb10 (by first | omega | (simp; done) | (simp; omega))
    have hf14 := Fresh.keep hf11 hb10 (by first | omega | (simp; done) | (simp; omega))
    obtain ⟨FF2, fo2, fn2, fb2⟩ := hf13
    go_wp2_with fail
    refine Calls.mono (markFileS_any _ _ _ _ _ _ _ fo2 fn2 (by omega) (by omega)) ?_
    rintro e w11 ⟨rfl, fp2, hon2⟩
    have hb11 : Below w4.heap.size w10 w11 := hon2.below (fun z hz => (fb2 z hz).1) (by first | omega | (simp; done) | (simp; omega))
    have hf15 := FreshL.same hf12 (hon2.same (fun z hz => by have := fb2 z hz; omega) (by first | omega | (simp; done) | (simp; omega)))
    have hf16 := (⟨FF2, fp2, fn2, fb2⟩ : Fresh w11 (w4.heap.size) (w5.heap.size) _ _)
    have hf17 := Fresh.same hf14 (hon2.same (fun z hz => by have := fb2 z hz; omega) (by first | omega | (simp; done) | (simp; omega)))
    have kx1_0_11 : w11.cell? ⟨w.heap.size, 0, none⟩ = some (.slice A00 n00 c00) := (hb11.cell (p := ⟨w.heap.size, 0, none⟩) (by first | omega | (simp; done) | (simp; omega))).trans kx1_0_10
    have kx1_1_11 : w11.cell? ⟨w.heap.size, 1, none⟩ = some (.slice A01 n01 c01) := (hb11.cell (p := ⟨w.heap.size, 1, none⟩) (by first | omega | (simp; done) | (simp; omega))).trans kx1_1_10
    clear kx1_0_10 kx1_1_10
    have sz11 := hb11.size
    clear hon2 fo2 fp2 fn2 fb2
    go_wp2_with fail
    refine Calls.mono (heldFileS_any _ _ _ _ _ _ _ _ (Fresh.rep hf16) (by first | omega | (simp; done) | (simp; omega)) (by omega) (by omega)) ?_
    rintro e w12 ⟨rfl, hb12⟩
    have kx1_0_12 : w12.cell? ⟨w.heap.size, 0, none⟩ = some (.slice A00 n00 c00) := (hb12.cell (p := ⟨w.heap.size, 0, none⟩) (by first | omega | (simp; done) | (simp; omega))).trans kx1_0_11
    have kx1_1_12 : w12.cell? ⟨w.heap.size, 1, none⟩ = some (.slice A01 n01 c01) := (hb12.cell (p := ⟨w.heap.size, 1, none⟩) (by first | omega | (simp; done) | (simp; omega))).trans kx1_1_11
    clear kx1_0_11 kx1_1_11
    have sz12 := hb12.size
    go_wp2_with fail
    refine Calls.mono (toRepo_any p0 _ _ _ _ _ _ _ 0 w.heap.size (h00.keep (((((((((((hb1.trans (hb2.mono (by first | omega | (simp; done) | (simp; omega)))).trans (hb3.mono (by first | omega | (simp; done) | (simp; omega)))).trans (hb4.mono (by first | omega | (simp; done) | (simp; omega)))).trans (hb5.mono (by first | omega | (simp; done) | (simp; omega)))).trans (hb6.mono (by first | omega | (simp; done) | (simp; omega)))).trans (hb7.mono (by first | omega | (simp; done) | (simp; omega)))).trans (hb8.mono (by first | omega | (simp; done) | (simp; omega)))).trans (hb9.mono (by first | omega | (simp; done) | (simp; omega)))).trans (hb10.mono (by first | omega | (simp; done) | (simp; omega)))).trans (hb11.mono (by first | omega | (simp; done) | (simp; omega)))).trans (hb12.mono (by first | omega | (simp; done) | (simp; omega)))) (Nat.le_refl _)) (h01.keep (((((((((((hb1.trans (hb2.mono (by first | omega | (simp; done) | (simp; omega)))).trans (hb3.mono (by first | omega | (simp; done) | (simp; omega)))).trans (hb4.mono (by first | omega | (simp; done) | (simp; omega)))).trans (hb5.mono (by first | omega | (simp; done) | (simp; omega)))).trans (hb6.mono (by first | omega | (simp; done) | (simp; omega)))).trans (hb7.mono (by first | omega | (simp; done) | (simp; omega)))).trans (hb8.mono (by first | omega | (simp; done) | (simp; omega)))).trans (hb9.mono (by first | omega | (simp; done) | (simp; omega)))).trans (hb10.mono (by first | omega | (simp; done) | (simp; omega)))).trans (hb11.mono (by first | omega | (simp; done) | (simp; omega)))).trans (hb12.mono (by first | omega | (simp; done) | (simp; omega)))) (Nat.le_refl _)) (by first | omega | (simp; done) | (simp; omega)) hz_aR_0 hz_aR_1) ?_
    rintro e w13 ⟨Af180, nf180, cf180, Af181, nf181, cf181, rfl, hb13, hf18⟩
    have kx1_0_13 : w13.cell? ⟨w.heap.size, 0, none⟩ = some (.slice A00 n00 c00) := (hb13.cell (p := ⟨w.heap.size, 0, none⟩) (by first | omega | (simp; done) | (simp; omega))).trans kx1_0_12
    have kx1_1_13 : w13.cell? ⟨w.heap.size, 1, none⟩ = some (.slice A01 n01 c01) := (hb13.cell (p := ⟨w.heap.size, 1, none⟩) (by first | omega | (simp; done) | (simp; omega))).trans kx1_1_12
    clear kx1_0_12 kx1_1_12
    have sz13 := hb13.size
    go_wp2_with fail
    refine Calls.mono (impl_UniteTree_any _ _ p0 _ _ _ _ _ _ _ _ _ (FreshL.reps2 hf18).1 (FreshL.reps2 hf18).2 (by first | omega | (simp; done) | (simp; omega)) (okRepoS_of ok0 hz_aR)) ?_
    rintro e w14 ⟨Af19, nf19, cf19, rfl, hb14, hf19⟩
    have kx1_0_14 : w14.cell? ⟨w.heap.size, 0, none⟩ = some (.slice A00 n00 c00) := (hb14.cell (p := ⟨w.heap.size, 0, none⟩) (by first | omega | (simp; done) | (simp; omega))).trans kx1_0_13
    have kx1_1_14 : w14.cell? ⟨w.heap.size, 1, none⟩ = some (.slice A01 n01 c01) := (hb14.cell (p := ⟨w.heap.size, 1, none⟩) (by first | omega | (simp; done) | (simp; omega))).trans kx1_1_13
    clear kx1_0_13 kx1_1_13
    have sz14 := hb14.size
    go_wp2_with fail
    refine Calls.mono (eqFileS_any _ _ _ _ _ _ _ _ _ _ _ _ _ (Fresh.rep hf19) ((Fresh.rep hf17).keep ((hb12.trans (hb13.mono (by first | omega | (simp; done) | (simp; omega)))).trans (hb14.mono (by first | omega | (simp; done) | (simp; omega)))) (by first | omega | (simp; done) | (simp; omega))) (by first | omega | (simp; done) | (simp; omega)) (by first | omega | (simp; done) | (simp; omega))) ?_
    rintro e w15 ⟨rfl, hb15⟩
    have kx1_0_15 : w15.cell? ⟨w.heap.size, 0, none⟩ = some (.slice A00 n00 c00) := (hb15.cell (p := ⟨w.heap.size, 0, none⟩) (by first | omega | (simp; done) | (simp; omega))).trans kx1_0_14
    have kx1_1_15 : w15.cell? ⟨w.heap.size, 1, none⟩ = some (.slice A01 n01 c01) := (hb15.cell (p := ⟨w.heap.size, 1, none⟩) (by first | omega | (simp; done) | (simp; omega))).trans kx1_1_14
    clear kx1_0_14 kx1_1_14
    have sz15 := hb15.size
    go_wp2_with fail
    refine Calls.mono (heldFileS_any _ _ _ _ _ _ _ _ ((Fresh.rep hf16).keep (((hb12.trans (hb13.mono (by first | omega | (simp; done) | (simp; omega)))).trans (hb14.mono (by first | omega | (simp; done) | (simp; omega)))).trans (hb15.mono (by first | omega | (simp; done) | (simp; omega)))) (by first | omega | (simp; done) | (simp; omega))) (by first | omega | (simp; done) | (simp; omega)) (by omega) (by omega)) ?_
    rintro e w16 ⟨rfl, hb16⟩
    have kx1_0_16 : w16.cell? ⟨w.heap.size, 0, none⟩ = some (.slice A00 n00 c00) := (hb16.cell (p := ⟨w.heap.size, 0, none⟩) (by first | omega | (simp; done) | (simp; omega))).trans kx1_0_15
    have kx1_1_16 : w16.cell? ⟨w.heap.size, 1, none⟩ = some (.slice A01 n01 c01) := (hb16.cell (p := ⟨w.heap.size, 1, none⟩) (by first | omega | (simp; done) | (simp; omega))).trans kx1_1_15
    clear kx1_0_15 kx1_1_15
    have sz16 := hb16.size
    go_wp2
    go_ret
    exact ⟨rfl, (((((((((((((((hb1.trans (hb2.mono (by first | omega | (simp; done) | (simp; omega)))).trans (hb3.mono (by first | omega | (simp; done) | (simp; omega)))).trans (hb4.mono (by first | omega | (simp; done) | (simp; omega)))).trans (hb5.mono (by first | omega | (simp; done) | (simp; omega)))).trans (hb6.mono (by first | omega | (simp; done) | (simp; omega)))).trans (hb7.mono (by first | omega | (simp; done) | (simp; omega)))).trans (hb8.mono (by first | omega | (simp; done) | (simp; omega)))).trans (hb9.mono (by first | omega | (simp; done) | (simp; omega)))).trans (hb10.mono (by first | omega | (simp; done) | (simp; omega)))).trans (hb11.mono (by first | omega | (simp; done) | (simp; omega)))).trans (hb12.mono (by first | omega | (simp; done) | (simp; omega)))).trans (hb13.mono (by first | omega | (simp; done) | (simp; omega)))).trans (hb14.mono (by first | omega | (simp; done) | (simp; omega)))).trans (hb15.mono (by first | omega | (simp; done) | (simp; omega)))).trans (hb16.mono (by first | omega | (simp; done) | (simp; omega))))⟩
end Go.Proofs.YtenkceeicmfjhaaGreatDoor
