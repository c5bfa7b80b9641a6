/- The walk of the law FnExactAncIs. Printed by wip/genwalk.py. -/
import Derived.Test.YtocncjohpikfcaaDoorAncIs2
import Derived.Test.YtocncjohpikfcaaDoorMarkRepo
import Derived.Test.YtocncjohpikfcaaDoorRepL
import Derived.Test.YtocncjohpikfcaaDoorDRepo
import Derived.Deep.RegionHeld3
namespace Go.Proofs.YtocncjohpikfcaaDoor
open Go.RowKit
set_option maxRecDepth 100000 in
set_option maxHeartbeats 2000000 in
theorem law_XAncIs (r0 : PRepo) (A00 : Option Addr) (n00 c00 : Nat) (A01 : Option Addr) (n01 c01 : Nat) (m1 : Int) (m2 : Int) (w : World) (h00 : Rep w 0 w.heap.size (encCommits r0.commits) (.slice A00 n00 c00)) (h01 : Rep w 0 w.heap.size (encHeads r0.heads) (.slice A01 n01 c01)) (ok0 : okRepo r0) (_ok1 : -9223372036854775808 ≤ m1 ∧ m1 ≤ 9223372036854775807) (_ok2 : -9223372036854775808 ≤ m2 ∧ m2 ≤ 9223372036854775807) :
    Calls Tryd.prog 5 #[.agg #[.slice A00 n00 c00, .slice A01 n01 c01], .int .i64 m1, .int .i64 m2] w fun e w' => e = .returned (.bool true) ∧ Below w.heap.size w w' := by
  go_enter Tryd.func5, Tryd.ntmps5
  have hbx1 := fun o => (Below.refl w.heap.size w).alloc (Nat.le_refl _) o
  go_wp2_with fail
  refine Calls.mono (szRepo_any r0 _ _ _ _ _ _ _ 0 w.heap.size _ (h00.keep (hbx1 _) (by first | omega | (simp; done) | (simp; omega))) (h01.keep (hbx1 _) (by first | omega | (simp; done) | (simp; omega))) (by first | omega | (simp; done) | (simp; omega)) ok0 (by omega) (by omega)) ?_
  rintro e w1 ⟨⟨r1', rfl, rl1, ru1, rz1⟩, hbb1⟩
  have hb1 : Below w.heap.size w w1 := (hbx1 _).trans (hbb1.mono (by simp))
  have kx1_0_1 : w1.cell? ⟨w.heap.size, 0, none⟩ = some (.slice A00 n00 c00) := by rw [hbb1.cell (by simp)]; go_simp
  have kx1_1_1 : w1.cell? ⟨w.heap.size, 1, none⟩ = some (.slice A01 n01 c01) := by rw [hbb1.cell (by simp)]; go_simp
  have szb1 : w.heap.size < w1.heap.size := by have := hbb1.size; simp at this; omega
  clear hbb1 hbx1
  have sz1 := hb1.size
  by_cases g1 : r1' < 0
  · go_wp2
    go_ret
    exact ⟨rfl, hb1⟩
  ·
    have hz_aR : szRepo r0 ≤ 1048576 := by have := rz1 (by omega); omega
    have hz_aR_0 : szCommits r0.commits ≤ 1048576 := by have h9 := hz_aR; unfold szRepo at h9; omega
    have hz_aR_1 : szHeads r0.heads ≤ 1048576 := by have h9 := hz_aR; unfold szRepo at h9; omega
    have hcnt_aR := cntRepo_le r0
    clear rz1
    go_wp2_with fail
    refine Calls.mono (toRepo_any r0 _ _ _ _ _ _ _ 0 w.heap.size (h00.keep hb1 (Nat.le_refl _)) (h01.keep hb1 (Nat.le_refl _)) (by first | omega | (simp; done) | (simp; omega)) hz_aR_0 hz_aR_1) ?_
    rintro e w2 ⟨Af10, nf10, cf10, Af11, nf11, cf11, rfl, hb2, hf1⟩
    have kx1_0_2 : w2.cell? ⟨w.heap.size, 0, none⟩ = some (.slice A00 n00 c00) := (hb2.cell (p := ⟨w.heap.size, 0, none⟩) (by first | omega | (simp; done) | (simp; omega))).trans kx1_0_1
    have kx1_1_2 : w2.cell? ⟨w.heap.size, 1, none⟩ = some (.slice A01 n01 c01) := (hb2.cell (p := ⟨w.heap.size, 1, none⟩) (by first | omega | (simp; done) | (simp; omega))).trans kx1_1_1
    clear kx1_0_1 kx1_1_1
    have sz2 := hb2.size
    go_wp2_with fail
    refine Calls.mono (spec_AncIs_any _ _ r0 _ _ _ _ _ _ _ _ _ (FreshL.reps2 hf1).1 (FreshL.reps2 hf1).2 (by first | omega | (simp; done) | (simp; omega)) (okRepoS_of ok0 hz_aR)) ?_
    rintro e w3 ⟨rfl, hb3⟩
    have kx1_0_3 : w3.cell? ⟨w.heap.size, 0, none⟩ = some (.slice A00 n00 c00) := (hb3.cell (p := ⟨w.heap.size, 0, none⟩) (by first | omega | (simp; done) | (simp; omega))).trans kx1_0_2
    have kx1_1_3 : w3.cell? ⟨w.heap.size, 1, none⟩ = some (.slice A01 n01 c01) := (hb3.cell (p := ⟨w.heap.size, 1, none⟩) (by first | omega | (simp; done) | (simp; omega))).trans kx1_1_2
    clear kx1_0_2 kx1_1_2
    have sz3 := hb3.size
    go_wp2_with fail
    refine Calls.mono (toRepo_any r0 _ _ _ _ _ _ _ 0 w.heap.size (h00.keep ((hb1.trans (hb2.mono (by first | omega | (simp; done) | (simp; omega)))).trans (hb3.mono (by first | omega | (simp; done) | (simp; omega)))) (Nat.le_refl _)) (h01.keep ((hb1.trans (hb2.mono (by first | omega | (simp; done) | (simp; omega)))).trans (hb3.mono (by first | omega | (simp; done) | (simp; omega)))) (Nat.le_refl _)) (by first | omega | (simp; done) | (simp; omega)) hz_aR_0 hz_aR_1) ?_
    rintro e w4 ⟨Af20, nf20, cf20, Af21, nf21, cf21, rfl, hb4, hf2⟩
    have kx1_0_4 : w4.cell? ⟨w.heap.size, 0, none⟩ = some (.slice A00 n00 c00) := (hb4.cell (p := ⟨w.heap.size, 0, none⟩) (by first | omega | (simp; done) | (simp; omega))).trans kx1_0_3
    have kx1_1_4 : w4.cell? ⟨w.heap.size, 1, none⟩ = some (.slice A01 n01 c01) := (hb4.cell (p := ⟨w.heap.size, 1, none⟩) (by first | omega | (simp; done) | (simp; omega))).trans kx1_1_3
    clear kx1_0_3 kx1_1_3
    have sz4 := hb4.size
    have hbx2 := fun o => (Below.refl w4.heap.size w4).alloc (Nat.le_refl _) o
    go_wp2_with fail
    refine Calls.mono (impl_AncIs_any _ _ r0 _ _ _ _ _ _ _ _ _ ((FreshL.reps2 hf2).1.keep (hbx2 _) (by first | omega | (simp; done) | (simp; omega))) ((FreshL.reps2 hf2).2.keep (hbx2 _) (by first | omega | (simp; done) | (simp; omega))) (by first | omega | (simp; done) | (simp; omega)) (okRepoS_of ok0 hz_aR)) ?_
    rintro e w5 ⟨rfl, hbb5⟩
    have hb5 : Below w4.heap.size w4 w5 := (hbx2 _).trans (hbb5.mono (by simp))
    have kx1_0_5 : w5.cell? ⟨w.heap.size, 0, none⟩ = some (.slice A00 n00 c00) := (hb5.cell (p := ⟨w.heap.size, 0, none⟩) (by first | omega | (simp; done) | (simp; omega))).trans kx1_0_4
    have kx1_1_5 : w5.cell? ⟨w.heap.size, 1, none⟩ = some (.slice A01 n01 c01) := (hb5.cell (p := ⟨w.heap.size, 1, none⟩) (by first | omega | (simp; done) | (simp; omega))).trans kx1_1_4
    clear kx1_0_4 kx1_1_4
    have kx2_0_5 : w5.cell? ⟨w4.heap.size, 0, none⟩ = some (.slice Af20 nf20 cf20) := by rw [hbb5.cell (by simp)]; go_simp
    have kx2_1_5 : w5.cell? ⟨w4.heap.size, 1, none⟩ = some (.slice Af21 nf21 cf21) := by rw [hbb5.cell (by simp)]; go_simp
    have szb5 : w4.heap.size < w5.heap.size := by have := hbb5.size; simp at this; omega
    clear hbb5 hbx2
    have sz5 := hb5.size
    go_wp2
    go_region_held3 (fun w' => w'.cell? ⟨w.heap.size, 0, none⟩ = some (.slice A00 n00 c00) ∧ w'.cell? ⟨w.heap.size, 1, none⟩ = some (.slice A01 n01 c01) ∧ w'.cell? ⟨w4.heap.size, 0, none⟩ = some (.slice Af20 nf20 cf20) ∧ w'.cell? ⟨w4.heap.size, 1, none⟩ = some (.slice Af21 nf21 cf21)) (first | trivial | exact ⟨cx0, cx1, cx2, cx3⟩ | exact ⟨cw0, cw1, cw2, cw3⟩ | go_keep) (first
      | (go_at_call 14; refine (toRepo_any r0 _ _ _ _ _ _ _ 0 w.heap.size (show Rep w5.drew _ _ _ (.slice A00 n00 c00) from ((h00.keep ((((hb1.trans (hb2.mono (by first | omega | (simp; done) | (simp; omega)))).trans (hb3.mono (by first | omega | (simp; done) | (simp; omega)))).trans (hb4.mono (by first | omega | (simp; done) | (simp; omega)))).trans (hb5.mono (by first | omega | (simp; done) | (simp; omega)))) (Nat.le_refl _))).drewN 1) (show Rep w5.drew _ _ _ (.slice A01 n01 c01) from ((h01.keep ((((hb1.trans (hb2.mono (by first | omega | (simp; done) | (simp; omega)))).trans (hb3.mono (by first | omega | (simp; done) | (simp; omega)))).trans (hb4.mono (by first | omega | (simp; done) | (simp; omega)))).trans (hb5.mono (by first | omega | (simp; done) | (simp; omega)))) (Nat.le_refl _))).drewN 1) (show _ ≤ w5.heap.size by omega) hz_aR_0 hz_aR_1).mono ?_
         rintro e w6 ⟨Af30, nf30, cf30, Af31, nf31, cf31, rfl, hbA, hfA⟩
         have cw0 : w6.cell? ⟨w.heap.size, 0, none⟩ = some (.slice A00 n00 c00) := (hbA.cell (p := ⟨w.heap.size, 0, none⟩) (show w.heap.size < w5.heap.size by omega)).trans kx1_0_5
         have cw1 : w6.cell? ⟨w.heap.size, 1, none⟩ = some (.slice A01 n01 c01) := (hbA.cell (p := ⟨w.heap.size, 1, none⟩) (show w.heap.size < w5.heap.size by omega)).trans kx1_1_5
         have cw2 : w6.cell? ⟨w4.heap.size, 0, none⟩ = some (.slice Af20 nf20 cf20) := (hbA.cell (p := ⟨w4.heap.size, 0, none⟩) (show w4.heap.size < w5.heap.size by omega)).trans kx2_0_5
         have cw3 : w6.cell? ⟨w4.heap.size, 1, none⟩ = some (.slice Af21 nf21 cf21) := (hbA.cell (p := ⟨w4.heap.size, 1, none⟩) (show w4.heap.size < w5.heap.size by omega)).trans kx2_1_5)
      | (go_at_call 16; refine (eqRepo_any r0 r0 _ _ _ _ _ _ _ _ _ _ _ _ _ _ _ _ _ ((show Rep w5.drew _ _ _ (.slice Af20 nf20 cf20) from (((FreshL.reps2 hf2).1.keep hb5 (Nat.le_refl _))).drewN 1).keep hbA (show _ ≤ w5.heap.size by omega)) ((show Rep w5.drew _ _ _ (.slice Af21 nf21 cf21) from (((FreshL.reps2 hf2).2.keep hb5 (Nat.le_refl _))).drewN 1).keep hbA (show _ ≤ w5.heap.size by omega)) (FreshL.reps2 hfA).1 (FreshL.reps2 hfA).2 (Nat.le_trans (show _ ≤ w5.heap.size by omega) hbA.size) (Nat.le_refl _)).mono ?_
         rintro e w7 ⟨rfl, hbB⟩
         have cx0 : w7.cell? ⟨w.heap.size, 0, none⟩ = some (.slice A00 n00 c00) := (hbB.cell (p := ⟨w.heap.size, 0, none⟩) (Nat.lt_of_lt_of_le (show w.heap.size < w5.heap.size by omega) hbA.size)).trans cw0
         have cx1 : w7.cell? ⟨w.heap.size, 1, none⟩ = some (.slice A01 n01 c01) := (hbB.cell (p := ⟨w.heap.size, 1, none⟩) (Nat.lt_of_lt_of_le (show w.heap.size < w5.heap.size by omega) hbA.size)).trans cw1
         have cx2 : w7.cell? ⟨w4.heap.size, 0, none⟩ = some (.slice Af20 nf20 cf20) := (hbB.cell (p := ⟨w4.heap.size, 0, none⟩) (Nat.lt_of_lt_of_le (show w4.heap.size < w5.heap.size by omega) hbA.size)).trans cw2
         have cx3 : w7.cell? ⟨w4.heap.size, 1, none⟩ = some (.slice Af21 nf21 cf21) := (hbB.cell (p := ⟨w4.heap.size, 1, none⟩) (Nat.lt_of_lt_of_le (show w4.heap.size < w5.heap.size by omega) hbA.size)).trans cw3))
    have hb6 : Below w5.heap.size w5 w6 := ⟨hbA.os, hbA.tape, hbA.output, hbA.size, hbA.block⟩
    have sz6 := hb6.size
    have hb7 := hbB
    have sz7 := hb7.size
    have kx1_0_7 := cx0
    have kx1_1_7 := cx1
    have kx2_0_7 := cx2
    have kx2_1_7 := cx3
    clear hbA hbB hfA kx1_0_5 cx0 cw0 kx1_1_5 cx1 cw1 kx2_0_5 cx2 cw2 kx2_1_5 cx3 cw3
    go_wp2
    go_ret
    exact ⟨rfl, ((((((hb1.trans (hb2.mono (by first | omega | (simp; done) | (simp; omega)))).trans (hb3.mono (by first | omega | (simp; done) | (simp; omega)))).trans (hb4.mono (by first | omega | (simp; done) | (simp; omega)))).trans (hb5.mono (by first | omega | (simp; done) | (simp; omega)))).trans (hb6.mono (by first | omega | (simp; done) | (simp; omega)))).trans (hb7.mono (by first | omega | (simp; done) | (simp; omega))))⟩
end Go.Proofs.YtocncjohpikfcaaDoor
