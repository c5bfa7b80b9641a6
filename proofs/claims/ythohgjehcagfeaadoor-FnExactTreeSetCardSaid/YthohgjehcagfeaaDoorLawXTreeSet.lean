/- The walk of the law FnExactTreeSet. Printed by wip/genwalk.py. -/
import Derived.Test.YthohgjehcagfeaaDoorTreeSet
import Derived.Test.YthohgjehcagfeaaDoorBndSet
import Derived.Test.YthohgjehcagfeaaDoorDFile
import Derived.Test.YthohgjehcagfeaaDoorCFile
import Derived.Test.YthohgjehcagfeaaDoorMarkFile
import Derived.Deep.RegionHeld3
namespace Go.Proofs.YthohgjehcagfeaaDoor
open Go.RowKit
set_option maxRecDepth 100000 in
set_option maxHeartbeats 2000000 in
theorem law_XTreeSet (A0 : Option Addr) (n0 c0 : Nat) (xs0 : List PFile) (p1 : PFile) (A11 : Option Addr) (n11 c11 : Nat) (w : World) (h0 : Rep w 0 w.heap.size (encFiles xs0) (.slice A0 n0 c0)) (ok0 : ∀ x ∈ xs0, okFile x) (h11 : Rep w 0 w.heap.size (encText p1.text) (.slice A11 n11 c11)) (ok1 : okFile p1) :
    Calls Tryd.prog 3 #[.slice A0 n0 c0, .agg #[.string ⟨p1.path.toArray⟩, .slice A11 n11 c11]] w fun e w' => e = .returned (.bool true) ∧ Below w.heap.size w w' := by
  go_enter Tryd.func3, Tryd.ntmps3
  have hbx1 := fun o => (Below.refl w.heap.size w).alloc (Nat.le_refl _) o
  go_wp2_with fail
  refine Calls.mono (szFileS_any _ _ _ _ _ _ _ _ (h0.keep (hbx1 _) (by first | omega | (simp; done) | (simp; omega))) (by first | omega | (simp; done) | (simp; omega)) ok0 (by omega) (by omega)) ?_
  rintro e w1 ⟨⟨r1, rfl, rl1, ru1, rz1⟩, hbb1⟩
  have hb1 : Below w.heap.size w w1 := (hbx1 _).trans (hbb1.mono (by simp))
  have kx1_0_1 : w1.cell? ⟨w.heap.size, 0, none⟩ = some (.string ⟨p1.path.toArray⟩) := by rw [hbb1.cell (by simp)]; go_simp
  have kx1_1_1 : w1.cell? ⟨w.heap.size, 1, none⟩ = some (.slice A11 n11 c11) := by rw [hbb1.cell (by simp)]; go_simp
  have szb1 : w.heap.size < w1.heap.size := by have := hbb1.size; simp at this; omega
  clear hbb1 hbx1
  have sz1 := hb1.size
  by_cases g1 : r1 < 0
  · go_wp2
    go_ret
    exact ⟨rfl, hb1⟩
  ·
    have hz_aT : szFiles xs0 ≤ 1048576 := by have := rz1 (by omega); omega
    have hcnt_aT := cntFiles_le xs0
    clear rz1
    go_wp2_with fail
    refine Calls.mono (szFile_any p1 _ _ _ _ 0 w.heap.size _ (h11.keep hb1 (Nat.le_refl _)) (by first | omega | (simp; done) | (simp; omega)) ok1 (by omega) (by omega)) ?_
    rintro e w2 ⟨⟨r2', rfl, rl2, ru2, rz2⟩, hb2⟩
    have kx1_0_2 : w2.cell? ⟨w.heap.size, 0, none⟩ = some (.string ⟨p1.path.toArray⟩) := (hb2.cell (p := ⟨w.heap.size, 0, none⟩) (by first | omega | (simp; done) | (simp; omega))).trans kx1_0_1
    have kx1_1_2 : w2.cell? ⟨w.heap.size, 1, none⟩ = some (.slice A11 n11 c11) := (hb2.cell (p := ⟨w.heap.size, 1, none⟩) (by first | omega | (simp; done) | (simp; omega))).trans kx1_1_1
    clear kx1_0_1 kx1_1_1
    have sz2 := hb2.size
    by_cases g2 : r2' < 0
    · go_wp2
      go_ret
      exact ⟨rfl, (hb1.trans (hb2.mono (by first | omega | (simp; done) | (simp; omega))))⟩
    ·
      have hz_aF : szFile p1 ≤ 1048576 := by have := rz2 (by omega); omega
      have hz_aF_1 : p1.text.length ≤ 1048576 := by have h9 := hz_aF; unfold szFile total at h9; omega
      have hcnt1_aF : cntFile1 p1 ≤ 1048576 := hz_aF_1
      have hcnt_aF := cntFile_le p1
      clear rz2
      go_wp2
      go_region_held3 (fun w' => w'.cell? ⟨w.heap.size, 0, none⟩ = some (.string ⟨p1.path.toArray⟩) ∧ w'.cell? ⟨w.heap.size, 1, none⟩ = some (.slice A11 n11 c11)) (first | trivial | exact ⟨cy0, cy1⟩ | exact ⟨cx0, cx1⟩ | exact ⟨cw0, cw1⟩ | go_keep) (first
        | (go_at_call 7; refine (spec_TreeSet_any _ _ _ _ _ _ _ p1 _ _ _ _ _ (Fresh.rep (Fresh.keep hfA hbB (Nat.le_refl _))) (FreshL.reps1 hfB) (Nat.le_trans (Nat.le_of_eq rfl) hbB.size) (Nat.le_refl _) (okTree_of ok0 hz_aT) (okFileS_of ok1 hz_aF)).mono ?_
           rintro e w5 ⟨Af3, nf3, cf3, rfl, hbC, hfC⟩
           have cy0 : w5.cell? ⟨w.heap.size, 0, none⟩ = some (.string ⟨p1.path.toArray⟩) := (hbC.cell (p := ⟨w.heap.size, 0, none⟩) (Nat.lt_of_lt_of_le (Nat.lt_of_lt_of_le (show w.heap.size < w2.heap.size by omega) hbA.size) hbB.size)).trans cx0
           have cy1 : w5.cell? ⟨w.heap.size, 1, none⟩ = some (.slice A11 n11 c11) := (hbC.cell (p := ⟨w.heap.size, 1, none⟩) (Nat.lt_of_lt_of_le (Nat.lt_of_lt_of_le (show w.heap.size < w2.heap.size by omega) hbA.size) hbB.size)).trans cx1)
        | (go_at_call 9; refine (toFile_any p1 _ _ _ _ 0 w.heap.size ((show Rep w2.drew _ _ _ (.slice A11 n11 c11) from ((h11.keep (hb1.trans (hb2.mono (by first | omega | (simp; done) | (simp; omega)))) (Nat.le_refl _))).drewN 1).keep hbA (show _ ≤ w2.heap.size by omega)) (Nat.le_trans (show _ ≤ w2.heap.size by omega) hbA.size) hz_aF_1).mono ?_
           rintro e w4 ⟨Af21, nf21, cf21, rfl, hbB, hfB⟩
           have cx0 : w4.cell? ⟨w.heap.size, 0, none⟩ = some (.string ⟨p1.path.toArray⟩) := (hbB.cell (p := ⟨w.heap.size, 0, none⟩) (Nat.lt_of_lt_of_le (show w.heap.size < w2.heap.size by omega) hbA.size)).trans cw0
           have cx1 : w4.cell? ⟨w.heap.size, 1, none⟩ = some (.slice A11 n11 c11) := (hbB.cell (p := ⟨w.heap.size, 1, none⟩) (Nat.lt_of_lt_of_le (show w.heap.size < w2.heap.size by omega) hbA.size)).trans cw1)
        | (go_at_call 8; refine (toFileS_any _ _ _ _ _ _ _ (show Rep w2.drew _ _ _ _ from Rep.drewN ((h0.keep (hb1.trans (hb2.mono (by first | omega | (simp; done) | (simp; omega)))) (Nat.le_refl _))) 1) (show _ ≤ w2.heap.size by omega) hz_aT).mono ?_
           rintro e w3 ⟨Af1, nf1, cf1, rfl, hbA, hfA⟩
           have cw0 : w3.cell? ⟨w.heap.size, 0, none⟩ = some (.string ⟨p1.path.toArray⟩) := (hbA.cell (p := ⟨w.heap.size, 0, none⟩) (show w.heap.size < w2.heap.size by omega)).trans kx1_0_2
           have cw1 : w3.cell? ⟨w.heap.size, 1, none⟩ = some (.slice A11 n11 c11) := (hbA.cell (p := ⟨w.heap.size, 1, none⟩) (show w.heap.size < w2.heap.size by omega)).trans kx1_1_2))
      have hb3 : Below w2.heap.size w2 w3 := ⟨hbA.os, hbA.tape, hbA.output, hbA.size, hbA.block⟩
      have sz3 := hb3.size
      have hb4 := hbB
      have sz4 := hb4.size
      have hb5 := hbC
      have sz5 := hb5.size
      have hf3 := hfC
      have kx1_0_5 := cy0
      have kx1_1_5 := cy1
      clear hbA hbB hbC hfA hfB hfC kx1_0_2 cy0 cx0 cw0 kx1_1_2 cy1 cx1 cw1
      go_wp2_with fail
      refine Calls.mono (toFileS_any _ _ _ _ _ _ _ (h0.keep ((((hb1.trans (hb2.mono (by first | omega | (simp; done) | (simp; omega)))).trans (hb3.mono (by first | omega | (simp; done) | (simp; omega)))).trans (hb4.mono (by first | omega | (simp; done) | (simp; omega)))).trans (hb5.mono (by first | omega | (simp; done) | (simp; omega)))) (Nat.le_refl _)) (by first | omega | (simp; done) | (simp; omega)) hz_aT) ?_
      rintro e w6 ⟨Af4, nf4, cf4, rfl, hb6, hf4⟩
      have kx1_0_6 : w6.cell? ⟨w.heap.size, 0, none⟩ = some (.string ⟨p1.path.toArray⟩) := (hb6.cell (p := ⟨w.heap.size, 0, none⟩) (by first | omega | (simp; done) | (simp; omega))).trans kx1_0_5
      have kx1_1_6 : w6.cell? ⟨w.heap.size, 1, none⟩ = some (.slice A11 n11 c11) := (hb6.cell (p := ⟨w.heap.size, 1, none⟩) (by first | omega | (simp; done) | (simp; omega))).trans kx1_1_5
      clear kx1_0_5 kx1_1_5
      have sz6 := hb6.size
      go_wp2_with fail
      refine Calls.mono (toFile_any p1 _ _ _ _ 0 w.heap.size (h11.keep (((((hb1.trans (hb2.mono (by first | omega | (simp; done) | (simp; omega)))).trans (hb3.mono (by first | omega | (simp; done) | (simp; omega)))).trans (hb4.mono (by first | omega | (simp; done) | (simp; omega)))).trans (hb5.mono (by first | omega | (simp; done) | (simp; omega)))).trans (hb6.mono (by first | omega | (simp; done) | (simp; omega)))) (Nat.le_refl _)) (by first | omega | (simp; done) | (simp; omega)) hz_aF_1) ?_
      rintro e w7 ⟨Af51, nf51, cf51, rfl, hb7, hf5⟩
      have kx1_0_7 : w7.cell? ⟨w.heap.size, 0, none⟩ = some (.string ⟨p1.path.toArray⟩) := (hb7.cell (p := ⟨w.heap.size, 0, none⟩) (by first | omega | (simp; done) | (simp; omega))).trans kx1_0_6
      have kx1_1_7 : w7.cell? ⟨w.heap.size, 1, none⟩ = some (.slice A11 n11 c11) := (hb7.cell (p := ⟨w.heap.size, 1, none⟩) (by first | omega | (simp; done) | (simp; omega))).trans kx1_1_6
      clear kx1_0_6 kx1_1_6
      have sz7 := hb7.size
      have hbx2 := fun o => (Below.refl w7.heap.size w7).alloc (Nat.le_refl _) o
      go_wp2_with fail
      refine Calls.mono (impl_TreeSet_any _ _ _ _ _ _ _ p1 _ _ _ _ _ (((Fresh.rep hf4).keep hb7 (Nat.le_refl _)).keep (hbx2 _) (by first | omega | (simp; done) | (simp; omega))) ((FreshL.reps1 hf5).keep (hbx2 _) (by first | omega | (simp; done) | (simp; omega))) (by first | omega | (simp; done) | (simp; omega)) (by first | omega | (simp; done) | (simp; omega)) (okTree_of ok0 hz_aT) (okFileS_of ok1 hz_aF)) ?_
      rintro e w8 ⟨Af6, nf6, cf6, rfl, hbb8, hf6⟩
      have hb8 : Below w7.heap.size w7 w8 := (hbx2 _).trans (hbb8.mono (by simp))
      replace hf6 := Fresh.mono (lo' := w7.heap.size) hf6 (by simp) (Nat.le_refl _)
      have kx1_0_8 : w8.cell? ⟨w.heap.size, 0, none⟩ = some (.string ⟨p1.path.toArray⟩) := (hb8.cell (p := ⟨w.heap.size, 0, none⟩) (by first | omega | (simp; done) | (simp; omega))).trans kx1_0_7
      have kx1_1_8 : w8.cell? ⟨w.heap.size, 1, none⟩ = some (.slice A11 n11 c11) := (hb8.cell (p := ⟨w.heap.size, 1, none⟩) (by first | omega | (simp; done) | (simp; omega))).trans kx1_1_7
      clear kx1_0_7 kx1_1_7
      have kx2_0_8 : w8.cell? ⟨w7.heap.size, 0, none⟩ = some (.string ⟨p1.path.toArray⟩) := by rw [hbb8.cell (by simp)]; go_simp
      have kx2_1_8 : w8.cell? ⟨w7.heap.size, 1, none⟩ = some (.slice Af51 nf51 cf51) := by rw [hbb8.cell (by simp)]; go_simp
      have szb8 : w7.heap.size < w8.heap.size := by have := hbb8.size; simp at this; omega
      clear hbb8 hbx2
      have sz8 := hb8.size
      have bnd := bnd_TreeSet xs0 p1
      go_wp2_with fail
      refine Calls.mono (eqFileS_any _ _ _ _ _ _ _ _ _ _ _ _ _ (Fresh.rep hf6) (hf3.keep ((hb6.trans (hb7.mono (by first | omega | (simp; done) | (simp; omega)))).trans (hb8.mono (by first | omega | (simp; done) | (simp; omega)))) (Nat.le_refl _)) (by first | omega | (simp; done) | (simp; omega)) (by first | omega | (simp; done) | (simp; omega))) ?_
      rintro e w9 ⟨rfl, hb9⟩
      have kx1_0_9 : w9.cell? ⟨w.heap.size, 0, none⟩ = some (.string ⟨p1.path.toArray⟩) := (hb9.cell (p := ⟨w.heap.size, 0, none⟩) (by first | omega | (simp; done) | (simp; omega))).trans kx1_0_8
      have kx1_1_9 : w9.cell? ⟨w.heap.size, 1, none⟩ = some (.slice A11 n11 c11) := (hb9.cell (p := ⟨w.heap.size, 1, none⟩) (by first | omega | (simp; done) | (simp; omega))).trans kx1_1_8
      have kx2_0_9 : w9.cell? ⟨w7.heap.size, 0, none⟩ = some (.string ⟨p1.path.toArray⟩) := (hb9.cell (p := ⟨w7.heap.size, 0, none⟩) (by first | omega | (simp; done) | (simp; omega))).trans kx2_0_8
      have kx2_1_9 : w9.cell? ⟨w7.heap.size, 1, none⟩ = some (.slice Af51 nf51 cf51) := (hb9.cell (p := ⟨w7.heap.size, 1, none⟩) (by first | omega | (simp; done) | (simp; omega))).trans kx2_1_8
      clear kx1_0_8 kx1_1_8 kx2_0_8 kx2_1_8
      have sz9 := hb9.size
      go_wp2_with fail
      refine Calls.mono (toFileS_any _ _ _ _ _ _ _ (h0.keep ((((((((hb1.trans (hb2.mono (by first | omega | (simp; done) | (simp; omega)))).trans (hb3.mono (by first | omega | (simp; done) | (simp; omega)))).trans (hb4.mono (by first | omega | (simp; done) | (simp; omega)))).trans (hb5.mono (by first | omega | (simp; done) | (simp; omega)))).trans (hb6.mono (by first | omega | (simp; done) | (simp; omega)))).trans (hb7.mono (by first | omega | (simp; done) | (simp; omega)))).trans (hb8.mono (by first | omega | (simp; done) | (simp; omega)))).trans (hb9.mono (by first | omega | (simp; done) | (simp; omega)))) (Nat.le_refl _)) (by first | omega | (simp; done) | (simp; omega)) hz_aT) ?_
      rintro e w10 ⟨Af7, nf7, cf7, rfl, hb10, hf7⟩
      have kx1_0_10 : w10.cell? ⟨w.heap.size, 0, none⟩ = some (.string ⟨p1.path.toArray⟩) := (hb10.cell (p := ⟨w.heap.size, 0, none⟩) (by first | omega | (simp; done) | (simp; omega))).trans kx1_0_9
      have kx1_1_10 : w10.cell? ⟨w.heap.size, 1, none⟩ = some (.slice A11 n11 c11) := (hb10.cell (p := ⟨w.heap.size, 1, none⟩) (by first | omega | (simp; done) | (simp; omega))).trans kx1_1_9
      have kx2_0_10 : w10.cell? ⟨w7.heap.size, 0, none⟩ = some (.string ⟨p1.path.toArray⟩) := (hb10.cell (p := ⟨w7.heap.size, 0, none⟩) (by first | omega | (simp; done) | (simp; omega))).trans kx2_0_9
      have kx2_1_10 : w10.cell? ⟨w7.heap.size, 1, none⟩ = some (.slice Af51 nf51 cf51) := (hb10.cell (p := ⟨w7.heap.size, 1, none⟩) (by first | omega | (simp; done) | (simp; omega))).trans kx2_1_9
      clear kx1_0_9 kx1_1_9 kx2_0_9 kx2_1_9
      have sz10 := hb10.size
      go_wp2_with fail
      refine Calls.mono (eqFileS_any _ _ _ _ _ _ _ _ _ _ _ _ _ ((Fresh.rep hf4).keep (((hb7.trans (hb8.mono (by first | omega | (simp; done) | (simp; omega)))).trans (hb9.mono (by first | omega | (simp; done) | (simp; omega)))).trans (hb10.mono (by first | omega | (simp; done) | (simp; omega)))) (Nat.le_refl _)) (Fresh.rep hf7) (by first | omega | (simp; done) | (simp; omega)) (by first | omega | (simp; done) | (simp; omega))) ?_
      rintro e w11 ⟨rfl, hb11⟩
      have kx1_0_11 : w11.cell? ⟨w.heap.size, 0, none⟩ = some (.string ⟨p1.path.toArray⟩) := (hb11.cell (p := ⟨w.heap.size, 0, none⟩) (by first | omega | (simp; done) | (simp; omega))).trans kx1_0_10
      have kx1_1_11 : w11.cell? ⟨w.heap.size, 1, none⟩ = some (.slice A11 n11 c11) := (hb11.cell (p := ⟨w.heap.size, 1, none⟩) (by first | omega | (simp; done) | (simp; omega))).trans kx1_1_10
      have kx2_0_11 : w11.cell? ⟨w7.heap.size, 0, none⟩ = some (.string ⟨p1.path.toArray⟩) := (hb11.cell (p := ⟨w7.heap.size, 0, none⟩) (by first | omega | (simp; done) | (simp; omega))).trans kx2_0_10
      have kx2_1_11 : w11.cell? ⟨w7.heap.size, 1, none⟩ = some (.slice Af51 nf51 cf51) := (hb11.cell (p := ⟨w7.heap.size, 1, none⟩) (by first | omega | (simp; done) | (simp; omega))).trans kx2_1_10
      clear kx1_0_10 kx1_1_10 kx2_0_10 kx2_1_10
      have sz11 := hb11.size
      go_wp2
      go_region_held3 (fun w' => w'.cell? ⟨w.heap.size, 0, none⟩ = some (.string ⟨p1.path.toArray⟩) ∧ w'.cell? ⟨w.heap.size, 1, none⟩ = some (.slice A11 n11 c11) ∧ w'.cell? ⟨w7.heap.size, 0, none⟩ = some (.string ⟨p1.path.toArray⟩) ∧ w'.cell? ⟨w7.heap.size, 1, none⟩ = some (.slice Af51 nf51 cf51)) (first | trivial | exact ⟨cx0, cx1, cx2, cx3⟩ | exact ⟨cw0, cw1, cw2, cw3⟩ | go_keep) (first
        | (go_at_call 9; refine (toFile_any p1 _ _ _ _ 0 w.heap.size (show Rep w11.drew _ _ _ (.slice A11 n11 c11) from ((h11.keep ((((((((((hb1.trans (hb2.mono (by first | omega | (simp; done) | (simp; omega)))).trans (hb3.mono (by first | omega | (simp; done) | (simp; omega)))).trans (hb4.mono (by first | omega | (simp; done) | (simp; omega)))).trans (hb5.mono (by first | omega | (simp; done) | (simp; omega)))).trans (hb6.mono (by first | omega | (simp; done) | (simp; omega)))).trans (hb7.mono (by first | omega | (simp; done) | (simp; omega)))).trans (hb8.mono (by first | omega | (simp; done) | (simp; omega)))).trans (hb9.mono (by first | omega | (simp; done) | (simp; omega)))).trans (hb10.mono (by first | omega | (simp; done) | (simp; omega)))).trans (hb11.mono (by first | omega | (simp; done) | (simp; omega)))) (Nat.le_refl _))).drewN 1) (show _ ≤ w11.heap.size by omega) hz_aF_1).mono ?_
           rintro e w12 ⟨Af81, nf81, cf81, rfl, hbA, hfA⟩
           have cw0 : w12.cell? ⟨w.heap.size, 0, none⟩ = some (.string ⟨p1.path.toArray⟩) := (hbA.cell (p := ⟨w.heap.size, 0, none⟩) (show w.heap.size < w11.heap.size by omega)).trans kx1_0_11
           have cw1 : w12.cell? ⟨w.heap.size, 1, none⟩ = some (.slice A11 n11 c11) := (hbA.cell (p := ⟨w.heap.size, 1, none⟩) (show w.heap.size < w11.heap.size by omega)).trans kx1_1_11
           have cw2 : w12.cell? ⟨w7.heap.size, 0, none⟩ = some (.string ⟨p1.path.toArray⟩) := (hbA.cell (p := ⟨w7.heap.size, 0, none⟩) (show w7.heap.size < w11.heap.size by omega)).trans kx2_0_11
           have cw3 : w12.cell? ⟨w7.heap.size, 1, none⟩ = some (.slice Af51 nf51 cf51) := (hbA.cell (p := ⟨w7.heap.size, 1, none⟩) (show w7.heap.size < w11.heap.size by omega)).trans kx2_1_11)
        | (go_at_call 12; refine (eqFile_any p1 p1 _ _ _ _ _ _ _ _ _ _ _ ((show Rep w11.drew _ _ _ (.slice Af51 nf51 cf51) from (((FreshL.reps1 hf5).keep (((hb8.trans (hb9.mono (by first | omega | (simp; done) | (simp; omega)))).trans (hb10.mono (by first | omega | (simp; done) | (simp; omega)))).trans (hb11.mono (by first | omega | (simp; done) | (simp; omega)))) (Nat.le_refl _))).drewN 1).keep hbA (show _ ≤ w11.heap.size by omega)) (FreshL.reps1 hfA) (Nat.le_trans (show _ ≤ w11.heap.size by omega) hbA.size) (Nat.le_refl _)).mono ?_
           rintro e w13 ⟨rfl, hbB⟩
           have cx0 : w13.cell? ⟨w.heap.size, 0, none⟩ = some (.string ⟨p1.path.toArray⟩) := (hbB.cell (p := ⟨w.heap.size, 0, none⟩) (Nat.lt_of_lt_of_le (show w.heap.size < w11.heap.size by omega) hbA.size)).trans cw0
           have cx1 : w13.cell? ⟨w.heap.size, 1, none⟩ = some (.slice A11 n11 c11) := (hbB.cell (p := ⟨w.heap.size, 1, none⟩) (Nat.lt_of_lt_of_le (show w.heap.size < w11.heap.size by omega) hbA.size)).trans cw1
           have cx2 : w13.cell? ⟨w7.heap.size, 0, none⟩ = some (.string ⟨p1.path.toArray⟩) := (hbB.cell (p := ⟨w7.heap.size, 0, none⟩) (Nat.lt_of_lt_of_le (show w7.heap.size < w11.heap.size by omega) hbA.size)).trans cw2
           have cx3 : w13.cell? ⟨w7.heap.size, 1, none⟩ = some (.slice Af51 nf51 cf51) := (hbB.cell (p := ⟨w7.heap.size, 1, none⟩) (Nat.lt_of_lt_of_le (show w7.heap.size < w11.heap.size by omega) hbA.size)).trans cw3))
      have hb12 : Below w11.heap.size w11 w12 := ⟨hbA.os, hbA.tape, hbA.output, hbA.size, hbA.block⟩
      have sz12 := hb12.size
      have hb13 := hbB
      have sz13 := hb13.size
      have kx1_0_13 := cx0
      have kx1_1_13 := cx1
      have kx2_0_13 := cx2
      have kx2_1_13 := cx3
      clear hbA hbB hfA kx1_0_11 cx0 cw0 kx1_1_11 cx1 cw1 kx2_0_11 cx2 cw2 kx2_1_11 cx3 cw3
      have hf9 := Fresh.keep hf4 ((((((hb7.trans (hb8.mono (by first | omega | (simp; done) | (simp; omega)))).trans (hb9.mono (by first | omega | (simp; done) | (simp; omega)))).trans (hb10.mono (by first | omega | (simp; done) | (simp; omega)))).trans (hb11.mono (by first | omega | (simp; done) | (simp; omega)))).trans (hb12.mono (by first | omega | (simp; done) | (simp; omega)))).trans (hb13.mono (by first | omega | (simp; done) | (simp; omega)))) (Nat.le_refl _)
      have hf10 := FreshL.same hf5 (.of_below (((((hb8.trans (hb9.mono (by first | omega | (simp; done) | (simp; omega)))).trans (hb10.mono (by first | omega | (simp; done) | (simp; omega)))).trans (hb11.mono (by first | omega | (simp; done) | (simp; omega)))).trans (hb12.mono (by first | omega | (simp; done) | (simp; omega)))).trans (hb13.mono (by first | omega | (simp; done) | (simp; omega)))) (Nat.le_refl _))
      have hf11 := Fresh.keep hf6 ((((hb9.trans (hb10.mono (by first | omega | (simp; done) | (simp; omega)))).trans (hb11.mono (by first | omega | (simp; done) | (simp; omega)))).trans (hb12.mono (by first | omega | (simp; done) | (simp; omega)))).trans (hb13.mono (by first | omega | (simp; done) | (simp; omega)))) (Nat.le_refl _)
      have hf12 := Rep.keep hf3 (((((((hb6.trans (hb7.mono (by first | omega | (simp; done) | (simp; omega)))).trans (hb8.mono (by first | omega | (simp; done) | (simp; omega)))).trans (hb9.mono (by first | omega | (simp; done) | (simp; omega)))).trans (hb10.mono (by first | omega | (simp; done) | (simp; omega)))).trans (hb11.mono (by first | omega | (simp; done) | (simp; omega)))).trans (hb12.mono (by first | omega | (simp; done) | (simp; omega)))).trans (hb13.mono (by first | omega | (simp; done) | (simp; omega)))) (Nat.le_refl _)
      obtain ⟨FF1, fo1, fn1, fb1⟩ := hf9
      go_wp2_with fail
      refine Calls.mono (markFileS_any _ _ _ _ _ _ _ fo1 fn1 (by omega) (by omega)) ?_
      rintro e w14 ⟨rfl, fp1, hon1⟩
      have hb14 : Below w5.heap.size w13 w14 := hon1.below (fun z hz => (fb1 z hz).1) (by first | omega | (simp; done) | (simp; omega))
      have hf13 := (⟨FF1, fp1, fn1, fb1⟩ : Fresh w14 (w5.heap.size) (w6.heap.size) _ _)
      have hf14 := FreshL.same hf10 (hon1.same (fun z hz => by have := fb1 z hz; omega) (by first | omega | (simp; done) | (simp; omega)))
      have hf15 := Fresh.same hf11 (hon1.same (fun z hz => by have := fb1 z hz; omega) (by first | omega | (simp; done) | (simp; omega)))
      have hf16 := Rep.same hf12 (hon1.same (fun z hz => by have := fb1 z hz; omega) (by first | omega | (simp; done) | (simp; omega)))
      have kx1_0_14 : w14.cell? ⟨w.heap.size, 0, none⟩ = some (.string ⟨p1.path.toArray⟩) := (hb14.cell (p := ⟨w.heap.size, 0, none⟩) (by first | omega | (simp; done) | (simp; omega))).trans kx1_0_13
      have kx1_1_14 : w14.cell? ⟨w.heap.size, 1, none⟩ = some (.slice A11 n11 c11) := (hb14.cell (p := ⟨w.heap.size, 1, none⟩) (by first | omega | (simp; done) | (simp; omega))).trans kx1_1_13
      have kx2_0_14 : w14.cell? ⟨w7.heap.size, 0, none⟩ = some (.string ⟨p1.path.toArray⟩) := (World.cell?_of_block (a := ⟨w7.heap.size, 0, none⟩) (hon1.block w7.heap.size (by omega) (fun hm => by have := fb1 _ hm; omega))).trans kx2_0_13
      have kx2_1_14 : w14.cell? ⟨w7.heap.size, 1, none⟩ = some (.slice Af51 nf51 cf51) := (World.cell?_of_block (a := ⟨w7.heap.size, 1, none⟩) (hon1.block w7.heap.size (by omega) (fun hm => by have := fb1 _ hm; omega))).trans kx2_1_13
      clear kx1_0_13 kx1_1_13 kx2_0_13 kx2_1_13
      have sz14 := hb14.size
      clear hon1 fo1 fp1 fn1 fb1
      obtain ⟨FF2, fo2, fn2, fb2⟩ := hf14
      go_wp2_with fail
      refine Calls.mono (markFile_any p1 _ _ _ _ _ _ fo2 fn2 (by omega) (by omega)) ?_
      rintro e w15 ⟨rfl, fp2, hon2⟩
      have hb15 : Below w6.heap.size w14 w15 := hon2.below (fun z hz => (fb2 z hz).1) (by first | omega | (simp; done) | (simp; omega))
      have hf17 := Fresh.same hf13 (hon2.same (fun z hz => by have := fb2 z hz; omega) (by first | omega | (simp; done) | (simp; omega)))
      have hf18 := (⟨FF2, fp2, fn2, fb2⟩ : FreshL w15 (w6.heap.size) (w7.heap.size) _ _)
      have hf19 := Fresh.same hf15 (hon2.same (fun z hz => by have := fb2 z hz; omega) (by first | omega | (simp; done) | (simp; omega)))
      have hf20 := Rep.same hf16 (hon2.same (fun z hz => by have := fb2 z hz; omega) (by first | omega | (simp; done) | (simp; omega)))
      have kx1_0_15 : w15.cell? ⟨w.heap.size, 0, none⟩ = some (.string ⟨p1.path.toArray⟩) := (hb15.cell (p := ⟨w.heap.size, 0, none⟩) (by first | omega | (simp; done) | (simp; omega))).trans kx1_0_14
      have kx1_1_15 : w15.cell? ⟨w.heap.size, 1, none⟩ = some (.slice A11 n11 c11) := (hb15.cell (p := ⟨w.heap.size, 1, none⟩) (by first | omega | (simp; done) | (simp; omega))).trans kx1_1_14
      clear kx1_0_14 kx1_1_14 kx2_0_14 kx2_1_14
      have sz15 := hb15.size
      clear hon2 fo2 fp2 fn2 fb2
      go_wp2_with fail
      refine Calls.mono (eqFileS_any _ _ _ _ _ _ _ _ _ _ _ _ _ (Fresh.rep hf19) hf20 (by first | omega | (simp; done) | (simp; omega)) (by first | omega | (simp; done) | (simp; omega))) ?_
      rintro e w16 ⟨rfl, hb16⟩
      have kx1_0_16 : w16.cell? ⟨w.heap.size, 0, none⟩ = some (.string ⟨p1.path.toArray⟩) := (hb16.cell (p := ⟨w.heap.size, 0, none⟩) (by first | omega | (simp; done) | (simp; omega))).trans kx1_0_15
      have kx1_1_16 : w16.cell? ⟨w.heap.size, 1, none⟩ = some (.slice A11 n11 c11) := (hb16.cell (p := ⟨w.heap.size, 1, none⟩) (by first | omega | (simp; done) | (simp; omega))).trans kx1_1_15
      clear kx1_0_15 kx1_1_15
      have sz16 := hb16.size
      have hf21 := Fresh.keep hf17 hb16 (by first | omega | (simp; done) | (simp; omega))
      have hf22 := FreshL.same hf18 (.of_below hb16 (by first | omega | (simp; done) | (simp; omega)))
      have hf23 := Fresh.keep hf19 hb16 (by first | omega | (simp; done) | (simp; omega))
      have hf24 := Rep.keep hf20 hb16 (by first | omega | (simp; done) | (simp; omega))
      obtain ⟨FF3, fo3, fn3, fb3⟩ := hf23
      go_wp2_with fail
      refine Calls.mono (markFileS_any _ _ _ _ _ _ _ fo3 fn3 (by omega) (by omega)) ?_
      rintro e w17 ⟨rfl, fp3, hon3⟩
      have hb17 : Below w7.heap.size w16 w17 := hon3.below (fun z hz => (fb3 z hz).1) (by first | omega | (simp; done) | (simp; omega))
      have hf25 := Fresh.same hf21 (hon3.same (fun z hz => by have := fb3 z hz; omega) (by first | omega | (simp; done) | (simp; omega)))
      have hf26 := FreshL.same hf22 (hon3.same (fun z hz => by have := fb3 z hz; omega) (by first | omega | (simp; done) | (simp; omega)))
      have hf27 := (⟨FF3, fp3, fn3, fb3⟩ : Fresh w17 (w7.heap.size) (w8.heap.size) _ _)
      have hf28 := Rep.same hf24 (hon3.same (fun z hz => by have := fb3 z hz; omega) (by first | omega | (simp; done) | (simp; omega)))
      have kx1_0_17 : w17.cell? ⟨w.heap.size, 0, none⟩ = some (.string ⟨p1.path.toArray⟩) := (hb17.cell (p := ⟨w.heap.size, 0, none⟩) (by first | omega | (simp; done) | (simp; omega))).trans kx1_0_16
      have kx1_1_17 : w17.cell? ⟨w.heap.size, 1, none⟩ = some (.slice A11 n11 c11) := (hb17.cell (p := ⟨w.heap.size, 1, none⟩) (by first | omega | (simp; done) | (simp; omega))).trans kx1_1_16
      clear kx1_0_16 kx1_1_16
      have sz17 := hb17.size
      clear hon3 fo3 fp3 fn3 fb3
      go_wp2_with fail
      refine Calls.mono (heldFileS_any _ _ _ _ _ _ _ _ (Fresh.rep hf27) (by first | omega | (simp; done) | (simp; omega)) (by omega) (by omega)) ?_
      rintro e w18 ⟨rfl, hb18⟩
      have kx1_0_18 : w18.cell? ⟨w.heap.size, 0, none⟩ = some (.string ⟨p1.path.toArray⟩) := (hb18.cell (p := ⟨w.heap.size, 0, none⟩) (by first | omega | (simp; done) | (simp; omega))).trans kx1_0_17
      have kx1_1_18 : w18.cell? ⟨w.heap.size, 1, none⟩ = some (.slice A11 n11 c11) := (hb18.cell (p := ⟨w.heap.size, 1, none⟩) (by first | omega | (simp; done) | (simp; omega))).trans kx1_1_17
      clear kx1_0_17 kx1_1_17
      have sz18 := hb18.size
      go_wp2
      go_region_held3 (fun w' => w'.cell? ⟨w.heap.size, 0, none⟩ = some (.string ⟨p1.path.toArray⟩) ∧ w'.cell? ⟨w.heap.size, 1, none⟩ = some (.slice A11 n11 c11)) (first | trivial | exact ⟨cy0, cy1⟩ | exact ⟨cx0, cx1⟩ | exact ⟨cw0, cw1⟩ | go_keep) (first
        | (go_at_call 10; refine (impl_TreeSet_any _ _ _ _ _ _ _ p1 _ _ _ _ _ (Fresh.rep (Fresh.keep hfA hbB (Nat.le_refl _))) (FreshL.reps1 hfB) (Nat.le_trans (Nat.le_of_eq rfl) hbB.size) (Nat.le_refl _) (okTree_of ok0 hz_aT) (okFileS_of ok1 hz_aF)).mono ?_
           rintro e w21 ⟨Af31, nf31, cf31, rfl, hbC, hfC⟩
           have cy0 : w21.cell? ⟨w.heap.size, 0, none⟩ = some (.string ⟨p1.path.toArray⟩) := (hbC.cell (p := ⟨w.heap.size, 0, none⟩) (Nat.lt_of_lt_of_le (Nat.lt_of_lt_of_le (show w.heap.size < w18.heap.size by omega) hbA.size) hbB.size)).trans cx0
           have cy1 : w21.cell? ⟨w.heap.size, 1, none⟩ = some (.slice A11 n11 c11) := (hbC.cell (p := ⟨w.heap.size, 1, none⟩) (Nat.lt_of_lt_of_le (Nat.lt_of_lt_of_le (show w.heap.size < w18.heap.size by omega) hbA.size) hbB.size)).trans cx1)
        | (go_at_call 9; refine (toFile_any p1 _ _ _ _ 0 w.heap.size ((show Rep w18.drew _ _ _ (.slice A11 n11 c11) from ((h11.keep (((((((((((((((((hb1.trans (hb2.mono (by first | omega | (simp; done) | (simp; omega)))).trans (hb3.mono (by first | omega | (simp; done) | (simp; omega)))).trans (hb4.mono (by first | omega | (simp; done) | (simp; omega)))).trans (hb5.mono (by first | omega | (simp; done) | (simp; omega)))).trans (hb6.mono (by first | omega | (simp; done) | (simp; omega)))).trans (hb7.mono (by first | omega | (simp; done) | (simp; omega)))).trans (hb8.mono (by first | omega | (simp; done) | (simp; omega)))).trans (hb9.mono (by first | omega | (simp; done) | (simp; omega)))).trans (hb10.mono (by first | omega | (simp; done) | (simp; omega)))).trans (hb11.mono (by first | omega | (simp; done) | (simp; omega)))).trans (hb12.mono (by first | omega | (simp; done) | (simp; omega)))).trans (hb13.mono (by first | omega | (simp; done) | (simp; omega)))).trans (hb14.mono (by first | omega | (simp; done) | (simp; omega)))).trans (hb15.mono (by first | omega | (simp; done) | (simp; omega)))).trans (hb16.mono (by first | omega | (simp; done) | (simp; omega)))).trans (hb17.mono (by first | omega | (simp; done) | (simp; omega)))).trans (hb18.mono (by first | omega | (simp; done) | (simp; omega)))) (Nat.le_refl _))).drewN 1).keep hbA (show _ ≤ w18.heap.size by omega)) (Nat.le_trans (show _ ≤ w18.heap.size by omega) hbA.size) hz_aF_1).mono ?_
           rintro e w20 ⟨Af301, nf301, cf301, rfl, hbB, hfB⟩
           have cx0 : w20.cell? ⟨w.heap.size, 0, none⟩ = some (.string ⟨p1.path.toArray⟩) := (hbB.cell (p := ⟨w.heap.size, 0, none⟩) (Nat.lt_of_lt_of_le (show w.heap.size < w18.heap.size by omega) hbA.size)).trans cw0
           have cx1 : w20.cell? ⟨w.heap.size, 1, none⟩ = some (.slice A11 n11 c11) := (hbB.cell (p := ⟨w.heap.size, 1, none⟩) (Nat.lt_of_lt_of_le (show w.heap.size < w18.heap.size by omega) hbA.size)).trans cw1)
        | (go_at_call 8; refine (toFileS_any _ _ _ _ _ _ _ (show Rep w18.drew _ _ _ _ from Rep.drewN ((h0.keep (((((((((((((((((hb1.trans (hb2.mono (by first | omega | (simp; done) | (simp; omega)))).trans (hb3.mono (by first | omega | (simp; done) | (simp; omega)))).trans (hb4.mono (by first | omega | (simp; done) | (simp; omega)))).trans (hb5.mono (by first | omega | (simp; done) | (simp; omega)))).trans (hb6.mono (by first | omega | (simp; done) | (simp; omega)))).trans (hb7.mono (by first | omega | (simp; done) | (simp; omega)))).trans (hb8.mono (by first | omega | (simp; done) | (simp; omega)))).trans (hb9.mono (by first | omega | (simp; done) | (simp; omega)))).trans (hb10.mono (by first | omega | (simp; done) | (simp; omega)))).trans (hb11.mono (by first | omega | (simp; done) | (simp; omega)))).trans (hb12.mono (by first | omega | (simp; done) | (simp; omega)))).trans (hb13.mono (by first | omega | (simp; done) | (simp; omega)))).trans (hb14.mono (by first | omega | (simp; done) | (simp; omega)))).trans (hb15.mono (by first | omega | (simp; done) | (simp; omega)))).trans (hb16.mono (by first | omega | (simp; done) | (simp; omega)))).trans (hb17.mono (by first | omega | (simp; done) | (simp; omega)))).trans (hb18.mono (by first | omega | (simp; done) | (simp; omega)))) (Nat.le_refl _))) 1) (show _ ≤ w18.heap.size by omega) hz_aT).mono ?_
           rintro e w19 ⟨Af29, nf29, cf29, rfl, hbA, hfA⟩
           have cw0 : w19.cell? ⟨w.heap.size, 0, none⟩ = some (.string ⟨p1.path.toArray⟩) := (hbA.cell (p := ⟨w.heap.size, 0, none⟩) (show w.heap.size < w18.heap.size by omega)).trans kx1_0_18
           have cw1 : w19.cell? ⟨w.heap.size, 1, none⟩ = some (.slice A11 n11 c11) := (hbA.cell (p := ⟨w.heap.size, 1, none⟩) (show w.heap.size < w18.heap.size by omega)).trans kx1_1_18))
      have hb19 : Below w18.heap.size w18 w19 := ⟨hbA.os, hbA.tape, hbA.output, hbA.size, hbA.block⟩
      have sz19 := hb19.size
      have hb20 := hbB
      have sz20 := hb20.size
      have hb21 := hbC
      have sz21 := hb21.size
      have hf31 := hfC
      have kx1_0_21 := cy0
      have kx1_1_21 := cy1
      clear hbA hbB hbC hfA hfB hfC kx1_0_18 cy0 cx0 cw0 kx1_1_18 cy1 cx1 cw1
      go_wp2_with fail
      refine Calls.mono (eqFileS_any _ _ _ _ _ _ _ _ _ _ _ _ _ (Fresh.rep hf31) (hf28.keep (((hb18.trans (hb19.mono (by first | omega | (simp; done) | (simp; omega)))).trans (hb20.mono (by first | omega | (simp; done) | (simp; omega)))).trans (hb21.mono (by first | omega | (simp; done) | (simp; omega)))) (by first | omega | (simp; done) | (simp; omega))) (by first | omega | (simp; done) | (simp; omega)) (by first | omega | (simp; done) | (simp; omega))) ?_
      rintro e w22 ⟨rfl, hb22⟩
      have kx1_0_22 : w22.cell? ⟨w.heap.size, 0, none⟩ = some (.string ⟨p1.path.toArray⟩) := (hb22.cell (p := ⟨w.heap.size, 0, none⟩) (by first | omega | (simp; done) | (simp; omega))).trans kx1_0_21
      have kx1_1_22 : w22.cell? ⟨w.heap.size, 1, none⟩ = some (.slice A11 n11 c11) := (hb22.cell (p := ⟨w.heap.size, 1, none⟩) (by first | omega | (simp; done) | (simp; omega))).trans kx1_1_21
      clear kx1_0_21 kx1_1_21
      have sz22 := hb22.size
      go_wp2_with fail
      refine Calls.mono (heldFileS_any _ _ _ _ _ _ _ _ ((Fresh.rep hf27).keep ((((hb18.trans (hb19.mono (by first | omega | (simp; done) | (simp; omega)))).trans (hb20.mono (by first | omega | (simp; done) | (simp; omega)))).trans (hb21.mono (by first | omega | (simp; done) | (simp; omega)))).trans (hb22.mono (by first | omega | (simp; done) | (simp; omega)))) (by first | omega | (simp; done) | (simp; omega))) (by first | omega | (simp; done) | (simp; omega)) (by omega) (by omega)) ?_
      rintro e w23 ⟨rfl, hb23⟩
      have kx1_0_23 : w23.cell? ⟨w.heap.size, 0, none⟩ = some (.string ⟨p1.path.toArray⟩) := (hb23.cell (p := ⟨w.heap.size, 0, none⟩) (by first | omega | (simp; done) | (simp; omega))).trans kx1_0_22
      have kx1_1_23 : w23.cell? ⟨w.heap.size, 1, none⟩ = some (.slice A11 n11 c11) := (hb23.cell (p := ⟨w.heap.size, 1, none⟩) (by first | omega | (simp; done) | (simp; omega))).trans kx1_1_22
      clear kx1_0_22 kx1_1_22
      have sz23 := hb23.size
      go_wp2
      go_ret
      exact ⟨rfl, ((((((((((((((((((((((hb1.trans (hb2.mono (by first | omega | (simp; done) | (simp; omega)))).trans (hb3.mono (by first | omega | (simp; done) | (simp; omega)))).trans (hb4.mono (by first | omega | (simp; done) | (simp; omega)))).trans (hb5.mono (by first | omega | (simp; done) | (simp; omega)))).trans (hb6.mono (by first | omega | (simp; done) | (simp; omega)))).trans (hb7.mono (by first | omega | (simp; done) | (simp; omega)))).trans (hb8.mono (by first | omega | (simp; done) | (simp; omega)))).trans (hb9.mono (by first | omega | (simp; done) | (simp; omega)))).trans (hb10.mono (by first | omega | (simp; done) | (simp; omega)))).trans (hb11.mono (by first | omega | (simp; done) | (simp; omega)))).trans (hb12.mono (by first | omega | (simp; done) | (simp; omega)))).trans (hb13.mono (by first | omega | (simp; done) | (simp; omega)))).trans (hb14.mono (by first | omega | (simp; done) | (simp; omega)))).trans (hb15.mono (by first | omega | (simp; done) | (simp; omega)))).trans (hb16.mono (by first | omega | (simp; done) | (simp; omega)))).trans (hb17.mono (by first | omega | (simp; done) | (simp; omega)))).trans (hb18.mono (by first | omega | (simp; done) | (simp; omega)))).trans (hb19.mono (by first | omega | (simp; done) | (simp; omega)))).trans (hb20.mono (by first | omega | (simp; done) | (simp; omega)))).trans (hb21.mono (by first | omega | (simp; done) | (simp; omega)))).trans (hb22.mono (by first | omega | (simp; done) | (simp; omega)))).trans (hb23.mono (by first | omega | (simp; done) | (simp; omega))))⟩
end Go.Proofs.YthohgjehcagfeaaDoor
