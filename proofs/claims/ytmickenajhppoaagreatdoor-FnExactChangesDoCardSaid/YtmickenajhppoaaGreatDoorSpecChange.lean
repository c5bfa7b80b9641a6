import Derived.Test.YtmickenajhppoaaGreatDoorChange
import Derived.Test.YtmickenajhppoaaGreatDoorZ22
import Derived.Test.YtmickenajhppoaaGreatDoorZ09
import Derived.Test.YtmickenajhppoaaGreatDoorZ10
import Derived.Test.YtmickenajhppoaaGreatDoorHChange
/- Walks: a change that is ok: the reference's. Printed by wip/mk_change.py. -/
namespace Go.Proofs.YtmickenajhppoaaGreatDoor
open Go.RowKit


set_option maxRecDepth 100000 in
set_option maxHeartbeats 4000000 in
theorem spec_l5One_any (x : PChange) (A3 A4 : Option Addr) (n3 c3 n4 c4 : Nat) (w : World) (lo hi : Nat) (r3 : Rep w lo hi (encText x.text) (.slice A3 n3 c3)) (r4 : Rep w lo hi (encHunks x.patch) (.slice A4 n4 c4)) (hh : hi ≤ w.heap.size) (hp : x.path.length ≤ 1073741824) (hd : x.dest.length ≤ 1073741824) (hok0 : okChange x) :
    Calls Tryz.prog 43 #[.agg #[.int .i64 x.kind, .string ⟨x.path.toArray⟩, .string ⟨x.dest.toArray⟩, .slice A3 n3 c3, .slice A4 n4 c4]] w fun e w' => e = .returned (.bool (changeOk x)) ∧ Below w.heap.size w w' := by
  have l3 := Text.n r3
  have l4 := Hunks.n r4
  subst l3 l4
  obtain ⟨kind, path, dest, text, patch⟩ := x
  unfold okChange at hok0
  dsimp only at *
  have hpa := fun w' => spec_l4Path_any path w' hp
  have hpb := fun w' => spec_l4Path_any dest w' hd
  have hpt := fun w' (hb : Below w.heap.size w w') => spec_l1Ok_any A3 text.length c3 text w' lo hi (r3.keep hb hh) hok0.2.2.2.1
  have hpk := fun w' (hb : Below w.heap.size w w') => spec_l2Ok_any A4 patch.length c4 patch w' lo hi (r4.keep hb hh) hok0.2.2.2.2
  obtain ⟨ok, hok⟩ : ∃ ok, ok = changeOk ⟨kind, path, dest, text, patch⟩ := ⟨_, rfl⟩
  rw [← hok]
  unfold changeOk at hok
  dsimp only at hok
  obtain ⟨vp, hvp⟩ : ∃ v, v = pathOk path := ⟨_, rfl⟩
  obtain ⟨vd, hvd⟩ : ∃ v, v = pathOk dest := ⟨_, rfl⟩
  obtain ⟨vt, hvt⟩ : ∃ v, v = textOk text := ⟨_, rfl⟩
  obtain ⟨vk, hvk⟩ : ∃ v, v = patchOk patch := ⟨_, rfl⟩
  rw [← hvp, ← hvd, ← hvt, ← hvk] at hok
  simp only [← hvp] at hpa
  simp only [← hvd] at hpb
  simp only [← hvt] at hpt
  simp only [← hvk] at hpk
  have Hok := Lib.hid hok
  clear hok hvp hvd hvt hvk hok0
  by_cases k1 : kind = 1
  · subst k1
    by_cases d0 : dest = []
    · have d1 : dest.isEmpty = true := by simp [d0]
      have D0 := Lib.hid d0
      clear d0
      by_cases p0 : patch = []
      · have p1 : (patch.length : Int) = 0 := by simp [p0]
        have p2 : ¬ (0 < patch.length) := by simp [p0]
        have P0 := Lib.hid p0
        clear p0
        go_enter Tryz.func43, Tryz.ntmps43
        go_wp2_with fail
        refine Calls.mono (hpa _) ?_
        rintro e w1 ⟨rfl, hb1⟩
        have b1 : Below w.heap.size w w1 := Below.trans (by (repeat' (first | with_reducible exact Below.refl _ _ | with_reducible assumption | (with_reducible refine Below.setCell ?_ ?_ _) | (with_reducible refine Below.alloc ?_ ?_ _) | (with_reducible refine below_drewN ?_ _) | (with_reducible refine Below.drew ?_) | omega | (simp; done) | (simp; omega)))) (hb1.mono (by simp))
        have s1 : w.heap.size < w1.heap.size := by have := hb1.size; simp at this; omega
        have q1_0 : w1.cell? ⟨w.heap.size, 0, none⟩ = some (.int .i64 1) := by rw [hb1.cell (by simp)]; go_simp
        have q1_1 : w1.cell? ⟨w.heap.size, 1, none⟩ = some (.string ⟨path.toArray⟩) := by rw [hb1.cell (by simp)]; go_simp
        have q1_2 : w1.cell? ⟨w.heap.size, 2, none⟩ = some (.string ⟨dest.toArray⟩) := by rw [hb1.cell (by simp)]; go_simp
        have q1_3 : w1.cell? ⟨w.heap.size, 3, none⟩ = some (.slice A3 text.length c3) := by rw [hb1.cell (by simp)]; go_simp
        have q1_4 : w1.cell? ⟨w.heap.size, 4, none⟩ = some (.slice A4 patch.length c4) := by rw [hb1.cell (by simp)]; go_simp
        clear hb1
        cases vp
        · go_wp2
          go_ret
          exact ⟨by rw [Hok.out]; have d0 := D0.out; have p0 := P0.out; simp [*], b1⟩
        · go_wp2_with (refine Calls.mono (hpt _ b1) ?_
                       rintro e w2 ⟨rfl, rfl⟩
                       skip)
          all_goals
            go_wp2
            go_ret
            first
              | exact ⟨by rw [Hok.out]; have d0 := D0.out; have p0 := P0.out; simp [*], b2⟩
              | exact ⟨by rw [Hok.out]; have d0 := D0.out; have p0 := P0.out; simp [*], b1⟩
      · have p1 : ¬ ((patch.length : Int) = 0) := by simpa using p0
        have p2 : 0 < patch.length := List.length_pos_iff.2 p0
        have P0 := Lib.hid p0
        clear p0
        go_enter Tryz.func43, Tryz.ntmps43
        go_wp2_with fail
        refine Calls.mono (hpa _) ?_
        rintro e w1 ⟨rfl, hb1⟩
        have b1 : Below w.heap.size w w1 := Below.trans (by (repeat' (first | with_reducible exact Below.refl _ _ | with_reducible assumption | (with_reducible refine Below.setCell ?_ ?_ _) | (with_reducible refine Below.alloc ?_ ?_ _) | (with_reducible refine below_drewN ?_ _) | (with_reducible refine Below.drew ?_) | omega | (simp; done) | (simp; omega)))) (hb1.mono (by simp))
        have s1 : w.heap.size < w1.heap.size := by have := hb1.size; simp at this; omega
        have q1_0 : w1.cell? ⟨w.heap.size, 0, none⟩ = some (.int .i64 1) := by rw [hb1.cell (by simp)]; go_simp
        have q1_1 : w1.cell? ⟨w.heap.size, 1, none⟩ = some (.string ⟨path.toArray⟩) := by rw [hb1.cell (by simp)]; go_simp
        have q1_2 : w1.cell? ⟨w.heap.size, 2, none⟩ = some (.string ⟨dest.toArray⟩) := by rw [hb1.cell (by simp)]; go_simp
        have q1_3 : w1.cell? ⟨w.heap.size, 3, none⟩ = some (.slice A3 text.length c3) := by rw [hb1.cell (by simp)]; go_simp
        have q1_4 : w1.cell? ⟨w.heap.size, 4, none⟩ = some (.slice A4 patch.length c4) := by rw [hb1.cell (by simp)]; go_simp
        clear hb1
        cases vp
        · go_wp2
          go_ret
          exact ⟨by rw [Hok.out]; have d0 := D0.out; have p0 := P0.out; simp [*], b1⟩
        · go_wp2_with (refine Calls.mono (hpt _ b1) ?_
                       rintro e w2 ⟨rfl, rfl⟩
                       skip)
          all_goals
            go_wp2
            go_ret
            first
              | exact ⟨by rw [Hok.out]; have d0 := D0.out; have p0 := P0.out; simp [*], b2⟩
              | exact ⟨by rw [Hok.out]; have d0 := D0.out; have p0 := P0.out; simp [*], b1⟩
    · have d1 : dest.isEmpty = false := by simp [d0]
      have D0 := Lib.hid d0
      clear d0
      by_cases p0 : patch = []
      · have p1 : (patch.length : Int) = 0 := by simp [p0]
        have p2 : ¬ (0 < patch.length) := by simp [p0]
        have P0 := Lib.hid p0
        clear p0
        go_enter Tryz.func43, Tryz.ntmps43
        go_wp2_with fail
        refine Calls.mono (hpa _) ?_
        rintro e w1 ⟨rfl, hb1⟩
        have b1 : Below w.heap.size w w1 := Below.trans (by (repeat' (first | with_reducible exact Below.refl _ _ | with_reducible assumption | (with_reducible refine Below.setCell ?_ ?_ _) | (with_reducible refine Below.alloc ?_ ?_ _) | (with_reducible refine below_drewN ?_ _) | (with_reducible refine Below.drew ?_) | omega | (simp; done) | (simp; omega)))) (hb1.mono (by simp))
        have s1 : w.heap.size < w1.heap.size := by have := hb1.size; simp at this; omega
        have q1_0 : w1.cell? ⟨w.heap.size, 0, none⟩ = some (.int .i64 1) := by rw [hb1.cell (by simp)]; go_simp
        have q1_1 : w1.cell? ⟨w.heap.size, 1, none⟩ = some (.string ⟨path.toArray⟩) := by rw [hb1.cell (by simp)]; go_simp
        have q1_2 : w1.cell? ⟨w.heap.size, 2, none⟩ = some (.string ⟨dest.toArray⟩) := by rw [hb1.cell (by simp)]; go_simp
        have q1_3 : w1.cell? ⟨w.heap.size, 3, none⟩ = some (.slice A3 text.length c3) := by rw [hb1.cell (by simp)]; go_simp
        have q1_4 : w1.cell? ⟨w.heap.size, 4, none⟩ = some (.slice A4 patch.length c4) := by rw [hb1.cell (by simp)]; go_simp
        clear hb1
        cases vp
        · go_wp2
          go_ret
          exact ⟨by rw [Hok.out]; have d0 := D0.out; have p0 := P0.out; simp [*], b1⟩
        · go_wp2_with (refine Calls.mono (hpt _ b1) ?_
                       rintro e w2 ⟨rfl, rfl⟩
                       skip)
          all_goals
            go_wp2
            go_ret
            first
              | exact ⟨by rw [Hok.out]; have d0 := D0.out; have p0 := P0.out; simp [*], b2⟩
              | exact ⟨by rw [Hok.out]; have d0 := D0.out; have p0 := P0.out; simp [*], b1⟩
      · have p1 : ¬ ((patch.length : Int) = 0) := by simpa using p0
        have p2 : 0 < patch.length := List.length_pos_iff.2 p0
        have P0 := Lib.hid p0
        clear p0
        go_enter Tryz.func43, Tryz.ntmps43
        go_wp2_with fail
        refine Calls.mono (hpa _) ?_
        rintro e w1 ⟨rfl, hb1⟩
        have b1 : Below w.heap.size w w1 := Below.trans (by (repeat' (first | with_reducible exact Below.refl _ _ | with_reducible assumption | (with_reducible refine Below.setCell ?_ ?_ _) | (with_reducible refine Below.alloc ?_ ?_ _) | (with_reducible refine below_drewN ?_ _) | (with_reducible refine Below.drew ?_) | omega | (simp; done) | (simp; omega)))) (hb1.mono (by simp))
        have s1 : w.heap.size < w1.heap.size := by have := hb1.size; simp at this; omega
        have q1_0 : w1.cell? ⟨w.heap.size, 0, none⟩ = some (.int .i64 1) := by rw [hb1.cell (by simp)]; go_simp
        have q1_1 : w1.cell? ⟨w.heap.size, 1, none⟩ = some (.string ⟨path.toArray⟩) := by rw [hb1.cell (by simp)]; go_simp
        have q1_2 : w1.cell? ⟨w.heap.size, 2, none⟩ = some (.string ⟨dest.toArray⟩) := by rw [hb1.cell (by simp)]; go_simp
        have q1_3 : w1.cell? ⟨w.heap.size, 3, none⟩ = some (.slice A3 text.length c3) := by rw [hb1.cell (by simp)]; go_simp
        have q1_4 : w1.cell? ⟨w.heap.size, 4, none⟩ = some (.slice A4 patch.length c4) := by rw [hb1.cell (by simp)]; go_simp
        clear hb1
        cases vp
        · go_wp2
          go_ret
          exact ⟨by rw [Hok.out]; have d0 := D0.out; have p0 := P0.out; simp [*], b1⟩
        · go_wp2_with (refine Calls.mono (hpt _ b1) ?_
                       rintro e w2 ⟨rfl, rfl⟩
                       skip)
          all_goals
            go_wp2
            go_ret
            first
              | exact ⟨by rw [Hok.out]; have d0 := D0.out; have p0 := P0.out; simp [*], b2⟩
              | exact ⟨by rw [Hok.out]; have d0 := D0.out; have p0 := P0.out; simp [*], b1⟩
  · by_cases k2 : kind = 2
    · subst k2
      by_cases d0 : dest = []
      · have d1 : dest.isEmpty = true := by simp [d0]
        have D0 := Lib.hid d0
        clear d0
        by_cases p0 : patch = []
        · have p1 : (patch.length : Int) = 0 := by simp [p0]
          have p2 : ¬ (0 < patch.length) := by simp [p0]
          have P0 := Lib.hid p0
          clear p0
          go_enter Tryz.func43, Tryz.ntmps43
          go_wp2_with fail
          refine Calls.mono (hpa _) ?_
          rintro e w1 ⟨rfl, hb1⟩
          have b1 : Below w.heap.size w w1 := Below.trans (by (repeat' (first | with_reducible exact Below.refl _ _ | with_reducible assumption | (with_reducible refine Below.setCell ?_ ?_ _) | (with_reducible refine Below.alloc ?_ ?_ _) | (with_reducible refine below_drewN ?_ _) | (with_reducible refine Below.drew ?_) | omega | (simp; done) | (simp; omega)))) (hb1.mono (by simp))
          have s1 : w.heap.size < w1.heap.size := by have := hb1.size; simp at this; omega
          have q1_0 : w1.cell? ⟨w.heap.size, 0, none⟩ = some (.int .i64 2) := by rw [hb1.cell (by simp)]; go_simp
          have q1_1 : w1.cell? ⟨w.heap.size, 1, none⟩ = some (.string ⟨path.toArray⟩) := by rw [hb1.cell (by simp)]; go_simp
          have q1_2 : w1.cell? ⟨w.heap.size, 2, none⟩ = some (.string ⟨dest.toArray⟩) := by rw [hb1.cell (by simp)]; go_simp
          have q1_3 : w1.cell? ⟨w.heap.size, 3, none⟩ = some (.slice A3 text.length c3) := by rw [hb1.cell (by simp)]; go_simp
          have q1_4 : w1.cell? ⟨w.heap.size, 4, none⟩ = some (.slice A4 patch.length c4) := by rw [hb1.cell (by simp)]; go_simp
          clear hb1
          cases vp
          · go_wp2
            go_ret
            exact ⟨by rw [Hok.out]; have d0 := D0.out; have p0 := P0.out; simp [*], b1⟩
          · go_wp2_with (refine Calls.mono (hpt _ b1) ?_
                         rintro e w2 ⟨rfl, rfl⟩
                         skip)
            all_goals
              go_wp2
              go_ret
              first
                | exact ⟨by rw [Hok.out]; have d0 := D0.out; have p0 := P0.out; simp [*], b2⟩
                | exact ⟨by rw [Hok.out]; have d0 := D0.out; have p0 := P0.out; simp [*], b1⟩
        · have p1 : ¬ ((patch.length : Int) = 0) := by simpa using p0
          have p2 : 0 < patch.length := List.length_pos_iff.2 p0
          have P0 := Lib.hid p0
          clear p0
          go_enter Tryz.func43, Tryz.ntmps43
          go_wp2_with fail
          refine Calls.mono (hpa _) ?_
          rintro e w1 ⟨rfl, hb1⟩
          have b1 : Below w.heap.size w w1 := Below.trans (by (repeat' (first | with_reducible exact Below.refl _ _ | with_reducible assumption | (with_reducible refine Below.setCell ?_ ?_ _) | (with_reducible refine Below.alloc ?_ ?_ _) | (with_reducible refine below_drewN ?_ _) | (with_reducible refine Below.drew ?_) | omega | (simp; done) | (simp; omega)))) (hb1.mono (by simp))
          have s1 : w.heap.size < w1.heap.size := by have := hb1.size; simp at this; omega
          have q1_0 : w1.cell? ⟨w.heap.size, 0, none⟩ = some (.int .i64 2) := by rw [hb1.cell (by simp)]; go_simp
          have q1_1 : w1.cell? ⟨w.heap.size, 1, none⟩ = some (.string ⟨path.toArray⟩) := by rw [hb1.cell (by simp)]; go_simp
          have q1_2 : w1.cell? ⟨w.heap.size, 2, none⟩ = some (.string ⟨dest.toArray⟩) := by rw [hb1.cell (by simp)]; go_simp
          have q1_3 : w1.cell? ⟨w.heap.size, 3, none⟩ = some (.slice A3 text.length c3) := by rw [hb1.cell (by simp)]; go_simp
          have q1_4 : w1.cell? ⟨w.heap.size, 4, none⟩ = some (.slice A4 patch.length c4) := by rw [hb1.cell (by simp)]; go_simp
          clear hb1
          cases vp
          · go_wp2
            go_ret
            exact ⟨by rw [Hok.out]; have d0 := D0.out; have p0 := P0.out; simp [*], b1⟩
          · go_wp2_with (refine Calls.mono (hpt _ b1) ?_
                         rintro e w2 ⟨rfl, rfl⟩
                         skip)
            all_goals
              go_wp2
              go_ret
              first
                | exact ⟨by rw [Hok.out]; have d0 := D0.out; have p0 := P0.out; simp [*], b2⟩
                | exact ⟨by rw [Hok.out]; have d0 := D0.out; have p0 := P0.out; simp [*], b1⟩
      · have d1 : dest.isEmpty = false := by simp [d0]
        have D0 := Lib.hid d0
        clear d0
        by_cases p0 : patch = []
        · have p1 : (patch.length : Int) = 0 := by simp [p0]
          have p2 : ¬ (0 < patch.length) := by simp [p0]
          have P0 := Lib.hid p0
          clear p0
          go_enter Tryz.func43, Tryz.ntmps43
          go_wp2_with fail
          refine Calls.mono (hpa _) ?_
          rintro e w1 ⟨rfl, hb1⟩
          have b1 : Below w.heap.size w w1 := Below.trans (by (repeat' (first | with_reducible exact Below.refl _ _ | with_reducible assumption | (with_reducible refine Below.setCell ?_ ?_ _) | (with_reducible refine Below.alloc ?_ ?_ _) | (with_reducible refine below_drewN ?_ _) | (with_reducible refine Below.drew ?_) | omega | (simp; done) | (simp; omega)))) (hb1.mono (by simp))
          have s1 : w.heap.size < w1.heap.size := by have := hb1.size; simp at this; omega
          have q1_0 : w1.cell? ⟨w.heap.size, 0, none⟩ = some (.int .i64 2) := by rw [hb1.cell (by simp)]; go_simp
          have q1_1 : w1.cell? ⟨w.heap.size, 1, none⟩ = some (.string ⟨path.toArray⟩) := by rw [hb1.cell (by simp)]; go_simp
          have q1_2 : w1.cell? ⟨w.heap.size, 2, none⟩ = some (.string ⟨dest.toArray⟩) := by rw [hb1.cell (by simp)]; go_simp
          have q1_3 : w1.cell? ⟨w.heap.size, 3, none⟩ = some (.slice A3 text.length c3) := by rw [hb1.cell (by simp)]; go_simp
          have q1_4 : w1.cell? ⟨w.heap.size, 4, none⟩ = some (.slice A4 patch.length c4) := by rw [hb1.cell (by simp)]; go_simp
          clear hb1
          cases vp
          · go_wp2
            go_ret
            exact ⟨by rw [Hok.out]; have d0 := D0.out; have p0 := P0.out; simp [*], b1⟩
          · go_wp2_with (refine Calls.mono (hpt _ b1) ?_
                         rintro e w2 ⟨rfl, rfl⟩
                         skip)
            all_goals
              go_wp2
              go_ret
              first
                | exact ⟨by rw [Hok.out]; have d0 := D0.out; have p0 := P0.out; simp [*], b2⟩
                | exact ⟨by rw [Hok.out]; have d0 := D0.out; have p0 := P0.out; simp [*], b1⟩
        · have p1 : ¬ ((patch.length : Int) = 0) := by simpa using p0
          have p2 : 0 < patch.length := List.length_pos_iff.2 p0
          have P0 := Lib.hid p0
          clear p0
          go_enter Tryz.func43, Tryz.ntmps43
          go_wp2_with fail
          refine Calls.mono (hpa _) ?_
          rintro e w1 ⟨rfl, hb1⟩
          have b1 : Below w.heap.size w w1 := Below.trans (by (repeat' (first | with_reducible exact Below.refl _ _ | with_reducible assumption | (with_reducible refine Below.setCell ?_ ?_ _) | (with_reducible refine Below.alloc ?_ ?_ _) | (with_reducible refine below_drewN ?_ _) | (with_reducible refine Below.drew ?_) | omega | (simp; done) | (simp; omega)))) (hb1.mono (by simp))
          have s1 : w.heap.size < w1.heap.size := by have := hb1.size; simp at this; omega
          have q1_0 : w1.cell? ⟨w.heap.size, 0, none⟩ = some (.int .i64 2) := by rw [hb1.cell (by simp)]; go_simp
          have q1_1 : w1.cell? ⟨w.heap.size, 1, none⟩ = some (.string ⟨path.toArray⟩) := by rw [hb1.cell (by simp)]; go_simp
          have q1_2 : w1.cell? ⟨w.heap.size, 2, none⟩ = some (.string ⟨dest.toArray⟩) := by rw [hb1.cell (by simp)]; go_simp
          have q1_3 : w1.cell? ⟨w.heap.size, 3, none⟩ = some (.slice A3 text.length c3) := by rw [hb1.cell (by simp)]; go_simp
          have q1_4 : w1.cell? ⟨w.heap.size, 4, none⟩ = some (.slice A4 patch.length c4) := by rw [hb1.cell (by simp)]; go_simp
          clear hb1
          cases vp
          · go_wp2
            go_ret
            exact ⟨by rw [Hok.out]; have d0 := D0.out; have p0 := P0.out; simp [*], b1⟩
          · go_wp2_with (refine Calls.mono (hpt _ b1) ?_
                         rintro e w2 ⟨rfl, rfl⟩
                         skip)
            all_goals
              go_wp2
              go_ret
              first
                | exact ⟨by rw [Hok.out]; have d0 := D0.out; have p0 := P0.out; simp [*], b2⟩
                | exact ⟨by rw [Hok.out]; have d0 := D0.out; have p0 := P0.out; simp [*], b1⟩
    · by_cases k3 : kind = 3
      · subst k3
        by_cases t0 : text = []
        · have t1 : (text.length : Int) = 0 := by simp [t0]
          have T0 := Lib.hid t0
          clear t0
          by_cases d0 : dest = []
          · have d1 : dest.isEmpty = true := by simp [d0]
            have D0 := Lib.hid d0
            clear d0
            by_cases p0 : patch = []
            · have p1 : (patch.length : Int) = 0 := by simp [p0]
              have p2 : ¬ (0 < patch.length) := by simp [p0]
              have P0 := Lib.hid p0
              clear p0
              go_enter Tryz.func43, Tryz.ntmps43
              go_wp2_with fail
              refine Calls.mono (hpa _) ?_
              rintro e w1 ⟨rfl, hb1⟩
              have b1 : Below w.heap.size w w1 := Below.trans (by (repeat' (first | with_reducible exact Below.refl _ _ | with_reducible assumption | (with_reducible refine Below.setCell ?_ ?_ _) | (with_reducible refine Below.alloc ?_ ?_ _) | (with_reducible refine below_drewN ?_ _) | (with_reducible refine Below.drew ?_) | omega | (simp; done) | (simp; omega)))) (hb1.mono (by simp))
              have s1 : w.heap.size < w1.heap.size := by have := hb1.size; simp at this; omega
              have q1_0 : w1.cell? ⟨w.heap.size, 0, none⟩ = some (.int .i64 3) := by rw [hb1.cell (by simp)]; go_simp
              have q1_1 : w1.cell? ⟨w.heap.size, 1, none⟩ = some (.string ⟨path.toArray⟩) := by rw [hb1.cell (by simp)]; go_simp
              have q1_2 : w1.cell? ⟨w.heap.size, 2, none⟩ = some (.string ⟨dest.toArray⟩) := by rw [hb1.cell (by simp)]; go_simp
              have q1_3 : w1.cell? ⟨w.heap.size, 3, none⟩ = some (.slice A3 text.length c3) := by rw [hb1.cell (by simp)]; go_simp
              have q1_4 : w1.cell? ⟨w.heap.size, 4, none⟩ = some (.slice A4 patch.length c4) := by rw [hb1.cell (by simp)]; go_simp
              clear hb1
              cases vp
              · go_wp2
                go_ret
                exact ⟨by rw [Hok.out]; have t0 := T0.out; have d0 := D0.out; have p0 := P0.out; simp [*], b1⟩
              · go_wp2_with (refine Calls.mono (hpk _ b1) ?_
                             rintro e w2 ⟨rfl, m, rfl⟩
                             have b2 : Below w.heap.size w (w1.drewN m) := below_drewN b1 _
                             skip)
                all_goals
                  go_wp2
                  go_ret
                  first
                    | exact ⟨by rw [Hok.out]; have t0 := T0.out; have d0 := D0.out; have p0 := P0.out; simp [*], b2⟩
                    | exact ⟨by rw [Hok.out]; have t0 := T0.out; have d0 := D0.out; have p0 := P0.out; simp [*], b1⟩
            · have p1 : ¬ ((patch.length : Int) = 0) := by simpa using p0
              have p2 : 0 < patch.length := List.length_pos_iff.2 p0
              have P0 := Lib.hid p0
              clear p0
              go_enter Tryz.func43, Tryz.ntmps43
              go_wp2_with fail
              refine Calls.mono (hpa _) ?_
              rintro e w1 ⟨rfl, hb1⟩
              have b1 : Below w.heap.size w w1 := Below.trans (by (repeat' (first | with_reducible exact Below.refl _ _ | with_reducible assumption | (with_reducible refine Below.setCell ?_ ?_ _) | (with_reducible refine Below.alloc ?_ ?_ _) | (with_reducible refine below_drewN ?_ _) | (with_reducible refine Below.drew ?_) | omega | (simp; done) | (simp; omega)))) (hb1.mono (by simp))
              have s1 : w.heap.size < w1.heap.size := by have := hb1.size; simp at this; omega
              have q1_0 : w1.cell? ⟨w.heap.size, 0, none⟩ = some (.int .i64 3) := by rw [hb1.cell (by simp)]; go_simp
              have q1_1 : w1.cell? ⟨w.heap.size, 1, none⟩ = some (.string ⟨path.toArray⟩) := by rw [hb1.cell (by simp)]; go_simp
              have q1_2 : w1.cell? ⟨w.heap.size, 2, none⟩ = some (.string ⟨dest.toArray⟩) := by rw [hb1.cell (by simp)]; go_simp
              have q1_3 : w1.cell? ⟨w.heap.size, 3, none⟩ = some (.slice A3 text.length c3) := by rw [hb1.cell (by simp)]; go_simp
              have q1_4 : w1.cell? ⟨w.heap.size, 4, none⟩ = some (.slice A4 patch.length c4) := by rw [hb1.cell (by simp)]; go_simp
              clear hb1
              cases vp
              · go_wp2
                go_ret
                exact ⟨by rw [Hok.out]; have t0 := T0.out; have d0 := D0.out; have p0 := P0.out; simp [*], b1⟩
              · go_wp2_with (refine Calls.mono (hpk _ b1) ?_
                             rintro e w2 ⟨rfl, m, rfl⟩
                             have b2 : Below w.heap.size w (w1.drewN m) := below_drewN b1 _
                             skip)
                all_goals
                  go_wp2
                  go_ret
                  first
                    | exact ⟨by rw [Hok.out]; have t0 := T0.out; have d0 := D0.out; have p0 := P0.out; simp [*], b2⟩
                    | exact ⟨by rw [Hok.out]; have t0 := T0.out; have d0 := D0.out; have p0 := P0.out; simp [*], b1⟩
          · have d1 : dest.isEmpty = false := by simp [d0]
            have D0 := Lib.hid d0
            clear d0
            by_cases p0 : patch = []
            · have p1 : (patch.length : Int) = 0 := by simp [p0]
              have p2 : ¬ (0 < patch.length) := by simp [p0]
              have P0 := Lib.hid p0
              clear p0
              go_enter Tryz.func43, Tryz.ntmps43
              go_wp2_with fail
              refine Calls.mono (hpa _) ?_
              rintro e w1 ⟨rfl, hb1⟩
              have b1 : Below w.heap.size w w1 := Below.trans (by (repeat' (first | with_reducible exact Below.refl _ _ | with_reducible assumption | (with_reducible refine Below.setCell ?_ ?_ _) | (with_reducible refine Below.alloc ?_ ?_ _) | (with_reducible refine below_drewN ?_ _) | (with_reducible refine Below.drew ?_) | omega | (simp; done) | (simp; omega)))) (hb1.mono (by simp))
              have s1 : w.heap.size < w1.heap.size := by have := hb1.size; simp at this; omega
              have q1_0 : w1.cell? ⟨w.heap.size, 0, none⟩ = some (.int .i64 3) := by rw [hb1.cell (by simp)]; go_simp
              have q1_1 : w1.cell? ⟨w.heap.size, 1, none⟩ = some (.string ⟨path.toArray⟩) := by rw [hb1.cell (by simp)]; go_simp
              have q1_2 : w1.cell? ⟨w.heap.size, 2, none⟩ = some (.string ⟨dest.toArray⟩) := by rw [hb1.cell (by simp)]; go_simp
              have q1_3 : w1.cell? ⟨w.heap.size, 3, none⟩ = some (.slice A3 text.length c3) := by rw [hb1.cell (by simp)]; go_simp
              have q1_4 : w1.cell? ⟨w.heap.size, 4, none⟩ = some (.slice A4 patch.length c4) := by rw [hb1.cell (by simp)]; go_simp
              clear hb1
              cases vp
              · go_wp2
                go_ret
                exact ⟨by rw [Hok.out]; have t0 := T0.out; have d0 := D0.out; have p0 := P0.out; simp [*], b1⟩
              · go_wp2_with (refine Calls.mono (hpk _ b1) ?_
                             rintro e w2 ⟨rfl, m, rfl⟩
                             have b2 : Below w.heap.size w (w1.drewN m) := below_drewN b1 _
                             skip)
                all_goals
                  go_wp2
                  go_ret
                  first
                    | exact ⟨by rw [Hok.out]; have t0 := T0.out; have d0 := D0.out; have p0 := P0.out; simp [*], b2⟩
                    | exact ⟨by rw [Hok.out]; have t0 := T0.out; have d0 := D0.out; have p0 := P0.out; simp [*], b1⟩
            · have p1 : ¬ ((patch.length : Int) = 0) := by simpa using p0
              have p2 : 0 < patch.length := List.length_pos_iff.2 p0
              have P0 := Lib.hid p0
              clear p0
              go_enter Tryz.func43, Tryz.ntmps43
              go_wp2_with fail
              refine Calls.mono (hpa _) ?_
              rintro e w1 ⟨rfl, hb1⟩
              have b1 : Below w.heap.size w w1 := Below.trans (by (repeat' (first | with_reducible exact Below.refl _ _ | with_reducible assumption | (with_reducible refine Below.setCell ?_ ?_ _) | (with_reducible refine Below.alloc ?_ ?_ _) | (with_reducible refine below_drewN ?_ _) | (with_reducible refine Below.drew ?_) | omega | (simp; done) | (simp; omega)))) (hb1.mono (by simp))
              have s1 : w.heap.size < w1.heap.size := by have := hb1.size; simp at this; omega
              have q1_0 : w1.cell? ⟨w.heap.size, 0, none⟩ = some (.int .i64 3) := by rw [hb1.cell (by simp)]; go_simp
              have q1_1 : w1.cell? ⟨w.heap.size, 1, none⟩ = some (.string ⟨path.toArray⟩) := by rw [hb1.cell (by simp)]; go_simp
              have q1_2 : w1.cell? ⟨w.heap.size, 2, none⟩ = some (.string ⟨dest.toArray⟩) := by rw [hb1.cell (by simp)]; go_simp
              have q1_3 : w1.cell? ⟨w.heap.size, 3, none⟩ = some (.slice A3 text.length c3) := by rw [hb1.cell (by simp)]; go_simp
              have q1_4 : w1.cell? ⟨w.heap.size, 4, none⟩ = some (.slice A4 patch.length c4) := by rw [hb1.cell (by simp)]; go_simp
              clear hb1
              cases vp
              · go_wp2
                go_ret
                exact ⟨by rw [Hok.out]; have t0 := T0.out; have d0 := D0.out; have p0 := P0.out; simp [*], b1⟩
              · go_wp2_with (refine Calls.mono (hpk _ b1) ?_
                             rintro e w2 ⟨rfl, m, rfl⟩
                             have b2 : Below w.heap.size w (w1.drewN m) := below_drewN b1 _
                             skip)
                all_goals
                  go_wp2
                  go_ret
                  first
                    | exact ⟨by rw [Hok.out]; have t0 := T0.out; have d0 := D0.out; have p0 := P0.out; simp [*], b2⟩
                    | exact ⟨by rw [Hok.out]; have t0 := T0.out; have d0 := D0.out; have p0 := P0.out; simp [*], b1⟩
        · have t1 : ¬ ((text.length : Int) = 0) := by simpa using t0
          have T0 := Lib.hid t0
          clear t0
          by_cases d0 : dest = []
          · have d1 : dest.isEmpty = true := by simp [d0]
            have D0 := Lib.hid d0
            clear d0
            by_cases p0 : patch = []
            · have p1 : (patch.length : Int) = 0 := by simp [p0]
              have p2 : ¬ (0 < patch.length) := by simp [p0]
              have P0 := Lib.hid p0
              clear p0
              go_enter Tryz.func43, Tryz.ntmps43
              go_wp2_with fail
              refine Calls.mono (hpa _) ?_
              rintro e w1 ⟨rfl, hb1⟩
              have b1 : Below w.heap.size w w1 := Below.trans (by (repeat' (first | with_reducible exact Below.refl _ _ | with_reducible assumption | (with_reducible refine Below.setCell ?_ ?_ _) | (with_reducible refine Below.alloc ?_ ?_ _) | (with_reducible refine below_drewN ?_ _) | (with_reducible refine Below.drew ?_) | omega | (simp; done) | (simp; omega)))) (hb1.mono (by simp))
              have s1 : w.heap.size < w1.heap.size := by have := hb1.size; simp at this; omega
              have q1_0 : w1.cell? ⟨w.heap.size, 0, none⟩ = some (.int .i64 3) := by rw [hb1.cell (by simp)]; go_simp
              have q1_1 : w1.cell? ⟨w.heap.size, 1, none⟩ = some (.string ⟨path.toArray⟩) := by rw [hb1.cell (by simp)]; go_simp
              have q1_2 : w1.cell? ⟨w.heap.size, 2, none⟩ = some (.string ⟨dest.toArray⟩) := by rw [hb1.cell (by simp)]; go_simp
              have q1_3 : w1.cell? ⟨w.heap.size, 3, none⟩ = some (.slice A3 text.length c3) := by rw [hb1.cell (by simp)]; go_simp
              have q1_4 : w1.cell? ⟨w.heap.size, 4, none⟩ = some (.slice A4 patch.length c4) := by rw [hb1.cell (by simp)]; go_simp
              clear hb1
              cases vp
              · go_wp2
                go_ret
                exact ⟨by rw [Hok.out]; have t0 := T0.out; have d0 := D0.out; have p0 := P0.out; simp [*], b1⟩
              · go_wp2_with (refine Calls.mono (hpk _ b1) ?_
                             rintro e w2 ⟨rfl, m, rfl⟩
                             have b2 : Below w.heap.size w (w1.drewN m) := below_drewN b1 _
                             skip)
                all_goals
                  go_wp2
                  go_ret
                  first
                    | exact ⟨by rw [Hok.out]; have t0 := T0.out; have d0 := D0.out; have p0 := P0.out; simp [*], b2⟩
                    | exact ⟨by rw [Hok.out]; have t0 := T0.out; have d0 := D0.out; have p0 := P0.out; simp [*], b1⟩
            · have p1 : ¬ ((patch.length : Int) = 0) := by simpa using p0
              have p2 : 0 < patch.length := List.length_pos_iff.2 p0
              have P0 := Lib.hid p0
              clear p0
              go_enter Tryz.func43, Tryz.ntmps43
              go_wp2_with fail
              refine Calls.mono (hpa _) ?_
              rintro e w1 ⟨rfl, hb1⟩
              have b1 : Below w.heap.size w w1 := Below.trans (by (repeat' (first | with_reducible exact Below.refl _ _ | with_reducible assumption | (with_reducible refine Below.setCell ?_ ?_ _) | (with_reducible refine Below.alloc ?_ ?_ _) | (with_reducible refine below_drewN ?_ _) | (with_reducible refine Below.drew ?_) | omega | (simp; done) | (simp; omega)))) (hb1.mono (by simp))
              have s1 : w.heap.size < w1.heap.size := by have := hb1.size; simp at this; omega
              have q1_0 : w1.cell? ⟨w.heap.size, 0, none⟩ = some (.int .i64 3) := by rw [hb1.cell (by simp)]; go_simp
              have q1_1 : w1.cell? ⟨w.heap.size, 1, none⟩ = some (.string ⟨path.toArray⟩) := by rw [hb1.cell (by simp)]; go_simp
              have q1_2 : w1.cell? ⟨w.heap.size, 2, none⟩ = some (.string ⟨dest.toArray⟩) := by rw [hb1.cell (by simp)]; go_simp
              have q1_3 : w1.cell? ⟨w.heap.size, 3, none⟩ = some (.slice A3 text.length c3) := by rw [hb1.cell (by simp)]; go_simp
              have q1_4 : w1.cell? ⟨w.heap.size, 4, none⟩ = some (.slice A4 patch.length c4) := by rw [hb1.cell (by simp)]; go_simp
              clear hb1
              cases vp
              · go_wp2
                go_ret
                exact ⟨by rw [Hok.out]; have t0 := T0.out; have d0 := D0.out; have p0 := P0.out; simp [*], b1⟩
              · go_wp2_with (refine Calls.mono (hpk _ b1) ?_
                             rintro e w2 ⟨rfl, m, rfl⟩
                             have b2 : Below w.heap.size w (w1.drewN m) := below_drewN b1 _
                             skip)
                all_goals
                  go_wp2
                  go_ret
                  first
                    | exact ⟨by rw [Hok.out]; have t0 := T0.out; have d0 := D0.out; have p0 := P0.out; simp [*], b2⟩
                    | exact ⟨by rw [Hok.out]; have t0 := T0.out; have d0 := D0.out; have p0 := P0.out; simp [*], b1⟩
          · have d1 : dest.isEmpty = false := by simp [d0]
            have D0 := Lib.hid d0
            clear d0
            by_cases p0 : patch = []
            · have p1 : (patch.length : Int) = 0 := by simp [p0]
              have p2 : ¬ (0 < patch.length) := by simp [p0]
              have P0 := Lib.hid p0
              clear p0
              go_enter Tryz.func43, Tryz.ntmps43
              go_wp2_with fail
              refine Calls.mono (hpa _) ?_
              rintro e w1 ⟨rfl, hb1⟩
              have b1 : Below w.heap.size w w1 := Below.trans (by (repeat' (first | with_reducible exact Below.refl _ _ | with_reducible assumption | (with_reducible refine Below.setCell ?_ ?_ _) | (with_reducible refine Below.alloc ?_ ?_ _) | (with_reducible refine below_drewN ?_ _) | (with_reducible refine Below.drew ?_) | omega | (simp; done) | (simp; omega)))) (hb1.mono (by simp))
              have s1 : w.heap.size < w1.heap.size := by have := hb1.size; simp at this; omega
              have q1_0 : w1.cell? ⟨w.heap.size, 0, none⟩ = some (.int .i64 3) := by rw [hb1.cell (by simp)]; go_simp
              have q1_1 : w1.cell? ⟨w.heap.size, 1, none⟩ = some (.string ⟨path.toArray⟩) := by rw [hb1.cell (by simp)]; go_simp
              have q1_2 : w1.cell? ⟨w.heap.size, 2, none⟩ = some (.string ⟨dest.toArray⟩) := by rw [hb1.cell (by simp)]; go_simp
              have q1_3 : w1.cell? ⟨w.heap.size, 3, none⟩ = some (.slice A3 text.length c3) := by rw [hb1.cell (by simp)]; go_simp
              have q1_4 : w1.cell? ⟨w.heap.size, 4, none⟩ = some (.slice A4 patch.length c4) := by rw [hb1.cell (by simp)]; go_simp
              clear hb1
              cases vp
              · go_wp2
                go_ret
                exact ⟨by rw [Hok.out]; have t0 := T0.out; have d0 := D0.out; have p0 := P0.out; simp [*], b1⟩
              · go_wp2_with (refine Calls.mono (hpk _ b1) ?_
                             rintro e w2 ⟨rfl, m, rfl⟩
                             have b2 : Below w.heap.size w (w1.drewN m) := below_drewN b1 _
                             skip)
                all_goals
                  go_wp2
                  go_ret
                  first
                    | exact ⟨by rw [Hok.out]; have t0 := T0.out; have d0 := D0.out; have p0 := P0.out; simp [*], b2⟩
                    | exact ⟨by rw [Hok.out]; have t0 := T0.out; have d0 := D0.out; have p0 := P0.out; simp [*], b1⟩
            · have p1 : ¬ ((patch.length : Int) = 0) := by simpa using p0
              have p2 : 0 < patch.length := List.length_pos_iff.2 p0
              have P0 := Lib.hid p0
              clear p0
              go_enter Tryz.func43, Tryz.ntmps43
              go_wp2_with fail
              refine Calls.mono (hpa _) ?_
              rintro e w1 ⟨rfl, hb1⟩
              have b1 : Below w.heap.size w w1 := Below.trans (by (repeat' (first | with_reducible exact Below.refl _ _ | with_reducible assumption | (with_reducible refine Below.setCell ?_ ?_ _) | (with_reducible refine Below.alloc ?_ ?_ _) | (with_reducible refine below_drewN ?_ _) | (with_reducible refine Below.drew ?_) | omega | (simp; done) | (simp; omega)))) (hb1.mono (by simp))
              have s1 : w.heap.size < w1.heap.size := by have := hb1.size; simp at this; omega
              have q1_0 : w1.cell? ⟨w.heap.size, 0, none⟩ = some (.int .i64 3) := by rw [hb1.cell (by simp)]; go_simp
              have q1_1 : w1.cell? ⟨w.heap.size, 1, none⟩ = some (.string ⟨path.toArray⟩) := by rw [hb1.cell (by simp)]; go_simp
              have q1_2 : w1.cell? ⟨w.heap.size, 2, none⟩ = some (.string ⟨dest.toArray⟩) := by rw [hb1.cell (by simp)]; go_simp
              have q1_3 : w1.cell? ⟨w.heap.size, 3, none⟩ = some (.slice A3 text.length c3) := by rw [hb1.cell (by simp)]; go_simp
              have q1_4 : w1.cell? ⟨w.heap.size, 4, none⟩ = some (.slice A4 patch.length c4) := by rw [hb1.cell (by simp)]; go_simp
              clear hb1
              cases vp
              · go_wp2
                go_ret
                exact ⟨by rw [Hok.out]; have t0 := T0.out; have d0 := D0.out; have p0 := P0.out; simp [*], b1⟩
              · go_wp2_with (refine Calls.mono (hpk _ b1) ?_
                             rintro e w2 ⟨rfl, m, rfl⟩
                             have b2 : Below w.heap.size w (w1.drewN m) := below_drewN b1 _
                             skip)
                all_goals
                  go_wp2
                  go_ret
                  first
                    | exact ⟨by rw [Hok.out]; have t0 := T0.out; have d0 := D0.out; have p0 := P0.out; simp [*], b2⟩
                    | exact ⟨by rw [Hok.out]; have t0 := T0.out; have d0 := D0.out; have p0 := P0.out; simp [*], b1⟩
      · by_cases k4 : kind = 4
        · subst k4
          by_cases e0 : dest = path
          · have e1 : (dest == path) = true := by simp [e0]
            have E0 := Lib.hid e0
            clear e0
            by_cases t0 : text = []
            · have t1 : (text.length : Int) = 0 := by simp [t0]
              have T0 := Lib.hid t0
              clear t0
              by_cases p0 : patch = []
              · have p1 : (patch.length : Int) = 0 := by simp [p0]
                have p2 : ¬ (0 < patch.length) := by simp [p0]
                have P0 := Lib.hid p0
                clear p0
                go_enter Tryz.func43, Tryz.ntmps43
                go_wp2_with fail
                refine Calls.mono (hpa _) ?_
                rintro e w1 ⟨rfl, hb1⟩
                have b1 : Below w.heap.size w w1 := Below.trans (by (repeat' (first | with_reducible exact Below.refl _ _ | with_reducible assumption | (with_reducible refine Below.setCell ?_ ?_ _) | (with_reducible refine Below.alloc ?_ ?_ _) | (with_reducible refine below_drewN ?_ _) | (with_reducible refine Below.drew ?_) | omega | (simp; done) | (simp; omega)))) (hb1.mono (by simp))
                have s1 : w.heap.size < w1.heap.size := by have := hb1.size; simp at this; omega
                have q1_0 : w1.cell? ⟨w.heap.size, 0, none⟩ = some (.int .i64 4) := by rw [hb1.cell (by simp)]; go_simp
                have q1_1 : w1.cell? ⟨w.heap.size, 1, none⟩ = some (.string ⟨path.toArray⟩) := by rw [hb1.cell (by simp)]; go_simp
                have q1_2 : w1.cell? ⟨w.heap.size, 2, none⟩ = some (.string ⟨dest.toArray⟩) := by rw [hb1.cell (by simp)]; go_simp
                have q1_3 : w1.cell? ⟨w.heap.size, 3, none⟩ = some (.slice A3 text.length c3) := by rw [hb1.cell (by simp)]; go_simp
                have q1_4 : w1.cell? ⟨w.heap.size, 4, none⟩ = some (.slice A4 patch.length c4) := by rw [hb1.cell (by simp)]; go_simp
                clear hb1
                cases vp
                · go_wp2
                  go_ret
                  exact ⟨by rw [Hok.out]; have e0 := E0.out; have t0 := T0.out; have p0 := P0.out; simp [*], b1⟩
                · go_wp2_with (refine Calls.mono (hpb _) ?_
                               rintro e w2 ⟨rfl, hb2⟩
                               have b2 : Below w.heap.size w w2 := b1.trans (hb2.mono (by omega))
                               have s2 : w.heap.size < w2.heap.size := Nat.lt_of_lt_of_le s1 hb2.size
                               have q2_0 : w2.cell? ⟨w.heap.size, 0, none⟩ = some (.int .i64 4) := cell_on hb2 s1 q1_0
                               have q2_1 : w2.cell? ⟨w.heap.size, 1, none⟩ = some (.string ⟨path.toArray⟩) := cell_on hb2 s1 q1_1
                               have q2_2 : w2.cell? ⟨w.heap.size, 2, none⟩ = some (.string ⟨dest.toArray⟩) := cell_on hb2 s1 q1_2
                               have q2_3 : w2.cell? ⟨w.heap.size, 3, none⟩ = some (.slice A3 text.length c3) := cell_on hb2 s1 q1_3
                               have q2_4 : w2.cell? ⟨w.heap.size, 4, none⟩ = some (.slice A4 patch.length c4) := cell_on hb2 s1 q1_4
                               clear q1_0 q1_1 q1_2 q1_3 q1_4
                               clear hb2
                               skip)
                  all_goals
                    go_wp2
                    go_ret
                    first
                      | exact ⟨by rw [Hok.out]; have e0 := E0.out; have t0 := T0.out; have p0 := P0.out; simp [*], b2⟩
                      | exact ⟨by rw [Hok.out]; have e0 := E0.out; have t0 := T0.out; have p0 := P0.out; simp [*], b1⟩
              · have p1 : ¬ ((patch.length : Int) = 0) := by simpa using p0
                have p2 : 0 < patch.length := List.length_pos_iff.2 p0
                have P0 := Lib.hid p0
                clear p0
                go_enter Tryz.func43, Tryz.ntmps43
                go_wp2_with fail
                refine Calls.mono (hpa _) ?_
                rintro e w1 ⟨rfl, hb1⟩
                have b1 : Below w.heap.size w w1 := Below.trans (by (repeat' (first | with_reducible exact Below.refl _ _ | with_reducible assumption | (with_reducible refine Below.setCell ?_ ?_ _) | (with_reducible refine Below.alloc ?_ ?_ _) | (with_reducible refine below_drewN ?_ _) | (with_reducible refine Below.drew ?_) | omega | (simp; done) | (simp; omega)))) (hb1.mono (by simp))
                have s1 : w.heap.size < w1.heap.size := by have := hb1.size; simp at this; omega
                have q1_0 : w1.cell? ⟨w.heap.size, 0, none⟩ = some (.int .i64 4) := by rw [hb1.cell (by simp)]; go_simp
                have q1_1 : w1.cell? ⟨w.heap.size, 1, none⟩ = some (.string ⟨path.toArray⟩) := by rw [hb1.cell (by simp)]; go_simp
                have q1_2 : w1.cell? ⟨w.heap.size, 2, none⟩ = some (.string ⟨dest.toArray⟩) := by rw [hb1.cell (by simp)]; go_simp
                have q1_3 : w1.cell? ⟨w.heap.size, 3, none⟩ = some (.slice A3 text.length c3) := by rw [hb1.cell (by simp)]; go_simp
                have q1_4 : w1.cell? ⟨w.heap.size, 4, none⟩ = some (.slice A4 patch.length c4) := by rw [hb1.cell (by simp)]; go_simp
                clear hb1
                cases vp
                · go_wp2
                  go_ret
                  exact ⟨by rw [Hok.out]; have e0 := E0.out; have t0 := T0.out; have p0 := P0.out; simp [*], b1⟩
                · go_wp2_with (refine Calls.mono (hpb _) ?_
                               rintro e w2 ⟨rfl, hb2⟩
                               have b2 : Below w.heap.size w w2 := b1.trans (hb2.mono (by omega))
                               have s2 : w.heap.size < w2.heap.size := Nat.lt_of_lt_of_le s1 hb2.size
                               have q2_0 : w2.cell? ⟨w.heap.size, 0, none⟩ = some (.int .i64 4) := cell_on hb2 s1 q1_0
                               have q2_1 : w2.cell? ⟨w.heap.size, 1, none⟩ = some (.string ⟨path.toArray⟩) := cell_on hb2 s1 q1_1
                               have q2_2 : w2.cell? ⟨w.heap.size, 2, none⟩ = some (.string ⟨dest.toArray⟩) := cell_on hb2 s1 q1_2
                               have q2_3 : w2.cell? ⟨w.heap.size, 3, none⟩ = some (.slice A3 text.length c3) := cell_on hb2 s1 q1_3
                               have q2_4 : w2.cell? ⟨w.heap.size, 4, none⟩ = some (.slice A4 patch.length c4) := cell_on hb2 s1 q1_4
                               clear q1_0 q1_1 q1_2 q1_3 q1_4
                               clear hb2
                               skip)
                  all_goals
                    go_wp2
                    go_ret
                    first
                      | exact ⟨by rw [Hok.out]; have e0 := E0.out; have t0 := T0.out; have p0 := P0.out; simp [*], b2⟩
                      | exact ⟨by rw [Hok.out]; have e0 := E0.out; have t0 := T0.out; have p0 := P0.out; simp [*], b1⟩
            · have t1 : ¬ ((text.length : Int) = 0) := by simpa using t0
              have T0 := Lib.hid t0
              clear t0
              by_cases p0 : patch = []
              · have p1 : (patch.length : Int) = 0 := by simp [p0]
                have p2 : ¬ (0 < patch.length) := by simp [p0]
                have P0 := Lib.hid p0
                clear p0
                go_enter Tryz.func43, Tryz.ntmps43
                go_wp2_with fail
                refine Calls.mono (hpa _) ?_
                rintro e w1 ⟨rfl, hb1⟩
                have b1 : Below w.heap.size w w1 := Below.trans (by (repeat' (first | with_reducible exact Below.refl _ _ | with_reducible assumption | (with_reducible refine Below.setCell ?_ ?_ _) | (with_reducible refine Below.alloc ?_ ?_ _) | (with_reducible refine below_drewN ?_ _) | (with_reducible refine Below.drew ?_) | omega | (simp; done) | (simp; omega)))) (hb1.mono (by simp))
                have s1 : w.heap.size < w1.heap.size := by have := hb1.size; simp at this; omega
                have q1_0 : w1.cell? ⟨w.heap.size, 0, none⟩ = some (.int .i64 4) := by rw [hb1.cell (by simp)]; go_simp
                have q1_1 : w1.cell? ⟨w.heap.size, 1, none⟩ = some (.string ⟨path.toArray⟩) := by rw [hb1.cell (by simp)]; go_simp
                have q1_2 : w1.cell? ⟨w.heap.size, 2, none⟩ = some (.string ⟨dest.toArray⟩) := by rw [hb1.cell (by simp)]; go_simp
                have q1_3 : w1.cell? ⟨w.heap.size, 3, none⟩ = some (.slice A3 text.length c3) := by rw [hb1.cell (by simp)]; go_simp
                have q1_4 : w1.cell? ⟨w.heap.size, 4, none⟩ = some (.slice A4 patch.length c4) := by rw [hb1.cell (by simp)]; go_simp
                clear hb1
                cases vp
                · go_wp2
                  go_ret
                  exact ⟨by rw [Hok.out]; have e0 := E0.out; have t0 := T0.out; have p0 := P0.out; simp [*], b1⟩
                · go_wp2_with (refine Calls.mono (hpb _) ?_
                               rintro e w2 ⟨rfl, hb2⟩
                               have b2 : Below w.heap.size w w2 := b1.trans (hb2.mono (by omega))
                               have s2 : w.heap.size < w2.heap.size := Nat.lt_of_lt_of_le s1 hb2.size
                               have q2_0 : w2.cell? ⟨w.heap.size, 0, none⟩ = some (.int .i64 4) := cell_on hb2 s1 q1_0
                               have q2_1 : w2.cell? ⟨w.heap.size, 1, none⟩ = some (.string ⟨path.toArray⟩) := cell_on hb2 s1 q1_1
                               have q2_2 : w2.cell? ⟨w.heap.size, 2, none⟩ = some (.string ⟨dest.toArray⟩) := cell_on hb2 s1 q1_2
                               have q2_3 : w2.cell? ⟨w.heap.size, 3, none⟩ = some (.slice A3 text.length c3) := cell_on hb2 s1 q1_3
                               have q2_4 : w2.cell? ⟨w.heap.size, 4, none⟩ = some (.slice A4 patch.length c4) := cell_on hb2 s1 q1_4
                               clear q1_0 q1_1 q1_2 q1_3 q1_4
                               clear hb2
                               skip)
                  all_goals
                    go_wp2
                    go_ret
                    first
                      | exact ⟨by rw [Hok.out]; have e0 := E0.out; have t0 := T0.out; have p0 := P0.out; simp [*], b2⟩
                      | exact ⟨by rw [Hok.out]; have e0 := E0.out; have t0 := T0.out; have p0 := P0.out; simp [*], b1⟩
              · have p1 : ¬ ((patch.length : Int) = 0) := by simpa using p0
                have p2 : 0 < patch.length := List.length_pos_iff.2 p0
                have P0 := Lib.hid p0
                clear p0
                go_enter Tryz.func43, Tryz.ntmps43
                go_wp2_with fail
                refine Calls.mono (hpa _) ?_
                rintro e w1 ⟨rfl, hb1⟩
                have b1 : Below w.heap.size w w1 := Below.trans (by (repeat' (first | with_reducible exact Below.refl _ _ | with_reducible assumption | (with_reducible refine Below.setCell ?_ ?_ _) | (with_reducible refine Below.alloc ?_ ?_ _) | (with_reducible refine below_drewN ?_ _) | (with_reducible refine Below.drew ?_) | omega | (simp; done) | (simp; omega)))) (hb1.mono (by simp))
                have s1 : w.heap.size < w1.heap.size := by have := hb1.size; simp at this; omega
                have q1_0 : w1.cell? ⟨w.heap.size, 0, none⟩ = some (.int .i64 4) := by rw [hb1.cell (by simp)]; go_simp
                have q1_1 : w1.cell? ⟨w.heap.size, 1, none⟩ = some (.string ⟨path.toArray⟩) := by rw [hb1.cell (by simp)]; go_simp
                have q1_2 : w1.cell? ⟨w.heap.size, 2, none⟩ = some (.string ⟨dest.toArray⟩) := by rw [hb1.cell (by simp)]; go_simp
                have q1_3 : w1.cell? ⟨w.heap.size, 3, none⟩ = some (.slice A3 text.length c3) := by rw [hb1.cell (by simp)]; go_simp
                have q1_4 : w1.cell? ⟨w.heap.size, 4, none⟩ = some (.slice A4 patch.length c4) := by rw [hb1.cell (by simp)]; go_simp
                clear hb1
                cases vp
                · go_wp2
                  go_ret
                  exact ⟨by rw [Hok.out]; have e0 := E0.out; have t0 := T0.out; have p0 := P0.out; simp [*], b1⟩
                · go_wp2_with (refine Calls.mono (hpb _) ?_
                               rintro e w2 ⟨rfl, hb2⟩
                               have b2 : Below w.heap.size w w2 := b1.trans (hb2.mono (by omega))
                               have s2 : w.heap.size < w2.heap.size := Nat.lt_of_lt_of_le s1 hb2.size
                               have q2_0 : w2.cell? ⟨w.heap.size, 0, none⟩ = some (.int .i64 4) := cell_on hb2 s1 q1_0
                               have q2_1 : w2.cell? ⟨w.heap.size, 1, none⟩ = some (.string ⟨path.toArray⟩) := cell_on hb2 s1 q1_1
                               have q2_2 : w2.cell? ⟨w.heap.size, 2, none⟩ = some (.string ⟨dest.toArray⟩) := cell_on hb2 s1 q1_2
                               have q2_3 : w2.cell? ⟨w.heap.size, 3, none⟩ = some (.slice A3 text.length c3) := cell_on hb2 s1 q1_3
                               have q2_4 : w2.cell? ⟨w.heap.size, 4, none⟩ = some (.slice A4 patch.length c4) := cell_on hb2 s1 q1_4
                               clear q1_0 q1_1 q1_2 q1_3 q1_4
                               clear hb2
                               skip)
                  all_goals
                    go_wp2
                    go_ret
                    first
                      | exact ⟨by rw [Hok.out]; have e0 := E0.out; have t0 := T0.out; have p0 := P0.out; simp [*], b2⟩
                      | exact ⟨by rw [Hok.out]; have e0 := E0.out; have t0 := T0.out; have p0 := P0.out; simp [*], b1⟩
          · have e1 : (dest == path) = false := by simpa using e0
            have E0 := Lib.hid e0
            clear e0
            by_cases t0 : text = []
            · have t1 : (text.length : Int) = 0 := by simp [t0]
              have T0 := Lib.hid t0
              clear t0
              by_cases p0 : patch = []
              · have p1 : (patch.length : Int) = 0 := by simp [p0]
                have p2 : ¬ (0 < patch.length) := by simp [p0]
                have P0 := Lib.hid p0
                clear p0
                go_enter Tryz.func43, Tryz.ntmps43
                go_wp2_with fail
                refine Calls.mono (hpa _) ?_
                rintro e w1 ⟨rfl, hb1⟩
                have b1 : Below w.heap.size w w1 := Below.trans (by (repeat' (first | with_reducible exact Below.refl _ _ | with_reducible assumption | (with_reducible refine Below.setCell ?_ ?_ _) | (with_reducible refine Below.alloc ?_ ?_ _) | (with_reducible refine below_drewN ?_ _) | (with_reducible refine Below.drew ?_) | omega | (simp; done) | (simp; omega)))) (hb1.mono (by simp))
                have s1 : w.heap.size < w1.heap.size := by have := hb1.size; simp at this; omega
                have q1_0 : w1.cell? ⟨w.heap.size, 0, none⟩ = some (.int .i64 4) := by rw [hb1.cell (by simp)]; go_simp
                have q1_1 : w1.cell? ⟨w.heap.size, 1, none⟩ = some (.string ⟨path.toArray⟩) := by rw [hb1.cell (by simp)]; go_simp
                have q1_2 : w1.cell? ⟨w.heap.size, 2, none⟩ = some (.string ⟨dest.toArray⟩) := by rw [hb1.cell (by simp)]; go_simp
                have q1_3 : w1.cell? ⟨w.heap.size, 3, none⟩ = some (.slice A3 text.length c3) := by rw [hb1.cell (by simp)]; go_simp
                have q1_4 : w1.cell? ⟨w.heap.size, 4, none⟩ = some (.slice A4 patch.length c4) := by rw [hb1.cell (by simp)]; go_simp
                clear hb1
                cases vp
                · go_wp2
                  go_ret
                  exact ⟨by rw [Hok.out]; have e0 := E0.out; have t0 := T0.out; have p0 := P0.out; simp [*], b1⟩
                · go_wp2_with (refine Calls.mono (hpb _) ?_
                               rintro e w2 ⟨rfl, hb2⟩
                               have b2 : Below w.heap.size w w2 := b1.trans (hb2.mono (by omega))
                               have s2 : w.heap.size < w2.heap.size := Nat.lt_of_lt_of_le s1 hb2.size
                               have q2_0 : w2.cell? ⟨w.heap.size, 0, none⟩ = some (.int .i64 4) := cell_on hb2 s1 q1_0
                               have q2_1 : w2.cell? ⟨w.heap.size, 1, none⟩ = some (.string ⟨path.toArray⟩) := cell_on hb2 s1 q1_1
                               have q2_2 : w2.cell? ⟨w.heap.size, 2, none⟩ = some (.string ⟨dest.toArray⟩) := cell_on hb2 s1 q1_2
                               have q2_3 : w2.cell? ⟨w.heap.size, 3, none⟩ = some (.slice A3 text.length c3) := cell_on hb2 s1 q1_3
                               have q2_4 : w2.cell? ⟨w.heap.size, 4, none⟩ = some (.slice A4 patch.length c4) := cell_on hb2 s1 q1_4
                               clear q1_0 q1_1 q1_2 q1_3 q1_4
                               clear hb2
                               skip)
                  all_goals
                    go_wp2
                    go_ret
                    first
                      | exact ⟨by rw [Hok.out]; have e0 := E0.out; have t0 := T0.out; have p0 := P0.out; simp [*], b2⟩
                      | exact ⟨by rw [Hok.out]; have e0 := E0.out; have t0 := T0.out; have p0 := P0.out; simp [*], b1⟩
              · have p1 : ¬ ((patch.length : Int) = 0) := by simpa using p0
                have p2 : 0 < patch.length := List.length_pos_iff.2 p0
                have P0 := Lib.hid p0
                clear p0
                go_enter Tryz.func43, Tryz.ntmps43
                go_wp2_with fail
                refine Calls.mono (hpa _) ?_
                rintro e w1 ⟨rfl, hb1⟩
                have b1 : Below w.heap.size w w1 := Below.trans (by (repeat' (first | with_reducible exact Below.refl _ _ | with_reducible assumption | (with_reducible refine Below.setCell ?_ ?_ _) | (with_reducible refine Below.alloc ?_ ?_ _) | (with_reducible refine below_drewN ?_ _) | (with_reducible refine Below.drew ?_) | omega | (simp; done) | (simp; omega)))) (hb1.mono (by simp))
                have s1 : w.heap.size < w1.heap.size := by have := hb1.size; simp at this; omega
                have q1_0 : w1.cell? ⟨w.heap.size, 0, none⟩ = some (.int .i64 4) := by rw [hb1.cell (by simp)]; go_simp
                have q1_1 : w1.cell? ⟨w.heap.size, 1, none⟩ = some (.string ⟨path.toArray⟩) := by rw [hb1.cell (by simp)]; go_simp
                have q1_2 : w1.cell? ⟨w.heap.size, 2, none⟩ = some (.string ⟨dest.toArray⟩) := by rw [hb1.cell (by simp)]; go_simp
                have q1_3 : w1.cell? ⟨w.heap.size, 3, none⟩ = some (.slice A3 text.length c3) := by rw [hb1.cell (by simp)]; go_simp
                have q1_4 : w1.cell? ⟨w.heap.size, 4, none⟩ = some (.slice A4 patch.length c4) := by rw [hb1.cell (by simp)]; go_simp
                clear hb1
                cases vp
                · go_wp2
                  go_ret
                  exact ⟨by rw [Hok.out]; have e0 := E0.out; have t0 := T0.out; have p0 := P0.out; simp [*], b1⟩
                · go_wp2_with (refine Calls.mono (hpb _) ?_
                               rintro e w2 ⟨rfl, hb2⟩
                               have b2 : Below w.heap.size w w2 := b1.trans (hb2.mono (by omega))
                               have s2 : w.heap.size < w2.heap.size := Nat.lt_of_lt_of_le s1 hb2.size
                               have q2_0 : w2.cell? ⟨w.heap.size, 0, none⟩ = some (.int .i64 4) := cell_on hb2 s1 q1_0
                               have q2_1 : w2.cell? ⟨w.heap.size, 1, none⟩ = some (.string ⟨path.toArray⟩) := cell_on hb2 s1 q1_1
                               have q2_2 : w2.cell? ⟨w.heap.size, 2, none⟩ = some (.string ⟨dest.toArray⟩) := cell_on hb2 s1 q1_2
                               have q2_3 : w2.cell? ⟨w.heap.size, 3, none⟩ = some (.slice A3 text.length c3) := cell_on hb2 s1 q1_3
                               have q2_4 : w2.cell? ⟨w.heap.size, 4, none⟩ = some (.slice A4 patch.length c4) := cell_on hb2 s1 q1_4
                               clear q1_0 q1_1 q1_2 q1_3 q1_4
                               clear hb2
                               skip)
                  all_goals
                    go_wp2
                    go_ret
                    first
                      | exact ⟨by rw [Hok.out]; have e0 := E0.out; have t0 := T0.out; have p0 := P0.out; simp [*], b2⟩
                      | exact ⟨by rw [Hok.out]; have e0 := E0.out; have t0 := T0.out; have p0 := P0.out; simp [*], b1⟩
            · have t1 : ¬ ((text.length : Int) = 0) := by simpa using t0
              have T0 := Lib.hid t0
              clear t0
              by_cases p0 : patch = []
              · have p1 : (patch.length : Int) = 0 := by simp [p0]
                have p2 : ¬ (0 < patch.length) := by simp [p0]
                have P0 := Lib.hid p0
                clear p0
                go_enter Tryz.func43, Tryz.ntmps43
                go_wp2_with fail
                refine Calls.mono (hpa _) ?_
                rintro e w1 ⟨rfl, hb1⟩
                have b1 : Below w.heap.size w w1 := Below.trans (by (repeat' (first | with_reducible exact Below.refl _ _ | with_reducible assumption | (with_reducible refine Below.setCell ?_ ?_ _) | (with_reducible refine Below.alloc ?_ ?_ _) | (with_reducible refine below_drewN ?_ _) | (with_reducible refine Below.drew ?_) | omega | (simp; done) | (simp; omega)))) (hb1.mono (by simp))
                have s1 : w.heap.size < w1.heap.size := by have := hb1.size; simp at this; omega
                have q1_0 : w1.cell? ⟨w.heap.size, 0, none⟩ = some (.int .i64 4) := by rw [hb1.cell (by simp)]; go_simp
                have q1_1 : w1.cell? ⟨w.heap.size, 1, none⟩ = some (.string ⟨path.toArray⟩) := by rw [hb1.cell (by simp)]; go_simp
                have q1_2 : w1.cell? ⟨w.heap.size, 2, none⟩ = some (.string ⟨dest.toArray⟩) := by rw [hb1.cell (by simp)]; go_simp
                have q1_3 : w1.cell? ⟨w.heap.size, 3, none⟩ = some (.slice A3 text.length c3) := by rw [hb1.cell (by simp)]; go_simp
                have q1_4 : w1.cell? ⟨w.heap.size, 4, none⟩ = some (.slice A4 patch.length c4) := by rw [hb1.cell (by simp)]; go_simp
                clear hb1
                cases vp
                · go_wp2
                  go_ret
                  exact ⟨by rw [Hok.out]; have e0 := E0.out; have t0 := T0.out; have p0 := P0.out; simp [*], b1⟩
                · go_wp2_with (refine Calls.mono (hpb _) ?_
                               rintro e w2 ⟨rfl, hb2⟩
                               have b2 : Below w.heap.size w w2 := b1.trans (hb2.mono (by omega))
                               have s2 : w.heap.size < w2.heap.size := Nat.lt_of_lt_of_le s1 hb2.size
                               have q2_0 : w2.cell? ⟨w.heap.size, 0, none⟩ = some (.int .i64 4) := cell_on hb2 s1 q1_0
                               have q2_1 : w2.cell? ⟨w.heap.size, 1, none⟩ = some (.string ⟨path.toArray⟩) := cell_on hb2 s1 q1_1
                               have q2_2 : w2.cell? ⟨w.heap.size, 2, none⟩ = some (.string ⟨dest.toArray⟩) := cell_on hb2 s1 q1_2
                               have q2_3 : w2.cell? ⟨w.heap.size, 3, none⟩ = some (.slice A3 text.length c3) := cell_on hb2 s1 q1_3
                               have q2_4 : w2.cell? ⟨w.heap.size, 4, none⟩ = some (.slice A4 patch.length c4) := cell_on hb2 s1 q1_4
                               clear q1_0 q1_1 q1_2 q1_3 q1_4
                               clear hb2
                               skip)
                  all_goals
                    go_wp2
                    go_ret
                    first
                      | exact ⟨by rw [Hok.out]; have e0 := E0.out; have t0 := T0.out; have p0 := P0.out; simp [*], b2⟩
                      | exact ⟨by rw [Hok.out]; have e0 := E0.out; have t0 := T0.out; have p0 := P0.out; simp [*], b1⟩
              · have p1 : ¬ ((patch.length : Int) = 0) := by simpa using p0
                have p2 : 0 < patch.length := List.length_pos_iff.2 p0
                have P0 := Lib.hid p0
                clear p0
                go_enter Tryz.func43, Tryz.ntmps43
                go_wp2_with fail
                refine Calls.mono (hpa _) ?_
                rintro e w1 ⟨rfl, hb1⟩
                have b1 : Below w.heap.size w w1 := Below.trans (by (repeat' (first | with_reducible exact Below.refl _ _ | with_reducible assumption | (with_reducible refine Below.setCell ?_ ?_ _) | (with_reducible refine Below.alloc ?_ ?_ _) | (with_reducible refine below_drewN ?_ _) | (with_reducible refine Below.drew ?_) | omega | (simp; done) | (simp; omega)))) (hb1.mono (by simp))
                have s1 : w.heap.size < w1.heap.size := by have := hb1.size; simp at this; omega
                have q1_0 : w1.cell? ⟨w.heap.size, 0, none⟩ = some (.int .i64 4) := by rw [hb1.cell (by simp)]; go_simp
                have q1_1 : w1.cell? ⟨w.heap.size, 1, none⟩ = some (.string ⟨path.toArray⟩) := by rw [hb1.cell (by simp)]; go_simp
                have q1_2 : w1.cell? ⟨w.heap.size, 2, none⟩ = some (.string ⟨dest.toArray⟩) := by rw [hb1.cell (by simp)]; go_simp
                have q1_3 : w1.cell? ⟨w.heap.size, 3, none⟩ = some (.slice A3 text.length c3) := by rw [hb1.cell (by simp)]; go_simp
                have q1_4 : w1.cell? ⟨w.heap.size, 4, none⟩ = some (.slice A4 patch.length c4) := by rw [hb1.cell (by simp)]; go_simp
                clear hb1
                cases vp
                · go_wp2
                  go_ret
                  exact ⟨by rw [Hok.out]; have e0 := E0.out; have t0 := T0.out; have p0 := P0.out; simp [*], b1⟩
                · go_wp2_with (refine Calls.mono (hpb _) ?_
                               rintro e w2 ⟨rfl, hb2⟩
                               have b2 : Below w.heap.size w w2 := b1.trans (hb2.mono (by omega))
                               have s2 : w.heap.size < w2.heap.size := Nat.lt_of_lt_of_le s1 hb2.size
                               have q2_0 : w2.cell? ⟨w.heap.size, 0, none⟩ = some (.int .i64 4) := cell_on hb2 s1 q1_0
                               have q2_1 : w2.cell? ⟨w.heap.size, 1, none⟩ = some (.string ⟨path.toArray⟩) := cell_on hb2 s1 q1_1
                               have q2_2 : w2.cell? ⟨w.heap.size, 2, none⟩ = some (.string ⟨dest.toArray⟩) := cell_on hb2 s1 q1_2
                               have q2_3 : w2.cell? ⟨w.heap.size, 3, none⟩ = some (.slice A3 text.length c3) := cell_on hb2 s1 q1_3
                               have q2_4 : w2.cell? ⟨w.heap.size, 4, none⟩ = some (.slice A4 patch.length c4) := cell_on hb2 s1 q1_4
                               clear q1_0 q1_1 q1_2 q1_3 q1_4
                               clear hb2
                               skip)
                  all_goals
                    go_wp2
                    go_ret
                    first
                      | exact ⟨by rw [Hok.out]; have e0 := E0.out; have t0 := T0.out; have p0 := P0.out; simp [*], b2⟩
                      | exact ⟨by rw [Hok.out]; have e0 := E0.out; have t0 := T0.out; have p0 := P0.out; simp [*], b1⟩
        · go_enter Tryz.func43, Tryz.ntmps43
          go_wp2
          go_ret
          exact ⟨by rw [Hok.out]; simp [*], by (repeat' (first | with_reducible exact Below.refl _ _ | with_reducible assumption | (with_reducible refine Below.setCell ?_ ?_ _) | (with_reducible refine Below.alloc ?_ ?_ _) | (with_reducible refine below_drewN ?_ _) | (with_reducible refine Below.drew ?_) | omega | (simp; done) | (simp; omega)))⟩
end Go.Proofs.YtmickenajhppoaaGreatDoor
