import Derived.Test.YtmickenajhppoaaGreatDoorZ02
import Derived.Test.YtmickenajhppoaaGreatDoorHHunk
import Derived.StillTailTactics
/- Walks: the laws' own helpers at Change: sz, to, eq. Printed by wip/harness.py. -/
namespace Go.Proofs.YtmickenajhppoaaGreatDoor
open Go.RowKit
def szChange (x : PChange) : Nat := x.path.length + x.dest.length + total x.text + szHunks x.patch
def szChanges (xs : List PChange) : Nat := xs.length + (xs.map szChange).sum
def okChange (x : PChange) : Prop := (-9223372036854775808 ≤ x.kind ∧ x.kind ≤ 9223372036854775807) ∧ x.path.length ≤ 9223372036854775807 ∧ x.dest.length ≤ 9223372036854775807 ∧ (∀ s ∈ x.text, s.length ≤ 9223372036854775807) ∧ (∀ y ∈ x.patch, okHunk y)
set_option maxRecDepth 100000 in
set_option maxHeartbeats 400000 in
theorem eqChange_any (x y : PChange) (Aa3 Aa4 : Option Addr) (na3 ca3 na4 ca4 : Nat) (Ab3 Ab4 : Option Addr) (nb3 cb3 nb4 cb4 : Nat) (w : World) (lo hi lo' hi' : Nat) (ha3 : Rep w lo hi (encText x.text) (.slice Aa3 na3 ca3)) (ha4 : Rep w lo hi (encHunks x.patch) (.slice Aa4 na4 ca4)) (hb3 : Rep w lo' hi' (encText y.text) (.slice Ab3 nb3 cb3)) (hb4 : Rep w lo' hi' (encHunks y.patch) (.slice Ab4 nb4 cb4)) (hh : hi ≤ w.heap.size) (hh' : hi' ≤ w.heap.size) :
    Calls Tryz.prog 33 #[.agg #[.int .i64 x.kind, .string ⟨x.path.toArray⟩, .string ⟨x.dest.toArray⟩, .slice Aa3 na3 ca3, .slice Aa4 na4 ca4], .agg #[.int .i64 y.kind, .string ⟨y.path.toArray⟩, .string ⟨y.dest.toArray⟩, .slice Ab3 nb3 cb3, .slice Ab4 nb4 cb4]] w fun e w' => e = .returned (.bool (decide (x = y))) ∧ Below w.heap.size w w' := by
  obtain ⟨x0, x1, x2, x3, x4⟩ := x
  obtain ⟨y0, y1, y2, y3, y4⟩ := y
  dsimp only at *
  by_cases e0 : x0 = y0
  · subst e0
    by_cases e1 : x1 = y1
    · subst e1
      by_cases e2 : x2 = y2
      · subst e2
        by_cases e3 : x3 = y3
        · subst e3
          by_cases e4 : x4 = y4
          · subst e4
            go_enter Tryz.func33, Tryz.ntmps33
            go_wp2_with fail
            refine Calls.mono (eqStringS_any _ _ _ _ _ _ x3 x3 _ lo hi lo' hi' ?_ ?_) ?_
            · exact ha3.keep (B := w.heap.size) (by (repeat' (first | with_reducible exact Below.refl _ _ | with_reducible assumption | (with_reducible refine Below.setCell ?_ ?_ _) | (with_reducible refine Below.alloc ?_ ?_ _) | (with_reducible refine below_drewN ?_ _) | (with_reducible refine Below.drew ?_) | omega | (simp; done) | (simp; omega)))) hh
            · exact hb3.keep (B := w.heap.size) (by (repeat' (first | with_reducible exact Below.refl _ _ | with_reducible assumption | (with_reducible refine Below.setCell ?_ ?_ _) | (with_reducible refine Below.alloc ?_ ?_ _) | (with_reducible refine below_drewN ?_ _) | (with_reducible refine Below.drew ?_) | omega | (simp; done) | (simp; omega)))) hh'
            rintro e w1 ⟨rfl, k1, rfl⟩
            go_wp2_with fail
            refine Calls.mono (eqHunkS_any _ _ _ _ _ _ x4 x4 _ lo hi lo' hi' ?_ ?_ ?_ ?_) ?_
            · exact ha4.keep (B := w.heap.size) (by (repeat' (first | with_reducible exact Below.refl _ _ | with_reducible assumption | (with_reducible refine Below.setCell ?_ ?_ _) | (with_reducible refine Below.alloc ?_ ?_ _) | (with_reducible refine below_drewN ?_ _) | (with_reducible refine Below.drew ?_) | omega | (simp; done) | (simp; omega)))) hh
            · exact hb4.keep (B := w.heap.size) (by (repeat' (first | with_reducible exact Below.refl _ _ | with_reducible assumption | (with_reducible refine Below.setCell ?_ ?_ _) | (with_reducible refine Below.alloc ?_ ?_ _) | (with_reducible refine below_drewN ?_ _) | (with_reducible refine Below.drew ?_) | omega | (simp; done) | (simp; omega)))) hh'
            · first | omega | (simp; omega)
            · first | omega | (simp; omega)
            rintro e w2 ⟨rfl, hbb2⟩
            have bw2 : Below w.heap.size w w2 := Below.trans (by (repeat' (first | with_reducible exact Below.refl _ _ | with_reducible assumption | (with_reducible refine Below.setCell ?_ ?_ _) | (with_reducible refine Below.alloc ?_ ?_ _) | (with_reducible refine below_drewN ?_ _) | (with_reducible refine Below.drew ?_) | omega | (simp; done) | (simp; omega)))) (hbb2.mono (by first | omega | (simp; done) | (simp; omega)))
            obtain ⟨hc2, _⟩ := bcell hbb2
            have hsz2 := hbb2.size
            have k2a0 : w2.cell? ⟨w.heap.size, 0, none⟩ = some (.int .i64 x0) := by rw [hc2 _ _ (by first | omega | (simp; done) | (simp; omega))]; go_simp
            have k2a1 : w2.cell? ⟨w.heap.size, 1, none⟩ = some (.string ⟨x1.toArray⟩) := by rw [hc2 _ _ (by first | omega | (simp; done) | (simp; omega))]; go_simp
            have k2a2 : w2.cell? ⟨w.heap.size, 2, none⟩ = some (.string ⟨x2.toArray⟩) := by rw [hc2 _ _ (by first | omega | (simp; done) | (simp; omega))]; go_simp
            have k2a3 : w2.cell? ⟨w.heap.size, 3, none⟩ = some (.slice Aa3 na3 ca3) := by rw [hc2 _ _ (by first | omega | (simp; done) | (simp; omega))]; go_simp
            have k2a4 : w2.cell? ⟨w.heap.size, 4, none⟩ = some (.slice Aa4 na4 ca4) := by rw [hc2 _ _ (by first | omega | (simp; done) | (simp; omega))]; go_simp
            have k2b0 : w2.cell? ⟨w.heap.size + 1, 0, none⟩ = some (.int .i64 x0) := by rw [hc2 _ _ (by first | omega | (simp; done) | (simp; omega))]; go_simp
            have k2b1 : w2.cell? ⟨w.heap.size + 1, 1, none⟩ = some (.string ⟨x1.toArray⟩) := by rw [hc2 _ _ (by first | omega | (simp; done) | (simp; omega))]; go_simp
            have k2b2 : w2.cell? ⟨w.heap.size + 1, 2, none⟩ = some (.string ⟨x2.toArray⟩) := by rw [hc2 _ _ (by first | omega | (simp; done) | (simp; omega))]; go_simp
            have k2b3 : w2.cell? ⟨w.heap.size + 1, 3, none⟩ = some (.slice Ab3 nb3 cb3) := by rw [hc2 _ _ (by first | omega | (simp; done) | (simp; omega))]; go_simp
            have k2b4 : w2.cell? ⟨w.heap.size + 1, 4, none⟩ = some (.slice Ab4 nb4 cb4) := by rw [hc2 _ _ (by first | omega | (simp; done) | (simp; omega))]; go_simp
            try simp at hsz2
            clear hc2 hbb2
            go_wp2
            go_ret
            exact ⟨ret_bool (by simp), by (repeat' (first | with_reducible exact Below.refl _ _ | with_reducible assumption | (with_reducible refine Below.setCell ?_ ?_ _) | (with_reducible refine Below.alloc ?_ ?_ _) | (with_reducible refine below_drewN ?_ _) | (with_reducible refine Below.drew ?_) | omega | (simp; done) | (simp; omega)))⟩
          · have q4 : decide (x4 = y4) = false := by simp [e4]
            go_enter Tryz.func33, Tryz.ntmps33
            go_wp2_with fail
            refine Calls.mono (eqStringS_any _ _ _ _ _ _ x3 x3 _ lo hi lo' hi' ?_ ?_) ?_
            · exact ha3.keep (B := w.heap.size) (by (repeat' (first | with_reducible exact Below.refl _ _ | with_reducible assumption | (with_reducible refine Below.setCell ?_ ?_ _) | (with_reducible refine Below.alloc ?_ ?_ _) | (with_reducible refine below_drewN ?_ _) | (with_reducible refine Below.drew ?_) | omega | (simp; done) | (simp; omega)))) hh
            · exact hb3.keep (B := w.heap.size) (by (repeat' (first | with_reducible exact Below.refl _ _ | with_reducible assumption | (with_reducible refine Below.setCell ?_ ?_ _) | (with_reducible refine Below.alloc ?_ ?_ _) | (with_reducible refine below_drewN ?_ _) | (with_reducible refine Below.drew ?_) | omega | (simp; done) | (simp; omega)))) hh'
            rintro e w1 ⟨rfl, k1, rfl⟩
            go_wp2_with fail
            refine Calls.mono (eqHunkS_any _ _ _ _ _ _ x4 y4 _ lo hi lo' hi' ?_ ?_ ?_ ?_) ?_
            · exact ha4.keep (B := w.heap.size) (by (repeat' (first | with_reducible exact Below.refl _ _ | with_reducible assumption | (with_reducible refine Below.setCell ?_ ?_ _) | (with_reducible refine Below.alloc ?_ ?_ _) | (with_reducible refine below_drewN ?_ _) | (with_reducible refine Below.drew ?_) | omega | (simp; done) | (simp; omega)))) hh
            · exact hb4.keep (B := w.heap.size) (by (repeat' (first | with_reducible exact Below.refl _ _ | with_reducible assumption | (with_reducible refine Below.setCell ?_ ?_ _) | (with_reducible refine Below.alloc ?_ ?_ _) | (with_reducible refine below_drewN ?_ _) | (with_reducible refine Below.drew ?_) | omega | (simp; done) | (simp; omega)))) hh'
            · first | omega | (simp; omega)
            · first | omega | (simp; omega)
            rintro e w2 ⟨rfl, hbb2⟩
            have bw2 : Below w.heap.size w w2 := Below.trans (by (repeat' (first | with_reducible exact Below.refl _ _ | with_reducible assumption | (with_reducible refine Below.setCell ?_ ?_ _) | (with_reducible refine Below.alloc ?_ ?_ _) | (with_reducible refine below_drewN ?_ _) | (with_reducible refine Below.drew ?_) | omega | (simp; done) | (simp; omega)))) (hbb2.mono (by first | omega | (simp; done) | (simp; omega)))
            obtain ⟨hc2, _⟩ := bcell hbb2
            have hsz2 := hbb2.size
            have k2a0 : w2.cell? ⟨w.heap.size, 0, none⟩ = some (.int .i64 x0) := by rw [hc2 _ _ (by first | omega | (simp; done) | (simp; omega))]; go_simp
            have k2a1 : w2.cell? ⟨w.heap.size, 1, none⟩ = some (.string ⟨x1.toArray⟩) := by rw [hc2 _ _ (by first | omega | (simp; done) | (simp; omega))]; go_simp
            have k2a2 : w2.cell? ⟨w.heap.size, 2, none⟩ = some (.string ⟨x2.toArray⟩) := by rw [hc2 _ _ (by first | omega | (simp; done) | (simp; omega))]; go_simp
            have k2a3 : w2.cell? ⟨w.heap.size, 3, none⟩ = some (.slice Aa3 na3 ca3) := by rw [hc2 _ _ (by first | omega | (simp; done) | (simp; omega))]; go_simp
            have k2a4 : w2.cell? ⟨w.heap.size, 4, none⟩ = some (.slice Aa4 na4 ca4) := by rw [hc2 _ _ (by first | omega | (simp; done) | (simp; omega))]; go_simp
            have k2b0 : w2.cell? ⟨w.heap.size + 1, 0, none⟩ = some (.int .i64 x0) := by rw [hc2 _ _ (by first | omega | (simp; done) | (simp; omega))]; go_simp
            have k2b1 : w2.cell? ⟨w.heap.size + 1, 1, none⟩ = some (.string ⟨x1.toArray⟩) := by rw [hc2 _ _ (by first | omega | (simp; done) | (simp; omega))]; go_simp
            have k2b2 : w2.cell? ⟨w.heap.size + 1, 2, none⟩ = some (.string ⟨x2.toArray⟩) := by rw [hc2 _ _ (by first | omega | (simp; done) | (simp; omega))]; go_simp
            have k2b3 : w2.cell? ⟨w.heap.size + 1, 3, none⟩ = some (.slice Ab3 nb3 cb3) := by rw [hc2 _ _ (by first | omega | (simp; done) | (simp; omega))]; go_simp
            have k2b4 : w2.cell? ⟨w.heap.size + 1, 4, none⟩ = some (.slice Ab4 nb4 cb4) := by rw [hc2 _ _ (by first | omega | (simp; done) | (simp; omega))]; go_simp
            try simp at hsz2
            clear hc2 hbb2
            go_wp2
            go_ret
            exact ⟨ret_bool (by simp [e4]), by (repeat' (first | with_reducible exact Below.refl _ _ | with_reducible assumption | (with_reducible refine Below.setCell ?_ ?_ _) | (with_reducible refine Below.alloc ?_ ?_ _) | (with_reducible refine below_drewN ?_ _) | (with_reducible refine Below.drew ?_) | omega | (simp; done) | (simp; omega)))⟩
        · have q3 : decide (x3 = y3) = false := by simp [e3]
          go_enter Tryz.func33, Tryz.ntmps33
          go_wp2_with fail
          refine Calls.mono (eqStringS_any _ _ _ _ _ _ x3 y3 _ lo hi lo' hi' ?_ ?_) ?_
          · exact ha3.keep (B := w.heap.size) (by (repeat' (first | with_reducible exact Below.refl _ _ | with_reducible assumption | (with_reducible refine Below.setCell ?_ ?_ _) | (with_reducible refine Below.alloc ?_ ?_ _) | (with_reducible refine below_drewN ?_ _) | (with_reducible refine Below.drew ?_) | omega | (simp; done) | (simp; omega)))) hh
          · exact hb3.keep (B := w.heap.size) (by (repeat' (first | with_reducible exact Below.refl _ _ | with_reducible assumption | (with_reducible refine Below.setCell ?_ ?_ _) | (with_reducible refine Below.alloc ?_ ?_ _) | (with_reducible refine below_drewN ?_ _) | (with_reducible refine Below.drew ?_) | omega | (simp; done) | (simp; omega)))) hh'
          rintro e w1 ⟨rfl, k1, rfl⟩
          go_wp2
          go_ret
          exact ⟨ret_bool (by simp [e3]), by (repeat' (first | with_reducible exact Below.refl _ _ | with_reducible assumption | (with_reducible refine Below.setCell ?_ ?_ _) | (with_reducible refine Below.alloc ?_ ?_ _) | (with_reducible refine below_drewN ?_ _) | (with_reducible refine Below.drew ?_) | omega | (simp; done) | (simp; omega)))⟩
      · have q2 : (x2 == y2) = false := by simp [e2]
        go_enter Tryz.func33, Tryz.ntmps33
        go_wp2
        go_ret
        exact ⟨ret_bool (by simp [e2]), by (repeat' (first | with_reducible exact Below.refl _ _ | with_reducible assumption | (with_reducible refine Below.setCell ?_ ?_ _) | (with_reducible refine Below.alloc ?_ ?_ _) | (with_reducible refine below_drewN ?_ _) | (with_reducible refine Below.drew ?_) | omega | (simp; done) | (simp; omega)))⟩
    · have q1 : (x1 == y1) = false := by simp [e1]
      go_enter Tryz.func33, Tryz.ntmps33
      go_wp2
      go_ret
      exact ⟨ret_bool (by simp [e1]), by (repeat' (first | with_reducible exact Below.refl _ _ | with_reducible assumption | (with_reducible refine Below.setCell ?_ ?_ _) | (with_reducible refine Below.alloc ?_ ?_ _) | (with_reducible refine below_drewN ?_ _) | (with_reducible refine Below.drew ?_) | omega | (simp; done) | (simp; omega)))⟩
  · have q0 : (x0 != y0) = true := by simp [e0]
    go_enter Tryz.func33, Tryz.ntmps33
    go_wp2
    go_ret
    exact ⟨ret_bool (by simp [e0]), by (repeat' (first | with_reducible exact Below.refl _ _ | with_reducible assumption | (with_reducible refine Below.setCell ?_ ?_ _) | (with_reducible refine Below.alloc ?_ ?_ _) | (with_reducible refine below_drewN ?_ _) | (with_reducible refine Below.drew ?_) | omega | (simp; done) | (simp; omega)))⟩
set_option maxRecDepth 100000 in
set_option maxHeartbeats 400000 in
theorem eqChangeS_any (A1 A2 : Option Addr) (n1 c1 n2 c2 : Nat) (xs ys : List PChange) (w : World) (lo hi lo' hi' : Nat) (h1 : Rep w lo hi (encChanges xs) (.slice A1 n1 c1)) (h2 : Rep w lo' hi' (encChanges ys) (.slice A2 n2 c2)) (hh : hi ≤ w.heap.size) (hh' : hi' ≤ w.heap.size) :
    Calls Tryz.prog 11 #[.slice A1 n1 c1, .slice A2 n2 c2] w fun e w' => e = .returned (.bool (decide (xs = ys))) ∧ Below w.heap.size w w' := by
  have hl1 := Changes.n h1
  have hl2 := Changes.n h2
  obtain ⟨hc1, hm1⟩ := Changes.cap h1
  subst hl1 hl2
  by_cases hn : xs.length = ys.length
  · have hn' : ((xs.length : Int) != (ys.length : Int)) = false := by simp [hn]
    have Hn := Lib.hid hn
    clear hn
    go_enter Tryz.func11, Tryz.ntmps11
    go_wp2
    go_loopw [5] (fun i wr => ∃ k : Nat, k ≤ xs.length ∧ i = .int .i64 k ∧ Hid (xs.take k = ys.take k) ∧ Below w.heap.size w wr) (fun i _ => xs.length - (intOf i).toNat)
    case atStart => exact ⟨0, Nat.zero_le _, rfl, Lib.hid (by simp), Below.refl _ _⟩
    case round =>
      obtain ⟨k, hk, rfl, ht, hb⟩ := hrel
      by_cases hlt : k < xs.length
      · have hs := hb.size
        obtain ⟨b1, o1, x, rfl, _, _, hx, Aa3, na3, ca3, Aa4, na4, ca4, d0, d1, d2, d3, ra3, d4, ra4⟩ := Changes.at (h1.keep hb hh) hlt
        obtain ⟨b2, o2, y, rfl, _, _, hy, Ab3, nb3, cb3, Ab4, nb4, cb4, f0, f1, f2, f3, rb3, f4, rb4⟩ := Changes.at (h2.keep hb hh') (k := k) (by have := Hn.out; omega)
        have hlt' : (k : Int) < (xs.length : Int) := by omega
        have hlt2 : (k : Int) < (ys.length : Int) := by have := Hn.out; omega
        have hkey : xs.take (k + 1) = ys.take (k + 1) ↔ x = y := by
          rw [List.take_add_one, List.take_add_one, hx, hy, ht.out]; simp
        have Hk := Lib.hid hkey
        clear hx hy hkey
        by_cases he : x = y
        · have hd : decide (x = y) = true := by simp [he]
          have He := Lib.hid he
          clear he
          go_wp2
          go_still_tail 8, (by kernel_rfl)
          change wpList _ _ _ _ _ (wr.drewN 1)
          go_wp2_with fail
          refine Calls.mono (eqChange_any x y _ _ _ _ _ _ _ _ _ _ _ _ _ lo hi lo' hi' (ra3.drewN 1) (ra4.drewN 1) (rb3.drewN 1) (rb4.drewN 1) (by first | omega | (simp; done) | (simp; omega)) (by first | omega | (simp; done) | (simp; omega))) ?_
          rintro e w2 ⟨rfl, hb2⟩
          have hb2' : Below w.heap.size w w2 := (below_drewN hb 1).trans (hb2.mono (by first | omega | (simp; done) | (simp; omega)))
          go_wp2
          go_roundw
          case rel => exact ⟨k + 1, by omega, by go_num, Lib.hid (Hk.out.2 He.out), hb2'⟩
          case measure => simp [intOf]; omega
        · have hd : decide (x = y) = false := by simp [he]
          go_wp2
          go_still_tail 8, (by kernel_rfl)
          change wpList _ _ _ _ _ (wr.drewN 1)
          go_wp2_with fail
          refine Calls.mono (eqChange_any x y _ _ _ _ _ _ _ _ _ _ _ _ _ lo hi lo' hi' (ra3.drewN 1) (ra4.drewN 1) (rb3.drewN 1) (rb4.drewN 1) (by first | omega | (simp; done) | (simp; omega)) (by first | omega | (simp; done) | (simp; omega))) ?_
          rintro e w2 ⟨rfl, hb2⟩
          have hb2' : Below w.heap.size w w2 := (below_drewN hb 1).trans (hb2.mono (by first | omega | (simp; done) | (simp; omega)))
          go_wp2
          go_ret
          have hne : xs ≠ ys := fun e => he (Hk.out.1 (by rw [e]))
          exact ⟨ret_bool (by simp [hne]), hb2'⟩
      · go_wp2
        go_ret
        have heq : xs = ys := by
          have ht := ht.out
          have hn := Hn.out
          rwa [List.take_of_length_le (by omega), List.take_of_length_le (by omega)] at ht
        exact ⟨ret_bool (by simp [heq]), hb⟩
  · have hn' : ((xs.length : Int) != (ys.length : Int)) = true := by simp; omega
    go_enter Tryz.func11, Tryz.ntmps11
    go_wp2
    go_ret
    have hne : xs ≠ ys := fun e => hn (by rw [e])
    exact ⟨ret_bool (by simp [hne]), Below.refl _ _⟩
set_option maxRecDepth 100000 in
set_option maxHeartbeats 400000 in
theorem szChange_any (x : PChange) (Aa3 Aa4 : Option Addr) (na3 ca3 na4 ca4 : Nat) (w : World) (lo hi : Nat) (left : Int) (ha3 : Rep w lo hi (encText x.text) (.slice Aa3 na3 ca3)) (ha4 : Rep w lo hi (encHunks x.patch) (.slice Aa4 na4 ca4)) (hh : hi ≤ w.heap.size) (hok : okChange x) (h0 : 0 ≤ left) (h1 : left ≤ 1048576) :
    Calls Tryz.prog 16 #[.agg #[.int .i64 x.kind, .string ⟨x.path.toArray⟩, .string ⟨x.dest.toArray⟩, .slice Aa3 na3 ca3, .slice Aa4 na4 ca4], .int .i64 left] w fun e w' => (∃ r : Int, e = .returned (.int .i64 r) ∧ -1 ≤ r ∧ r ≤ left ∧ (0 ≤ r → (szChange x : Int) ≤ left - r)) ∧ Below w.heap.size w w' := by
  unfold okChange at hok
  unfold szChange
  go_enter Tryz.func16, Tryz.ntmps16
  have ok1 := hok.2.1
  by_cases g1 : left - (x.path.length : Int) < 0
  · go_wp2
    go_ret
    exact ⟨⟨-1, rfl, by omega, by omega, fun h => absurd h (by omega)⟩, by (repeat' (first | with_reducible exact Below.refl _ _ | with_reducible assumption | (with_reducible refine Below.setCell ?_ ?_ _) | (with_reducible refine Below.alloc ?_ ?_ _) | (with_reducible refine below_drewN ?_ _) | (with_reducible refine Below.drew ?_) | omega | (simp; done) | (simp; omega)))⟩
  ·
    have ok2 := hok.2.2.1
    by_cases g2 : (left - (x.path.length : Int)) - (x.dest.length : Int) < 0
    · go_wp2
      go_ret
      exact ⟨⟨-1, rfl, by omega, by omega, fun h => absurd h (by omega)⟩, by (repeat' (first | with_reducible exact Below.refl _ _ | with_reducible assumption | (with_reducible refine Below.setCell ?_ ?_ _) | (with_reducible refine Below.alloc ?_ ?_ _) | (with_reducible refine below_drewN ?_ _) | (with_reducible refine Below.drew ?_) | omega | (simp; done) | (simp; omega)))⟩
    ·
      go_wp2_with fail
      refine Calls.mono (szStringS_any _ _ _ x.text _ lo hi _ ?_ hok.2.2.2.1 ?_ ?_) ?_
      · exact ha3.keep (B := w.heap.size) (by (repeat' (first | with_reducible exact Below.refl _ _ | with_reducible assumption | (with_reducible refine Below.setCell ?_ ?_ _) | (with_reducible refine Below.alloc ?_ ?_ _) | (with_reducible refine below_drewN ?_ _) | (with_reducible refine Below.drew ?_) | omega | (simp; done) | (simp; omega)))) hh
      · omega
      · omega
      rintro e w3 ⟨⟨r3, rfl, hl3, hu3, hz3⟩, rfl⟩
      by_cases g3 : r3 < 0
      · go_wp2
        go_ret
        exact ⟨⟨-1, rfl, by omega, by omega, fun h => absurd h (by omega)⟩, by (repeat' (first | with_reducible exact Below.refl _ _ | with_reducible assumption | (with_reducible refine Below.setCell ?_ ?_ _) | (with_reducible refine Below.alloc ?_ ?_ _) | (with_reducible refine below_drewN ?_ _) | (with_reducible refine Below.drew ?_) | omega | (simp; done) | (simp; omega)))⟩
      ·
        go_wp2_with fail
        refine Calls.mono (szHunkS_any (e := 80) _ _ _ x.patch _ lo hi _ ?_ ?_ hok.2.2.2.2 ?_ ?_) ?_
        · exact ha4.keep (B := w.heap.size) (by (repeat' (first | with_reducible exact Below.refl _ _ | with_reducible assumption | (with_reducible refine Below.setCell ?_ ?_ _) | (with_reducible refine Below.alloc ?_ ?_ _) | (with_reducible refine below_drewN ?_ _) | (with_reducible refine Below.drew ?_) | omega | (simp; done) | (simp; omega)))) hh
        · first | omega | (simp; omega)
        · omega
        · omega
        rintro e w4 ⟨⟨r4, rfl, hl4, hu4, hz4⟩, hb4⟩
        have bw4 : Below w.heap.size w w4 := Below.trans (by (repeat' (first | with_reducible exact Below.refl _ _ | with_reducible assumption | (with_reducible refine Below.setCell ?_ ?_ _) | (with_reducible refine Below.alloc ?_ ?_ _) | (with_reducible refine below_drewN ?_ _) | (with_reducible refine Below.drew ?_) | omega | (simp; done) | (simp; omega)))) (hb4.mono (by first | omega | (simp; done) | (simp; omega)))
        obtain ⟨hc4, _⟩ := bcell hb4
        have hsz4 := hb4.size
        have k4a0 : w4.cell? ⟨w.heap.size, 0, none⟩ = some (.int .i64 x.kind) := by rw [hc4 _ _ (by first | omega | (simp; done) | (simp; omega))]; go_simp
        have k4a1 : w4.cell? ⟨w.heap.size, 1, none⟩ = some (.string ⟨x.path.toArray⟩) := by rw [hc4 _ _ (by first | omega | (simp; done) | (simp; omega))]; go_simp
        have k4a2 : w4.cell? ⟨w.heap.size, 2, none⟩ = some (.string ⟨x.dest.toArray⟩) := by rw [hc4 _ _ (by first | omega | (simp; done) | (simp; omega))]; go_simp
        have k4a3 : w4.cell? ⟨w.heap.size, 3, none⟩ = some (.slice Aa3 na3 ca3) := by rw [hc4 _ _ (by first | omega | (simp; done) | (simp; omega))]; go_simp
        have k4a4 : w4.cell? ⟨w.heap.size, 4, none⟩ = some (.slice Aa4 na4 ca4) := by rw [hc4 _ _ (by first | omega | (simp; done) | (simp; omega))]; go_simp
        try simp at hsz4
        clear hc4 hb4
        by_cases g4 : r4 < 0
        · go_wp2
          go_ret
          exact ⟨⟨-1, rfl, by omega, by omega, fun h => absurd h (by omega)⟩, by (repeat' (first | with_reducible exact Below.refl _ _ | with_reducible assumption | (with_reducible refine Below.setCell ?_ ?_ _) | (with_reducible refine Below.alloc ?_ ?_ _) | (with_reducible refine below_drewN ?_ _) | (with_reducible refine Below.drew ?_) | omega | (simp; done) | (simp; omega)))⟩
        ·
          go_wp2
          go_ret
          exact ⟨⟨_, rfl, by omega, by omega, fun _ => by omega⟩, by (repeat' (first | with_reducible exact Below.refl _ _ | with_reducible assumption | (with_reducible refine Below.setCell ?_ ?_ _) | (with_reducible refine Below.alloc ?_ ?_ _) | (with_reducible refine below_drewN ?_ _) | (with_reducible refine Below.drew ?_) | omega | (simp; done) | (simp; omega)))⟩
set_option maxRecDepth 100000 in
set_option maxHeartbeats 400000 in
theorem szChangeS_any (A : Option Addr) (n c : Nat) (xs : List PChange) (w : World) (lo hi : Nat) (left : Int) {e : Nat} (h : Rep w lo hi (encChangesE e xs) (.slice A n c)) (hh : hi ≤ w.heap.size) (hs : ∀ x ∈ xs, okChange x) (h0 : 0 ≤ left) (h1 : left ≤ 1048576) :
    Calls Tryz.prog 5 #[.slice A n c, .int .i64 left] w fun e w' => (∃ r : Int, e = .returned (.int .i64 r) ∧ -1 ≤ r ∧ r ≤ left ∧ (0 ≤ r → (szChanges xs : Int) ≤ left - r)) ∧ Below w.heap.size w w' := by
  have hl := Changes.n h
  obtain ⟨hc, hm⟩ := Changes.cap h
  subst hl
  by_cases hlt : left - (xs.length : Int) < 0
  · go_enter Tryz.func5, Tryz.ntmps5
    go_wp2
    go_ret
    exact ⟨⟨-1, rfl, by omega, by omega, fun h => absurd h (by omega)⟩, Below.refl _ _⟩
  · go_enter Tryz.func5, Tryz.ntmps5
    go_wp2
    go_loopw [1, 5] (fun l i wr => ∃ k : Nat, ∃ r : Int, k ≤ xs.length ∧ i = .int .i64 k ∧ l = .int .i64 r ∧ 0 ≤ r ∧ r ≤ left ∧ Hid ((xs.length + ((xs.take k).map szChange).sum : Int) ≤ left - r) ∧ Below w.heap.size w wr) (fun _ i _ => xs.length - (intOf i).toNat)
    case atStart => exact ⟨0, _, Nat.zero_le _, rfl, rfl, by omega, by omega, Lib.hid (by first | omega | (simp; done) | (simp; omega)), Below.refl _ _⟩
    case round =>
      obtain ⟨k, r, hk, rfl, rfl, hr0, hr1, ht, hb⟩ := hrel
      by_cases hkn : k < xs.length
      · obtain ⟨b1, o1, x, rfl, _, _, hx, Aa3, na3, ca3, Aa4, na4, ca4, d0, d1, d2, d3, ra3, d4, ra4⟩ := Changes.at (h.keep hb hh) hkn
        have hkn' : (k : Int) < (xs.length : Int) := by omega
        have hox := hs x (List.mem_of_getElem? hx)
        have hsum : ((xs.take (k + 1)).map szChange).sum = ((xs.take k).map szChange).sum + szChange x := by
          rw [List.take_add_one, hx]; simp
        have H1 := Lib.hid hsum
        have Hok := Lib.hid hox
        clear hsum hx hs hox
        go_wp2_with fail
        refine Calls.mono (szChange_any x _ _ _ _ _ _ _ lo hi r ra3 ra4 (Nat.le_trans hh hb.size) Hok.out (by omega) (by omega)) ?_
        rintro e w2 ⟨⟨r2, rfl, hl2, hu2, hz2⟩, hb2⟩
        have hb2' := hb.trans (hb2.mono hb.size)
        by_cases hneg : r2 < 0
        · go_wp2
          go_ret
          exact ⟨⟨-1, rfl, by omega, by omega, fun h => absurd h (by omega)⟩, hb2'⟩
        · go_wp2
          go_roundw
          case rel => exact ⟨k + 1, r2, by omega, by go_num, rfl, by omega, by omega, Lib.hid (by have := H1.out; have := ht.out; have := hz2 (by omega); omega), hb2'⟩
          case measure => simp [intOf]; omega
      · go_wp2
        go_ret
        refine ⟨⟨r, rfl, by omega, by omega, fun _ => ?_⟩, hb⟩
        have ht := ht.out
        rw [List.take_of_length_le (by omega)] at ht
        unfold szChanges
        omega
theorem zeroChange : True := trivial
set_option maxRecDepth 100000 in
set_option maxHeartbeats 800000 in
theorem toChange_any (x : PChange) (Aa3 Aa4 : Option Addr) (na3 ca3 na4 ca4 : Nat) (w : World) (lo hi : Nat) (ha3 : Rep w lo hi (encText x.text) (.slice Aa3 na3 ca3)) (ha4 : Rep w lo hi (encHunks x.patch) (.slice Aa4 na4 ca4)) (hh : hi ≤ w.heap.size) (hs3 : x.text.length ≤ 1048576) (hs4 : szHunks x.patch ≤ 1048576) :
    Calls Tryz.prog 22 #[.agg #[.int .i64 x.kind, .string ⟨x.path.toArray⟩, .string ⟨x.dest.toArray⟩, .slice Aa3 na3 ca3, .slice Aa4 na4 ca4]] w fun e w' => ∃ Ao3 no3 co3 Ao4 no4 co4, e = .returned (.agg #[.int .i64 x.kind, .string ⟨x.path.toArray⟩, .string ⟨x.dest.toArray⟩, .slice Ao3 no3 co3, .slice Ao4 no4 co4]) ∧ Below w.heap.size w w' ∧ FreshL w' w.heap.size w'.heap.size (cChanges x) [.int .i64 x.kind, .string ⟨x.path.toArray⟩, .string ⟨x.dest.toArray⟩, .slice Ao3 no3 co3, .slice Ao4 no4 co4] := by
  obtain ⟨x0, x1, x2, x3, x4⟩ := x
  dsimp only at *
  go_enter Tryz.func22, Tryz.ntmps22
  go_wp2_with fail
  refine Calls.mono (toStringS_any _ _ _ x3 _ lo hi ?_ ?_ hs3) ?_
  · exact ha3.keep (B := w.heap.size) (by (repeat' (first | with_reducible exact Below.refl _ _ | with_reducible assumption | (with_reducible refine Below.setCell ?_ ?_ _) | (with_reducible refine Below.alloc ?_ ?_ _) | (with_reducible refine below_drewN ?_ _) | (with_reducible refine Below.drew ?_) | omega | (simp; done) | (simp; omega)))) hh
  · first | omega | (simp; omega)
  rintro e w1 ⟨Ao3, no3, co3, rfl, hb1, hf1⟩
  have bw1 : Below w.heap.size w w1 := Below.trans (by (repeat' (first | with_reducible exact Below.refl _ _ | with_reducible assumption | (with_reducible refine Below.setCell ?_ ?_ _) | (with_reducible refine Below.alloc ?_ ?_ _) | (with_reducible refine below_drewN ?_ _) | (with_reducible refine Below.drew ?_) | omega | (simp; done) | (simp; omega)))) (hb1.mono (by first | omega | (simp; done) | (simp; omega)))
  obtain ⟨hc1, hz1⟩ := bcell hb1
  have hsz1 := hb1.size
  have k1p0 : w1.cell? ⟨w.heap.size, 0, none⟩ = some (.int .i64 x0) := by rw [hc1 _ _ (by first | omega | (simp; done) | (simp; omega))]; go_simp
  have k1r0 : w1.cell? ⟨w.heap.size + 1, 0, none⟩ = some (.int .i64 0) := by rw [hc1 _ _ (by first | omega | (simp; done) | (simp; omega))]; go_simp
  have k1o0 : w1.cell? ⟨w.heap.size + 1 + 1, 0, none⟩ = some (.int .i64 x0) := by rw [hc1 _ _ (by first | omega | (simp; done) | (simp; omega))]; go_simp
  have k1p1 : w1.cell? ⟨w.heap.size, 1, none⟩ = some (.string ⟨x1.toArray⟩) := by rw [hc1 _ _ (by first | omega | (simp; done) | (simp; omega))]; go_simp
  have k1r1 : w1.cell? ⟨w.heap.size + 1, 1, none⟩ = some (.string ⟨#[]⟩) := by rw [hc1 _ _ (by first | omega | (simp; done) | (simp; omega))]; go_simp
  have k1o1 : w1.cell? ⟨w.heap.size + 1 + 1, 1, none⟩ = some (.string ⟨x1.toArray⟩) := by rw [hc1 _ _ (by first | omega | (simp; done) | (simp; omega))]; go_simp
  have k1p2 : w1.cell? ⟨w.heap.size, 2, none⟩ = some (.string ⟨x2.toArray⟩) := by rw [hc1 _ _ (by first | omega | (simp; done) | (simp; omega))]; go_simp
  have k1r2 : w1.cell? ⟨w.heap.size + 1, 2, none⟩ = some (.string ⟨#[]⟩) := by rw [hc1 _ _ (by first | omega | (simp; done) | (simp; omega))]; go_simp
  have k1o2 : w1.cell? ⟨w.heap.size + 1 + 1, 2, none⟩ = some (.string ⟨x2.toArray⟩) := by rw [hc1 _ _ (by first | omega | (simp; done) | (simp; omega))]; go_simp
  have k1p3 : w1.cell? ⟨w.heap.size, 3, none⟩ = some (.slice Aa3 na3 ca3) := by rw [hc1 _ _ (by first | omega | (simp; done) | (simp; omega))]; go_simp
  have k1r3 : w1.cell? ⟨w.heap.size + 1, 3, none⟩ = some (.slice none 0 0) := by rw [hc1 _ _ (by first | omega | (simp; done) | (simp; omega))]; go_simp
  have k1o3 : w1.cell? ⟨w.heap.size + 1 + 1, 3, none⟩ = some (.slice none 0 0) := by rw [hc1 _ _ (by first | omega | (simp; done) | (simp; omega))]; go_simp
  have k1p4 : w1.cell? ⟨w.heap.size, 4, none⟩ = some (.slice Aa4 na4 ca4) := by rw [hc1 _ _ (by first | omega | (simp; done) | (simp; omega))]; go_simp
  have k1r4 : w1.cell? ⟨w.heap.size + 1, 4, none⟩ = some (.slice none 0 0) := by rw [hc1 _ _ (by first | omega | (simp; done) | (simp; omega))]; go_simp
  have k1o4 : w1.cell? ⟨w.heap.size + 1 + 1, 4, none⟩ = some (.slice none 0 0) := by rw [hc1 _ _ (by first | omega | (simp; done) | (simp; omega))]; go_simp
  have z1r : ∀ j, w1.frozen? ⟨w.heap.size + 1, j, none⟩ = false := fun j => by rw [hz1 _ _ (by first | omega | (simp; done) | (simp; omega))]; go_simp
  have z1o : ∀ j, w1.frozen? ⟨w.heap.size + 1 + 1, j, none⟩ = false := fun j => by rw [hz1 _ _ (by first | omega | (simp; done) | (simp; omega))]; go_simp
  try simp at hsz1
  try simp at hf1
  clear hc1 hz1 hb1
  go_wp2_with fail
  refine Calls.mono (toHunkS_any (e := 80) _ _ _ x4 _ lo hi ?_ ?_ hs4) ?_
  · exact ha4.keep (B := w.heap.size) (by (repeat' (first | with_reducible exact Below.refl _ _ | with_reducible assumption | (with_reducible refine Below.setCell ?_ ?_ _) | (with_reducible refine Below.alloc ?_ ?_ _) | (with_reducible refine below_drewN ?_ _) | (with_reducible refine Below.drew ?_) | omega | (simp; done) | (simp; omega)))) hh
  · first | omega | (simp; omega)
  rintro e w2 ⟨Ao4, no4, co4, rfl, hb2, hf2⟩
  have bw2 : Below w.heap.size w w2 := Below.trans (by (repeat' (first | with_reducible exact Below.refl _ _ | with_reducible assumption | (with_reducible refine Below.setCell ?_ ?_ _) | (with_reducible refine Below.alloc ?_ ?_ _) | (with_reducible refine below_drewN ?_ _) | (with_reducible refine Below.drew ?_) | omega | (simp; done) | (simp; omega)))) (hb2.mono (by first | omega | (simp; done) | (simp; omega)))
  obtain ⟨hc2, hz2⟩ := bcell hb2
  have hsz2 := hb2.size
  have k2p0 : w2.cell? ⟨w.heap.size, 0, none⟩ = some (.int .i64 x0) := by rw [hc2 _ _ (by first | omega | (simp; done) | (simp; omega))]; go_simp
  have k2r0 : w2.cell? ⟨w.heap.size + 1, 0, none⟩ = some (.int .i64 0) := by rw [hc2 _ _ (by first | omega | (simp; done) | (simp; omega))]; go_simp
  have k2o0 : w2.cell? ⟨w.heap.size + 1 + 1, 0, none⟩ = some (.int .i64 x0) := by rw [hc2 _ _ (by first | omega | (simp; done) | (simp; omega))]; go_simp
  have k2p1 : w2.cell? ⟨w.heap.size, 1, none⟩ = some (.string ⟨x1.toArray⟩) := by rw [hc2 _ _ (by first | omega | (simp; done) | (simp; omega))]; go_simp
  have k2r1 : w2.cell? ⟨w.heap.size + 1, 1, none⟩ = some (.string ⟨#[]⟩) := by rw [hc2 _ _ (by first | omega | (simp; done) | (simp; omega))]; go_simp
  have k2o1 : w2.cell? ⟨w.heap.size + 1 + 1, 1, none⟩ = some (.string ⟨x1.toArray⟩) := by rw [hc2 _ _ (by first | omega | (simp; done) | (simp; omega))]; go_simp
  have k2p2 : w2.cell? ⟨w.heap.size, 2, none⟩ = some (.string ⟨x2.toArray⟩) := by rw [hc2 _ _ (by first | omega | (simp; done) | (simp; omega))]; go_simp
  have k2r2 : w2.cell? ⟨w.heap.size + 1, 2, none⟩ = some (.string ⟨#[]⟩) := by rw [hc2 _ _ (by first | omega | (simp; done) | (simp; omega))]; go_simp
  have k2o2 : w2.cell? ⟨w.heap.size + 1 + 1, 2, none⟩ = some (.string ⟨x2.toArray⟩) := by rw [hc2 _ _ (by first | omega | (simp; done) | (simp; omega))]; go_simp
  have k2p3 : w2.cell? ⟨w.heap.size, 3, none⟩ = some (.slice Aa3 na3 ca3) := by rw [hc2 _ _ (by first | omega | (simp; done) | (simp; omega))]; go_simp
  have k2r3 : w2.cell? ⟨w.heap.size + 1, 3, none⟩ = some (.slice none 0 0) := by rw [hc2 _ _ (by first | omega | (simp; done) | (simp; omega))]; go_simp
  have k2o3 : w2.cell? ⟨w.heap.size + 1 + 1, 3, none⟩ = some (.slice Ao3 no3 co3) := by rw [hc2 _ _ (by first | omega | (simp; done) | (simp; omega))]; go_simp
  have k2p4 : w2.cell? ⟨w.heap.size, 4, none⟩ = some (.slice Aa4 na4 ca4) := by rw [hc2 _ _ (by first | omega | (simp; done) | (simp; omega))]; go_simp
  have k2r4 : w2.cell? ⟨w.heap.size + 1, 4, none⟩ = some (.slice none 0 0) := by rw [hc2 _ _ (by first | omega | (simp; done) | (simp; omega))]; go_simp
  have k2o4 : w2.cell? ⟨w.heap.size + 1 + 1, 4, none⟩ = some (.slice none 0 0) := by rw [hc2 _ _ (by first | omega | (simp; done) | (simp; omega))]; go_simp
  have z2r : ∀ j, w2.frozen? ⟨w.heap.size + 1, j, none⟩ = false := fun j => by rw [hz2 _ _ (by first | omega | (simp; done) | (simp; omega))]; go_simp
  have z2o : ∀ j, w2.frozen? ⟨w.heap.size + 1 + 1, j, none⟩ = false := fun j => by rw [hz2 _ _ (by first | omega | (simp; done) | (simp; omega))]; go_simp
  replace hf1 := hf1.same (w' := w2) (Same.trans (by (repeat' (first | with_reducible exact Same.refl _ _ _ | (with_reducible refine Same.setCell ?_ ?_ _) | omega | (simp; done) | (simp; omega)))) (Same.of_below hb2 (by simp)))
  try simp at hsz2
  try simp at hf2
  clear hc2 hz2 hb2
  go_wp2
  refine bodyPost_ret (v := .agg #[.int .i64 x0, .string ⟨x1.toArray⟩, .string ⟨x2.toArray⟩, .slice Ao3 no3 co3, .slice Ao4 no4 co4]) (by simp [results, Tryz.results22, go_sem, k2r0, k2r1, k2r2, k2r3, k2r4]) rfl ?_
  exact ⟨Ao3, no3, co3, Ao4, no4, co4, rfl, by (repeat' (first | with_reducible exact Below.refl _ _ | with_reducible assumption | (with_reducible refine Below.setCell ?_ ?_ _) | (with_reducible refine Below.alloc ?_ ?_ _) | (with_reducible refine below_drewN ?_ _) | (with_reducible refine Below.drew ?_) | omega | (simp; done) | (simp; omega))), FreshL.mono (FreshL.plain ⟨rfl, rfl⟩ (FreshL.plain ⟨rfl, rfl⟩ (FreshL.plain ⟨rfl, rfl⟩ (FreshL.cons (hf1.same (by (repeat' (first | with_reducible exact Same.refl _ _ _ | (with_reducible refine Same.setCell ?_ ?_ _) | omega | (simp; done) | (simp; omega))))) (FreshL.cons (hf2.same (by (repeat' (first | with_reducible exact Same.refl _ _ _ | (with_reducible refine Same.setCell ?_ ?_ _) | omega | (simp; done) | (simp; omega))))) (FreshL.nil _ _ _) (by first | omega | (simp; done) | (simp; omega)) (by first | omega | (simp; done) | (simp; omega))) (by first | omega | (simp; done) | (simp; omega)) (by first | omega | (simp; done) | (simp; omega)))))) (by first | omega | (simp; done) | (simp; omega)) (Nat.le_refl _)⟩
theorem Tryz.infoChange : (Tryz.prog.info? 52).map (fun i => (i.zero, i.size, i.bytes)) = some (some (.agg #[.int .i64 0, .string ⟨#[]⟩, .string ⟨#[]⟩, .slice none 0 0, .slice none 0 0]), 5, 88) := by kernel_rfl
set_option maxRecDepth 100000 in
set_option maxHeartbeats 800000 in
theorem toChangeS_any (A : Option Addr) (n c : Nat) (xs : List PChange) (w : World) (lo hi : Nat) {e : Nat} (h : Rep w lo hi (encChangesE e xs) (.slice A n c)) (hh : hi ≤ w.heap.size) (hsz : szChanges xs ≤ 1048576) :
    Calls Tryz.prog 8 #[.slice A n c] w fun e w' => ∃ A' n' c', e = .returned (.slice A' n' c') ∧ Below w.heap.size w w' ∧ Fresh w' w.heap.size w'.heap.size (encChanges xs) (.slice A' n' c') := by
  have hl := Changes.n h
  obtain ⟨hc, hm⟩ := Changes.cap h
  subst hl
  have hn : xs.length ≤ 1048576 := by unfold szChanges at hsz; omega
  have hall : ∀ x ∈ xs, szChange x ≤ 1048576 := by
    intro x hx
    have : szChange x ≤ (xs.map szChange).sum := le_sum_of_mem (List.mem_map_of_mem hx)
    unfold szChanges at hsz; omega
  obtain ⟨i, hi0, hi1, hi2, hi3⟩ := info_parts Tryz.infoChange
  go_enter Tryz.func8, Tryz.ntmps8
  go_wp2_with (at_make; refine wpList_make_full _ rfl _ _ _ rfl w.heap.size 52 i _ 5 Tryz.underlying30 hi0 hi1 hi2 _ _ _ _ xs.length rfl rfl rfl rfl ?c1 ?c2 ?c3 ?_)
  case c1 => rw [hi3]; omega
  case c2 => unfold maxLen; omega
  case c3 => exact Nat.le_refl _
  intro w1 hown hg
  have hb1 : Below w.heap.size w w1 := (Below.refl _ _).grown hg (Nat.le_refl _) (by simp)
  have hsz1 : w.heap.size < w1.heap.size := (hown.lt _ rfl).2
  go_wp2
  go_loopw [4] (fun i wr => ∃ (k : Nat) (us : List Value), k ≤ xs.length ∧ i = .int .i64 k ∧ wr.ownsRow w.heap.size 52 5 (.slice (some ⟨w.heap.size, 0, none⟩) xs.length xs.length) xs.length us ∧
      FreshL wr (w.heap.size + 1) wr.heap.size ((xs.take k).flatMap cChanges) (us.take (k * 5)) ∧ Below w.heap.size w wr ∧ w.heap.size < wr.heap.size) (fun i _ => xs.length - (intOf i).toNat)
  case atStart => exact ⟨0, _, Nat.zero_le _, rfl, hown, by simp; exact FreshL.nil _ _ _, hb1, hsz1⟩
  case round =>
    clear hown hg hb1 hsz1
    obtain ⟨k, us, hk, rfl, hown, hfl, hb, hsz1⟩ := hrel
    by_cases hkn : k < xs.length
    · obtain ⟨b1, o1, x, rfl, _, _, hx, Aa3, na3, ca3, Aa4, na4, ca4, d0, d1, d2, d3, ra3, d4, ra4⟩ := Changes.at (h.keep hb hh) hkn
      have hkn' : (k : Int) < (xs.length : Int) := by omega
      have hsm := hall x (List.mem_of_getElem? hx)
      have Hsm := Lib.hid hsm
      have Hx := Lib.hid hx
      clear hsm hx hall hsz
      go_wp2_with fail
      refine Calls.mono (toChange_any x _ _ _ _ _ _ wr lo hi ra3 ra4 (Nat.le_trans hh hb.size) (by have := Hsm.out; unfold szChange at this; unfold total at this; omega) (by have := Hsm.out; unfold szChange at this; omega)) ?_
      rintro e w2 ⟨Ao3, no3, co3, Ao4, no4, co4, rfl, hb2, hf2⟩
      have hown2 := ownsRow_same (w' := w2) hown (fun q hq => hb2.block q (by simp [Value.ownBlock] at hq; omega))
      have hfl2 := hfl.same (w' := w2) (Same.of_below hb2 (Nat.le_refl _))
      have hb3 := hb.trans (hb2.mono hb.size)
      have hsz3 : w.heap.size < w2.heap.size := Nat.lt_of_lt_of_le hsz1 hb2.size
      have hul := hown2.1
      obtain ⟨u0, hu0⟩ : ∃ u, us[k * 5]? = some u := ⟨us[k * 5]'(by omega), List.getElem?_eq_getElem (by omega)⟩
      have y0 := hown2.cellAt (k * 5) (by omega)
      rw [hu0] at y0
      obtain ⟨u1, hu1⟩ : ∃ u, us[k * 5 + 1]? = some u := ⟨us[k * 5 + 1]'(by omega), List.getElem?_eq_getElem (by omega)⟩
      have y1 := hown2.cellAt (k * 5 + 1) (by omega)
      rw [hu1] at y1
      obtain ⟨u2, hu2⟩ : ∃ u, us[k * 5 + 2]? = some u := ⟨us[k * 5 + 2]'(by omega), List.getElem?_eq_getElem (by omega)⟩
      have y2 := hown2.cellAt (k * 5 + 2) (by omega)
      rw [hu2] at y2
      obtain ⟨u3, hu3⟩ : ∃ u, us[k * 5 + 3]? = some u := ⟨us[k * 5 + 3]'(by omega), List.getElem?_eq_getElem (by omega)⟩
      have y3 := hown2.cellAt (k * 5 + 3) (by omega)
      rw [hu3] at y3
      obtain ⟨u4, hu4⟩ : ∃ u, us[k * 5 + 4]? = some u := ⟨us[k * 5 + 4]'(by omega), List.getElem?_eq_getElem (by omega)⟩
      have y4 := hown2.cellAt (k * 5 + 4) (by omega)
      rw [hu4] at y4
      have hfr := fun j => hown2.frozenAt j
      have s0 := (hown2.stored (k * 5) (.int .i64 x.kind)).1
      have s1 := (s0.stored (k * 5 + 1) (.string ⟨x.path.toArray⟩)).1
      have s2 := (s1.stored (k * 5 + 2) (.string ⟨x.dest.toArray⟩)).1
      have s3 := (s2.stored (k * 5 + 3) (.slice Ao3 no3 co3)).1
      have s4 := (s3.stored (k * 5 + 4) (.slice Ao4 no4 co4)).1
      have htake : (((((us.set (k * 5) (.int .i64 x.kind)).set (k * 5 + 1) (.string ⟨x.path.toArray⟩)).set (k * 5 + 2) (.string ⟨x.dest.toArray⟩)).set (k * 5 + 3) (.slice Ao3 no3 co3)).set (k * 5 + 4) (.slice Ao4 no4 co4)).take ((k + 1) * 5) = us.take (k * 5) ++ [.int .i64 x.kind, .string ⟨x.path.toArray⟩, .string ⟨x.dest.toArray⟩, .slice Ao3 no3 co3, .slice Ao4 no4 co4] := by
        rw [show (k + 1) * 5 = k * 5 + 1 + 1 + 1 + 1 + 1 by omega]
        rw [take_set1 (by first | omega | (simp; done) | (simp; omega)), take_set1 (by first | omega | (simp; done) | (simp; omega)), take_set1 (by first | omega | (simp; done) | (simp; omega)), take_set1 (by first | omega | (simp; done) | (simp; omega)), take_set1 (by first | omega | (simp; done) | (simp; omega))]; simp
      have hflat : (xs.take (k + 1)).flatMap cChanges = (xs.take k).flatMap cChanges ++ cChanges x := by rw [List.take_add_one, Hx.out]; simp
      have hnew := hfl2.append hf2 (by omega) hb2.size
      rw [← htake, ← hflat] at hnew
      have Hf := Lib.hid hnew
      clear hu0 hu1 hu2 hu3 hu4 s0 s1 s2 s3 htake hflat hul hfl hfl2 hf2 hnew hb2 hown hown2
      go_wp2
      go_roundw
      case rel => exact ⟨k + 1, _, by omega, by go_num, s4, FreshL.mono (Hf.out.same (by (repeat' (first | with_reducible exact Same.refl _ _ _ | (with_reducible refine Same.setCell ?_ ?_ _) | omega | (simp; done) | (simp; omega))))) (Nat.le_refl _) (by first | omega | (simp; done) | (simp; omega)), by (repeat' (first | with_reducible exact Below.refl _ _ | with_reducible assumption | (with_reducible refine Below.setCell ?_ ?_ _) | (with_reducible refine Below.alloc ?_ ?_ _) | (with_reducible refine below_drewN ?_ _) | (with_reducible refine Below.drew ?_) | omega | (simp; done) | (simp; omega))), by simpa using hsz3⟩
      case measure => simp [intOf]; omega
    · go_wp2
      go_ret
      have hul := hown.1
      rw [List.take_of_length_le (by omega), List.take_of_length_le (by omega)] at hfl
      exact ⟨_, _, _, rfl, hb, Fresh.row_above hown hfl (fun g hg => by simp [Value.ownBlock] at hg; omega) (by omega) (Nat.le_refl _)⟩
end Go.Proofs.YtmickenajhppoaaGreatDoor
