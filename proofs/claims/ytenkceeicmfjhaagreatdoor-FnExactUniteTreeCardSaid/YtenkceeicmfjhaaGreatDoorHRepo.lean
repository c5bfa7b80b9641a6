import Derived.Test.YtenkceeicmfjhaaGreatDoorZ02
import Derived.Test.YtenkceeicmfjhaaGreatDoorHCommit
import Derived.Test.YtenkceeicmfjhaaGreatDoorHHead
import Derived.StillTailTactics
/- Walks: the laws' own helpers at Repo: sz, to, eq. Printed by wip/harness.py. -/
namespace Go.Proofs.YtenkceeicmfjhaaGreatDoor
open Go.RowKit
def szRepo (x : PRepo) : Nat := szCommits x.commits + szHeads x.heads
def szRepos (xs : List PRepo) : Nat := xs.length + (xs.map szRepo).sum
def okRepo (x : PRepo) : Prop := (∀ y ∈ x.commits, okCommit y) ∧ (∀ y ∈ x.heads, okHead y)
set_option maxRecDepth 100000 in
set_option maxHeartbeats 400000 in
theorem eqRepo_any (x y : PRepo) (Aa0 Aa1 : Option Addr) (na0 ca0 na1 ca1 : Nat) (Ab0 Ab1 : Option Addr) (nb0 cb0 nb1 cb1 : Nat) (w : World) (lo hi lo' hi' : Nat) (ha0 : Rep w lo hi (encCommits x.commits) (.slice Aa0 na0 ca0)) (ha1 : Rep w lo hi (encHeads x.heads) (.slice Aa1 na1 ca1)) (hb0 : Rep w lo' hi' (encCommits y.commits) (.slice Ab0 nb0 cb0)) (hb1 : Rep w lo' hi' (encHeads y.heads) (.slice Ab1 nb1 cb1)) (hh : hi ≤ w.heap.size) (hh' : hi' ≤ w.heap.size) :
    Calls Tryz.prog 9 #[.agg #[.slice Aa0 na0 ca0, .slice Aa1 na1 ca1], .agg #[.slice Ab0 nb0 cb0, .slice Ab1 nb1 cb1]] w fun e w' => e = .returned (.bool (decide (x = y))) ∧ Below w.heap.size w w' := by
  obtain ⟨x0, x1⟩ := x
  obtain ⟨y0, y1⟩ := y
  dsimp only at *
  by_cases e0 : x0 = y0
  · subst e0
    by_cases e1 : x1 = y1
    · subst e1
      go_enter Tryz.func9, Tryz.ntmps9
      go_wp2_with fail
      refine Calls.mono (eqCommitS_any _ _ _ _ _ _ x0 x0 _ lo hi lo' hi' ?_ ?_ ?_ ?_) ?_
      · exact ha0.keep (B := w.heap.size) (by (repeat' (first | with_reducible exact Below.refl _ _ | with_reducible assumption | (with_reducible refine Below.setCell ?_ ?_ _) | (with_reducible refine Below.alloc ?_ ?_ _) | (with_reducible refine below_drewN ?_ _) | (with_reducible refine Below.drew ?_) | omega | (simp; done) | (simp; omega)))) hh
      · exact hb0.keep (B := w.heap.size) (by (repeat' (first | with_reducible exact Below.refl _ _ | with_reducible assumption | (with_reducible refine Below.setCell ?_ ?_ _) | (with_reducible refine Below.alloc ?_ ?_ _) | (with_reducible refine below_drewN ?_ _) | (with_reducible refine Below.drew ?_) | omega | (simp; done) | (simp; omega)))) hh'
      · first | omega | (simp; omega)
      · first | omega | (simp; omega)
      rintro e w1 ⟨rfl, hbb1⟩
      have bw1 : Below w.heap.size w w1 := Below.trans (by (repeat' (first | with_reducible exact Below.refl _ _ | with_reducible assumption | (with_reducible refine Below.setCell ?_ ?_ _) | (with_reducible refine Below.alloc ?_ ?_ _) | (with_reducible refine below_drewN ?_ _) | (with_reducible refine Below.drew ?_) | omega | (simp; done) | (simp; omega)))) (hbb1.mono (by first | omega | (simp; done) | (simp; omega)))
      obtain ⟨hc1, _⟩ := bcell hbb1
      have hsz1 := hbb1.size
      have k1a0 : w1.cell? ⟨w.heap.size, 0, none⟩ = some (.slice Aa0 na0 ca0) := by rw [hc1 _ _ (by first | omega | (simp; done) | (simp; omega))]; go_simp
      have k1a1 : w1.cell? ⟨w.heap.size, 1, none⟩ = some (.slice Aa1 na1 ca1) := by rw [hc1 _ _ (by first | omega | (simp; done) | (simp; omega))]; go_simp
      have k1b0 : w1.cell? ⟨w.heap.size + 1, 0, none⟩ = some (.slice Ab0 nb0 cb0) := by rw [hc1 _ _ (by first | omega | (simp; done) | (simp; omega))]; go_simp
      have k1b1 : w1.cell? ⟨w.heap.size + 1, 1, none⟩ = some (.slice Ab1 nb1 cb1) := by rw [hc1 _ _ (by first | omega | (simp; done) | (simp; omega))]; go_simp
      try simp at hsz1
      clear hc1 hbb1
      go_wp2_with fail
      refine Calls.mono (eqHeadS_any _ _ _ _ _ _ x1 x1 _ lo hi lo' hi' ?_ ?_ ?_ ?_) ?_
      · exact ha1.keep (B := w.heap.size) (by (repeat' (first | with_reducible exact Below.refl _ _ | with_reducible assumption | (with_reducible refine Below.setCell ?_ ?_ _) | (with_reducible refine Below.alloc ?_ ?_ _) | (with_reducible refine below_drewN ?_ _) | (with_reducible refine Below.drew ?_) | omega | (simp; done) | (simp; omega)))) hh
      · exact hb1.keep (B := w.heap.size) (by (repeat' (first | with_reducible exact Below.refl _ _ | with_reducible assumption | (with_reducible refine Below.setCell ?_ ?_ _) | (with_reducible refine Below.alloc ?_ ?_ _) | (with_reducible refine below_drewN ?_ _) | (with_reducible refine Below.drew ?_) | omega | (simp; done) | (simp; omega)))) hh'
      · first | omega | (simp; omega)
      · first | omega | (simp; omega)
      rintro e w2 ⟨rfl, hbb2⟩
      have bw2 : Below w.heap.size w w2 := Below.trans (by (repeat' (first | with_reducible exact Below.refl _ _ | with_reducible assumption | (with_reducible refine Below.setCell ?_ ?_ _) | (with_reducible refine Below.alloc ?_ ?_ _) | (with_reducible refine below_drewN ?_ _) | (with_reducible refine Below.drew ?_) | omega | (simp; done) | (simp; omega)))) (hbb2.mono (by first | omega | (simp; done) | (simp; omega)))
      obtain ⟨hc2, _⟩ := bcell hbb2
      have hsz2 := hbb2.size
      have k2a0 : w2.cell? ⟨w.heap.size, 0, none⟩ = some (.slice Aa0 na0 ca0) := by rw [hc2 _ _ (by first | omega | (simp; done) | (simp; omega))]; go_simp
      have k2a1 : w2.cell? ⟨w.heap.size, 1, none⟩ = some (.slice Aa1 na1 ca1) := by rw [hc2 _ _ (by first | omega | (simp; done) | (simp; omega))]; go_simp
      have k2b0 : w2.cell? ⟨w.heap.size + 1, 0, none⟩ = some (.slice Ab0 nb0 cb0) := by rw [hc2 _ _ (by first | omega | (simp; done) | (simp; omega))]; go_simp
      have k2b1 : w2.cell? ⟨w.heap.size + 1, 1, none⟩ = some (.slice Ab1 nb1 cb1) := by rw [hc2 _ _ (by first | omega | (simp; done) | (simp; omega))]; go_simp
      try simp at hsz2
      clear hc2 hbb2
      go_wp2
      go_ret
      exact ⟨ret_bool (by simp), by (repeat' (first | with_reducible exact Below.refl _ _ | with_reducible assumption | (with_reducible refine Below.setCell ?_ ?_ _) | (with_reducible refine Below.alloc ?_ ?_ _) | (with_reducible refine below_drewN ?_ _) | (with_reducible refine Below.drew ?_) | omega | (simp; done) | (simp; omega)))⟩
    · have q1 : decide (x1 = y1) = false := by simp [e1]
      go_enter Tryz.func9, Tryz.ntmps9
      go_wp2_with fail
      refine Calls.mono (eqCommitS_any _ _ _ _ _ _ x0 x0 _ lo hi lo' hi' ?_ ?_ ?_ ?_) ?_
      · exact ha0.keep (B := w.heap.size) (by (repeat' (first | with_reducible exact Below.refl _ _ | with_reducible assumption | (with_reducible refine Below.setCell ?_ ?_ _) | (with_reducible refine Below.alloc ?_ ?_ _) | (with_reducible refine below_drewN ?_ _) | (with_reducible refine Below.drew ?_) | omega | (simp; done) | (simp; omega)))) hh
      · exact hb0.keep (B := w.heap.size) (by (repeat' (first | with_reducible exact Below.refl _ _ | with_reducible assumption | (with_reducible refine Below.setCell ?_ ?_ _) | (with_reducible refine Below.alloc ?_ ?_ _) | (with_reducible refine below_drewN ?_ _) | (with_reducible refine Below.drew ?_) | omega | (simp; done) | (simp; omega)))) hh'
      · first | omega | (simp; omega)
      · first | omega | (simp; omega)
      rintro e w1 ⟨rfl, hbb1⟩
      have bw1 : Below w.heap.size w w1 := Below.trans (by (repeat' (first | with_reducible exact Below.refl _ _ | with_reducible assumption | (with_reducible refine Below.setCell ?_ ?_ _) | (with_reducible refine Below.alloc ?_ ?_ _) | (with_reducible refine below_drewN ?_ _) | (with_reducible refine Below.drew ?_) | omega | (simp; done) | (simp; omega)))) (hbb1.mono (by first | omega | (simp; done) | (simp; omega)))
      obtain ⟨hc1, _⟩ := bcell hbb1
      have hsz1 := hbb1.size
      have k1a0 : w1.cell? ⟨w.heap.size, 0, none⟩ = some (.slice Aa0 na0 ca0) := by rw [hc1 _ _ (by first | omega | (simp; done) | (simp; omega))]; go_simp
      have k1a1 : w1.cell? ⟨w.heap.size, 1, none⟩ = some (.slice Aa1 na1 ca1) := by rw [hc1 _ _ (by first | omega | (simp; done) | (simp; omega))]; go_simp
      have k1b0 : w1.cell? ⟨w.heap.size + 1, 0, none⟩ = some (.slice Ab0 nb0 cb0) := by rw [hc1 _ _ (by first | omega | (simp; done) | (simp; omega))]; go_simp
      have k1b1 : w1.cell? ⟨w.heap.size + 1, 1, none⟩ = some (.slice Ab1 nb1 cb1) := by rw [hc1 _ _ (by first | omega | (simp; done) | (simp; omega))]; go_simp
      try simp at hsz1
      clear hc1 hbb1
      go_wp2_with fail
      refine Calls.mono (eqHeadS_any _ _ _ _ _ _ x1 y1 _ lo hi lo' hi' ?_ ?_ ?_ ?_) ?_
      · exact ha1.keep (B := w.heap.size) (by (repeat' (first | with_reducible exact Below.refl _ _ | with_reducible assumption | (with_reducible refine Below.setCell ?_ ?_ _) | (with_reducible refine Below.alloc ?_ ?_ _) | (with_reducible refine below_drewN ?_ _) | (with_reducible refine Below.drew ?_) | omega | (simp; done) | (simp; omega)))) hh
      · exact hb1.keep (B := w.heap.size) (by (repeat' (first | with_reducible exact Below.refl _ _ | with_reducible assumption | (with_reducible refine Below.setCell ?_ ?_ _) | (with_reducible refine Below.alloc ?_ ?_ _) | (with_reducible refine below_drewN ?_ _) | (with_reducible refine Below.drew ?_) | omega | (simp; done) | (simp; omega)))) hh'
      · first | omega | (simp; omega)
      · first | omega | (simp; omega)
      rintro e w2 ⟨rfl, hbb2⟩
      have bw2 : Below w.heap.size w w2 := Below.trans (by (repeat' (first | with_reducible exact Below.refl _ _ | with_reducible assumption | (with_reducible refine Below.setCell ?_ ?_ _) | (with_reducible refine Below.alloc ?_ ?_ _) | (with_reducible refine below_drewN ?_ _) | (with_reducible refine Below.drew ?_) | omega | (simp; done) | (simp; omega)))) (hbb2.mono (by first | omega | (simp; done) | (simp; omega)))
      obtain ⟨hc2, _⟩ := bcell hbb2
      have hsz2 := hbb2.size
      have k2a0 : w2.cell? ⟨w.heap.size, 0, none⟩ = some (.slice Aa0 na0 ca0) := by rw [hc2 _ _ (by first | omega | (simp; done) | (simp; omega))]; go_simp
      have k2a1 : w2.cell? ⟨w.heap.size, 1, none⟩ = some (.slice Aa1 na1 ca1) := by rw [hc2 _ _ (by first | omega | (simp; done) | (simp; omega))]; go_simp
      have k2b0 : w2.cell? ⟨w.heap.size + 1, 0, none⟩ = some (.slice Ab0 nb0 cb0) := by rw [hc2 _ _ (by first | omega | (simp; done) | (simp; omega))]; go_simp
      have k2b1 : w2.cell? ⟨w.heap.size + 1, 1, none⟩ = some (.slice Ab1 nb1 cb1) := by rw [hc2 _ _ (by first | omega | (simp; done) | (simp; omega))]; go_simp
      try simp at hsz2
      clear hc2 hbb2
      go_wp2
      go_ret
      exact ⟨ret_bool (by simp [e1]), by (repeat' (first | with_reducible exact Below.refl _ _ | with_reducible assumption | (with_reducible refine Below.setCell ?_ ?_ _) | (with_reducible refine Below.alloc ?_ ?_ _) | (with_reducible refine below_drewN ?_ _) | (with_reducible refine Below.drew ?_) | omega | (simp; done) | (simp; omega)))⟩
  · have q0 : decide (x0 = y0) = false := by simp [e0]
    go_enter Tryz.func9, Tryz.ntmps9
    go_wp2_with fail
    refine Calls.mono (eqCommitS_any _ _ _ _ _ _ x0 y0 _ lo hi lo' hi' ?_ ?_ ?_ ?_) ?_
    · exact ha0.keep (B := w.heap.size) (by (repeat' (first | with_reducible exact Below.refl _ _ | with_reducible assumption | (with_reducible refine Below.setCell ?_ ?_ _) | (with_reducible refine Below.alloc ?_ ?_ _) | (with_reducible refine below_drewN ?_ _) | (with_reducible refine Below.drew ?_) | omega | (simp; done) | (simp; omega)))) hh
    · exact hb0.keep (B := w.heap.size) (by (repeat' (first | with_reducible exact Below.refl _ _ | with_reducible assumption | (with_reducible refine Below.setCell ?_ ?_ _) | (with_reducible refine Below.alloc ?_ ?_ _) | (with_reducible refine below_drewN ?_ _) | (with_reducible refine Below.drew ?_) | omega | (simp; done) | (simp; omega)))) hh'
    · first | omega | (simp; omega)
    · first | omega | (simp; omega)
    rintro e w1 ⟨rfl, hbb1⟩
    have bw1 : Below w.heap.size w w1 := Below.trans (by (repeat' (first | with_reducible exact Below.refl _ _ | with_reducible assumption | (with_reducible refine Below.setCell ?_ ?_ _) | (with_reducible refine Below.alloc ?_ ?_ _) | (with_reducible refine below_drewN ?_ _) | (with_reducible refine Below.drew ?_) | omega | (simp; done) | (simp; omega)))) (hbb1.mono (by first | omega | (simp; done) | (simp; omega)))
    obtain ⟨hc1, _⟩ := bcell hbb1
    have hsz1 := hbb1.size
    have k1a0 : w1.cell? ⟨w.heap.size, 0, none⟩ = some (.slice Aa0 na0 ca0) := by rw [hc1 _ _ (by first | omega | (simp; done) | (simp; omega))]; go_simp
    have k1a1 : w1.cell? ⟨w.heap.size, 1, none⟩ = some (.slice Aa1 na1 ca1) := by rw [hc1 _ _ (by first | omega | (simp; done) | (simp; omega))]; go_simp
    have k1b0 : w1.cell? ⟨w.heap.size + 1, 0, none⟩ = some (.slice Ab0 nb0 cb0) := by rw [hc1 _ _ (by first | omega | (simp; done) | (simp; omega))]; go_simp
    have k1b1 : w1.cell? ⟨w.heap.size + 1, 1, none⟩ = some (.slice Ab1 nb1 cb1) := by rw [hc1 _ _ (by first | omega | (simp; done) | (simp; omega))]; go_simp
    try simp at hsz1
    clear hc1 hbb1
    go_wp2
    go_ret
    exact ⟨ret_bool (by simp [e0]), by (repeat' (first | with_reducible exact Below.refl _ _ | with_reducible assumption | (with_reducible refine Below.setCell ?_ ?_ _) | (with_reducible refine Below.alloc ?_ ?_ _) | (with_reducible refine below_drewN ?_ _) | (with_reducible refine Below.drew ?_) | omega | (simp; done) | (simp; omega)))⟩
set_option maxRecDepth 100000 in
set_option maxHeartbeats 400000 in
theorem szRepo_any (x : PRepo) (Aa0 Aa1 : Option Addr) (na0 ca0 na1 ca1 : Nat) (w : World) (lo hi : Nat) (left : Int) (ha0 : Rep w lo hi (encCommits x.commits) (.slice Aa0 na0 ca0)) (ha1 : Rep w lo hi (encHeads x.heads) (.slice Aa1 na1 ca1)) (hh : hi ≤ w.heap.size) (hok : okRepo x) (h0 : 0 ≤ left) (h1 : left ≤ 1048576) :
    Calls Tryz.prog 4 #[.agg #[.slice Aa0 na0 ca0, .slice Aa1 na1 ca1], .int .i64 left] w fun e w' => (∃ r : Int, e = .returned (.int .i64 r) ∧ -1 ≤ r ∧ r ≤ left ∧ (0 ≤ r → (szRepo x : Int) ≤ left - r)) ∧ Below w.heap.size w w' := by
  unfold okRepo at hok
  unfold szRepo
  go_enter Tryz.func4, Tryz.ntmps4
  go_wp2_with fail
  refine Calls.mono (szCommitS_any (e := 50) _ _ _ x.commits _ lo hi _ ?_ ?_ hok.1 ?_ ?_) ?_
  · exact ha0.keep (B := w.heap.size) (by (repeat' (first | with_reducible exact Below.refl _ _ | with_reducible assumption | (with_reducible refine Below.setCell ?_ ?_ _) | (with_reducible refine Below.alloc ?_ ?_ _) | (with_reducible refine below_drewN ?_ _) | (with_reducible refine Below.drew ?_) | omega | (simp; done) | (simp; omega)))) hh
  · first | omega | (simp; omega)
  · omega
  · omega
  rintro e w1 ⟨⟨r1, rfl, hl1, hu1, hz1⟩, hb1⟩
  have bw1 : Below w.heap.size w w1 := Below.trans (by (repeat' (first | with_reducible exact Below.refl _ _ | with_reducible assumption | (with_reducible refine Below.setCell ?_ ?_ _) | (with_reducible refine Below.alloc ?_ ?_ _) | (with_reducible refine below_drewN ?_ _) | (with_reducible refine Below.drew ?_) | omega | (simp; done) | (simp; omega)))) (hb1.mono (by first | omega | (simp; done) | (simp; omega)))
  obtain ⟨hc1, _⟩ := bcell hb1
  have hsz1 := hb1.size
  have k1a0 : w1.cell? ⟨w.heap.size, 0, none⟩ = some (.slice Aa0 na0 ca0) := by rw [hc1 _ _ (by first | omega | (simp; done) | (simp; omega))]; go_simp
  have k1a1 : w1.cell? ⟨w.heap.size, 1, none⟩ = some (.slice Aa1 na1 ca1) := by rw [hc1 _ _ (by first | omega | (simp; done) | (simp; omega))]; go_simp
  try simp at hsz1
  clear hc1 hb1
  by_cases g1 : r1 < 0
  · go_wp2
    go_ret
    exact ⟨⟨-1, rfl, by omega, by omega, fun h => absurd h (by omega)⟩, by (repeat' (first | with_reducible exact Below.refl _ _ | with_reducible assumption | (with_reducible refine Below.setCell ?_ ?_ _) | (with_reducible refine Below.alloc ?_ ?_ _) | (with_reducible refine below_drewN ?_ _) | (with_reducible refine Below.drew ?_) | omega | (simp; done) | (simp; omega)))⟩
  ·
    go_wp2_with fail
    refine Calls.mono (szHeadS_any (e := 77) _ _ _ x.heads _ lo hi _ ?_ ?_ hok.2 ?_ ?_) ?_
    · exact ha1.keep (B := w.heap.size) (by (repeat' (first | with_reducible exact Below.refl _ _ | with_reducible assumption | (with_reducible refine Below.setCell ?_ ?_ _) | (with_reducible refine Below.alloc ?_ ?_ _) | (with_reducible refine below_drewN ?_ _) | (with_reducible refine Below.drew ?_) | omega | (simp; done) | (simp; omega)))) hh
    · first | omega | (simp; omega)
    · omega
    · omega
    rintro e w2 ⟨⟨r2, rfl, hl2, hu2, hz2⟩, hb2⟩
    have bw2 : Below w.heap.size w w2 := Below.trans (by (repeat' (first | with_reducible exact Below.refl _ _ | with_reducible assumption | (with_reducible refine Below.setCell ?_ ?_ _) | (with_reducible refine Below.alloc ?_ ?_ _) | (with_reducible refine below_drewN ?_ _) | (with_reducible refine Below.drew ?_) | omega | (simp; done) | (simp; omega)))) (hb2.mono (by first | omega | (simp; done) | (simp; omega)))
    obtain ⟨hc2, _⟩ := bcell hb2
    have hsz2 := hb2.size
    have k2a0 : w2.cell? ⟨w.heap.size, 0, none⟩ = some (.slice Aa0 na0 ca0) := by rw [hc2 _ _ (by first | omega | (simp; done) | (simp; omega))]; go_simp
    have k2a1 : w2.cell? ⟨w.heap.size, 1, none⟩ = some (.slice Aa1 na1 ca1) := by rw [hc2 _ _ (by first | omega | (simp; done) | (simp; omega))]; go_simp
    try simp at hsz2
    clear hc2 hb2
    by_cases g2 : r2 < 0
    · go_wp2
      go_ret
      exact ⟨⟨-1, rfl, by omega, by omega, fun h => absurd h (by omega)⟩, by (repeat' (first | with_reducible exact Below.refl _ _ | with_reducible assumption | (with_reducible refine Below.setCell ?_ ?_ _) | (with_reducible refine Below.alloc ?_ ?_ _) | (with_reducible refine below_drewN ?_ _) | (with_reducible refine Below.drew ?_) | omega | (simp; done) | (simp; omega)))⟩
    ·
      go_wp2
      go_ret
      exact ⟨⟨_, rfl, by omega, by omega, fun _ => by omega⟩, by (repeat' (first | with_reducible exact Below.refl _ _ | with_reducible assumption | (with_reducible refine Below.setCell ?_ ?_ _) | (with_reducible refine Below.alloc ?_ ?_ _) | (with_reducible refine below_drewN ?_ _) | (with_reducible refine Below.drew ?_) | omega | (simp; done) | (simp; omega)))⟩
theorem zeroRepo : True := trivial
set_option maxRecDepth 100000 in
set_option maxHeartbeats 800000 in
theorem toRepo_any (x : PRepo) (Aa0 Aa1 : Option Addr) (na0 ca0 na1 ca1 : Nat) (w : World) (lo hi : Nat) (ha0 : Rep w lo hi (encCommits x.commits) (.slice Aa0 na0 ca0)) (ha1 : Rep w lo hi (encHeads x.heads) (.slice Aa1 na1 ca1)) (hh : hi ≤ w.heap.size) (hs0 : szCommits x.commits ≤ 1048576) (hs1 : szHeads x.heads ≤ 1048576) :
    Calls Tryz.prog 6 #[.agg #[.slice Aa0 na0 ca0, .slice Aa1 na1 ca1]] w fun e w' => ∃ Ao0 no0 co0 Ao1 no1 co1, e = .returned (.agg #[.slice Ao0 no0 co0, .slice Ao1 no1 co1]) ∧ Below w.heap.size w w' ∧ FreshL w' w.heap.size w'.heap.size (cRepos x) [.slice Ao0 no0 co0, .slice Ao1 no1 co1] := by
  obtain ⟨x0, x1⟩ := x
  dsimp only at *
  go_enter Tryz.func6, Tryz.ntmps6
  go_wp2_with fail
  refine Calls.mono (toCommitS_any (e := 50) _ _ _ x0 _ lo hi ?_ ?_ hs0) ?_
  · exact ha0.keep (B := w.heap.size) (by (repeat' (first | with_reducible exact Below.refl _ _ | with_reducible assumption | (with_reducible refine Below.setCell ?_ ?_ _) | (with_reducible refine Below.alloc ?_ ?_ _) | (with_reducible refine below_drewN ?_ _) | (with_reducible refine Below.drew ?_) | omega | (simp; done) | (simp; omega)))) hh
  · first | omega | (simp; omega)
  rintro e w1 ⟨Ao0, no0, co0, rfl, hb1, hf1⟩
  have bw1 : Below w.heap.size w w1 := Below.trans (by (repeat' (first | with_reducible exact Below.refl _ _ | with_reducible assumption | (with_reducible refine Below.setCell ?_ ?_ _) | (with_reducible refine Below.alloc ?_ ?_ _) | (with_reducible refine below_drewN ?_ _) | (with_reducible refine Below.drew ?_) | omega | (simp; done) | (simp; omega)))) (hb1.mono (by first | omega | (simp; done) | (simp; omega)))
  obtain ⟨hc1, hz1⟩ := bcell hb1
  have hsz1 := hb1.size
  have k1p0 : w1.cell? ⟨w.heap.size, 0, none⟩ = some (.slice Aa0 na0 ca0) := by rw [hc1 _ _ (by first | omega | (simp; done) | (simp; omega))]; go_simp
  have k1r0 : w1.cell? ⟨w.heap.size + 1, 0, none⟩ = some (.slice none 0 0) := by rw [hc1 _ _ (by first | omega | (simp; done) | (simp; omega))]; go_simp
  have k1o0 : w1.cell? ⟨w.heap.size + 1 + 1, 0, none⟩ = some (.slice none 0 0) := by rw [hc1 _ _ (by first | omega | (simp; done) | (simp; omega))]; go_simp
  have k1p1 : w1.cell? ⟨w.heap.size, 1, none⟩ = some (.slice Aa1 na1 ca1) := by rw [hc1 _ _ (by first | omega | (simp; done) | (simp; omega))]; go_simp
  have k1r1 : w1.cell? ⟨w.heap.size + 1, 1, none⟩ = some (.slice none 0 0) := by rw [hc1 _ _ (by first | omega | (simp; done) | (simp; omega))]; go_simp
  have k1o1 : w1.cell? ⟨w.heap.size + 1 + 1, 1, none⟩ = some (.slice none 0 0) := by rw [hc1 _ _ (by first | omega | (simp; done) | (simp; omega))]; go_simp
  have z1r : ∀ j, w1.frozen? ⟨w.heap.size + 1, j, none⟩ = false := fun j => by rw [hz1 _ _ (by first | omega | (simp; done) | (simp; omega))]; go_simp
  have z1o : ∀ j, w1.frozen? ⟨w.heap.size + 1 + 1, j, none⟩ = false := fun j => by rw [hz1 _ _ (by first | omega | (simp; done) | (simp; omega))]; go_simp
  try simp at hsz1
  try simp at hf1
  clear hc1 hz1 hb1
  go_wp2_with fail
  refine Calls.mono (toHeadS_any (e := 77) _ _ _ x1 _ lo hi ?_ ?_ hs1) ?_
  · exact ha1.keep (B := w.heap.size) (by (repeat' (first | with_reducible exact Below.refl _ _ | with_reducible assumption | (with_reducible refine Below.setCell ?_ ?_ _) | (with_reducible refine Below.alloc ?_ ?_ _) | (with_reducible refine below_drewN ?_ _) | (with_reducible refine Below.drew ?_) | omega | (simp; done) | (simp; omega)))) hh
  · first | omega | (simp; omega)
  rintro e w2 ⟨Ao1, no1, co1, rfl, hb2, hf2⟩
  have bw2 : Below w.heap.size w w2 := Below.trans (by (repeat' (first | with_reducible exact Below.refl _ _ | with_reducible assumption | (with_reducible refine Below.setCell ?_ ?_ _) | (with_reducible refine Below.alloc ?_ ?_ _) | (with_reducible refine below_drewN ?_ _) | (with_reducible refine Below.drew ?_) | omega | (simp; done) | (simp; omega)))) (hb2.mono (by first | omega | (simp; done) | (simp; omega)))
  obtain ⟨hc2, hz2⟩ := bcell hb2
  have hsz2 := hb2.size
  have k2p0 : w2.cell? ⟨w.heap.size, 0, none⟩ = some (.slice Aa0 na0 ca0) := by rw [hc2 _ _ (by first | omega | (simp; done) | (simp; omega))]; go_simp
  have k2r0 : w2.cell? ⟨w.heap.size + 1, 0, none⟩ = some (.slice none 0 0) := by rw [hc2 _ _ (by first | omega | (simp; done) | (simp; omega))]; go_simp
  have k2o0 : w2.cell? ⟨w.heap.size + 1 + 1, 0, none⟩ = some (.slice Ao0 no0 co0) := by rw [hc2 _ _ (by first | omega | (simp; done) | (simp; omega))]; go_simp
  have k2p1 : w2.cell? ⟨w.heap.size, 1, none⟩ = some (.slice Aa1 na1 ca1) := by rw [hc2 _ _ (by first | omega | (simp; done) | (simp; omega))]; go_simp
  have k2r1 : w2.cell? ⟨w.heap.size + 1, 1, none⟩ = some (.slice none 0 0) := by rw [hc2 _ _ (by first | omega | (simp; done) | (simp; omega))]; go_simp
  have k2o1 : w2.cell? ⟨w.heap.size + 1 + 1, 1, none⟩ = some (.slice none 0 0) := by rw [hc2 _ _ (by first | omega | (simp; done) | (simp; omega))]; go_simp
  have z2r : ∀ j, w2.frozen? ⟨w.heap.size + 1, j, none⟩ = false := fun j => by rw [hz2 _ _ (by first | omega | (simp; done) | (simp; omega))]; go_simp
  have z2o : ∀ j, w2.frozen? ⟨w.heap.size + 1 + 1, j, none⟩ = false := fun j => by rw [hz2 _ _ (by first | omega | (simp; done) | (simp; omega))]; go_simp
  replace hf1 := hf1.same (w' := w2) (Same.trans (by (repeat' (first | with_reducible exact Same.refl _ _ _ | (with_reducible refine Same.setCell ?_ ?_ _) | omega | (simp; done) | (simp; omega)))) (Same.of_below hb2 (by simp)))
  try simp at hsz2
  try simp at hf2
  clear hc2 hz2 hb2
  go_wp2
  refine bodyPost_ret (v := .agg #[.slice Ao0 no0 co0, .slice Ao1 no1 co1]) (by simp [results, Tryz.results6, go_sem, k2r0, k2r1]) rfl ?_
  exact ⟨Ao0, no0, co0, Ao1, no1, co1, rfl, by (repeat' (first | with_reducible exact Below.refl _ _ | with_reducible assumption | (with_reducible refine Below.setCell ?_ ?_ _) | (with_reducible refine Below.alloc ?_ ?_ _) | (with_reducible refine below_drewN ?_ _) | (with_reducible refine Below.drew ?_) | omega | (simp; done) | (simp; omega))), FreshL.mono (FreshL.cons (hf1.same (by (repeat' (first | with_reducible exact Same.refl _ _ _ | (with_reducible refine Same.setCell ?_ ?_ _) | omega | (simp; done) | (simp; omega))))) (FreshL.cons (hf2.same (by (repeat' (first | with_reducible exact Same.refl _ _ _ | (with_reducible refine Same.setCell ?_ ?_ _) | omega | (simp; done) | (simp; omega))))) (FreshL.nil _ _ _) (by first | omega | (simp; done) | (simp; omega)) (by first | omega | (simp; done) | (simp; omega))) (by first | omega | (simp; done) | (simp; omega)) (by first | omega | (simp; done) | (simp; omega))) (by first | omega | (simp; done) | (simp; omega)) (Nat.le_refl _)⟩
end Go.Proofs.YtenkceeicmfjhaaGreatDoor
