/- Walks: AncBases: the program's and the reference's. -/
import Derived.Test.YtifeflneodmmlaaDoorBases2
import Derived.Test.YtifeflneodmmlaaDoorAncIs2
namespace Go.Proofs.YtifeflneodmmlaaDoor
open Go.RowKit

def ancBases (r : PRepo) (a b : Int) : List Int := if repoOk r && areIn r.commits.length [a, b] then idxOf (clearAll r.commits (bothM (ancs r.commits a.toNat) (ancs r.commits b.toNat)) (idxOf (bothM (ancs r.commits a.toNat) (ancs r.commits b.toNat)))) else []
theorem ancBases_no {r : PRepo} {a b : Int} (h : (repoOk r && areIn r.commits.length [a, b]) = false) : ancBases r a b = [] := by unfold ancBases; rw [h]; rfl
theorem ancBases_clear {r : PRepo} {a b : Nat} (h : (repoOk r && areIn r.commits.length [(a : Int), (b : Int)]) = true) : ancBases r a b = idxOf (clearAll r.commits (bothM (ancs r.commits a) (ancs r.commits b)) (idxOf (bothM (ancs r.commits a) (ancs r.commits b)))) := by
  unfold ancBases; rw [h]; rfl
theorem bnd_AncBases (r : PRepo) (a b : Int) : (ancBases r a b).length ≤ 16 := by
  unfold ancBases
  split
  · rename_i h
    simp only [Bool.and_eq_true] at h
    refine Nat.le_trans (idxOf_len _) ?_
    rw [clearAll_len]
    simp only [bothM, List.length_map, List.length_range, ancs_len]
    exact (repoOk_iff.1 h.1).1
  · simp

set_option maxRecDepth 100000 in
set_option maxHeartbeats 800000 in
theorem impl_AncBases_any (a b : Int) (r : PRepo) (A0 A1 : Option Addr) (n0 c0 n1 c1 : Nat) (w : World) (lo hi : Nat) (h0 : Rep w lo hi (encCommits r.commits) (.slice A0 n0 c0)) (h1 : Rep w lo hi (encHeads r.heads) (.slice A1 n1 c1)) (hh : hi ≤ w.heap.size) (hr : okRepoS r) :
    Calls Tryd.prog 7 #[.agg #[.slice A0 n0 c0, .slice A1 n1 c1], .int .i64 a, .int .i64 b] w fun e w' => ∃ A n c, e = .returned (.slice A n c) ∧ Below w.heap.size w w' ∧ Fresh w' w.heap.size w'.heap.size (encInts (ancBases r a b)) (.slice A n c) := by
  have hca := fun w (h0 : Rep w lo hi (encCommits r.commits) (.slice A0 n0 c0)) (h1 : Rep w lo hi (encHeads r.heads) (.slice A1 n1 c1)) g hh hb hp => impl_are_any g [a, b] r A0 A1 n0 c0 n1 c1 w lo hi h0 h1 hh hr (by simp) hb hp
  have hbx := fun o o' => ((Below.refl w.heap.size w).alloc (Nat.le_refl _) o).alloc (by simp) o'
  have Hl0 := Lib.hid (Commits.n h0)
  cases hv : (repoOk r && areIn r.commits.length [a, b])
  · rw [hv] at hca
    rw [ancBases_no hv]
    clear hv
    go_enter Tryd.func7, Tryd.ntmps7
    go_wp2_with fail
    refine Calls.mono (hca _ (h0.keep (hbx _ _) hh) (h1.keep (hbx _ _) hh) (w.heap.size + 1) (by simp; omega) (by simp) ?_) ?_
    · intro j x hx
      rcases j with _ | _ | j <;> simp at hx <;> subst hx <;> simp [go_sem]
    rintro e w1 ⟨rfl, hb1⟩
    have hbw : Below w.heap.size w w1 := (hbx _ _).trans (hb1.mono (by simp; omega))
    have hsz := hbw.size
    clear hb1
    go_wp2
    go_ret
    exact ⟨_, _, _, rfl, hbw, fresh_none _ _ hsz⟩
  · rw [hv] at hca
    obtain ⟨ho, ⟨ka, rfl, hka⟩, kb, rfl, hkb⟩ := are_two hv
    rw [ancBases_clear hv]
    have ha := fun w (h0 : Rep w lo hi (encCommits r.commits) (.slice A0 n0 c0)) hh => impl_bases_any r A0 A1 n0 c0 n1 c1 w lo hi h0 hh ho ka kb hka hkb
    clear hv ho hka hkb
    go_enter Tryd.func7, Tryd.ntmps7
    go_wp2_with fail
    refine Calls.mono (hca _ (h0.keep (hbx _ _) hh) (h1.keep (hbx _ _) hh) (w.heap.size + 1) (by simp; omega) (by simp) ?_) ?_
    · intro j x hx
      rcases j with _ | _ | j <;> simp at hx <;> subst hx <;> simp [go_sem]
    rintro e w1 ⟨rfl, hb1⟩
    have q0 := box_two (a := w.heap.size) (j := 0) (v := .slice A0 n0 c0) hb1 (by simp [go_sem]) (by simp)
    have q1 := box_two (a := w.heap.size) (j := 1) (v := .slice A1 n1 c1) hb1 (by simp [go_sem]) (by simp)
    have hbw : Below w.heap.size w w1 := (hbx _ _).trans (hb1.mono (by simp; omega))
    have hsz := hbw.size
    clear hb1
    go_wp2_with fail
    refine Calls.mono (ha _ (h0.keep hbw hh) (by omega)) ?_
    rintro e w2 ⟨A3, n3, c3, rfl, hb2, hf⟩
    have Hf := Lib.hid (hf.mono (lo' := w.heap.size) hsz (Nat.le_refl _))
    have hbz := hbw.trans (hb2.mono hsz)
    clear hf
    go_wp2
    go_ret
    exact ⟨_, _, _, rfl, hbz, Hf.out⟩
theorem ancBases_ok {r : PRepo} {a b : Int} (h : repoOk r = false) : ancBases r a b = [] := ancBases_no (by rw [h]; rfl)
theorem ancBases_a {r : PRepo} {a b : Int} (h : inRange a 0 ((r.commits.length : Int) - 1) = false) : ancBases r a b = [] := ancBases_no (by unfold areIn; simp [h])
theorem ancBases_b {r : PRepo} {a b : Int} (h : inRange b 0 ((r.commits.length : Int) - 1) = false) : ancBases r a b = [] := ancBases_no (by unfold areIn; simp [h])
theorem ancBases_in {r : PRepo} {a b : Nat} (h : repoOk r = true) (ha : inRange a 0 ((r.commits.length : Int) - 1) = true) (hb : inRange b 0 ((r.commits.length : Int) - 1) = true) :
    ancBases r a b = idxOf (clearAll r.commits (bothM (ancs r.commits a) (ancs r.commits b)) (idxOf (bothM (ancs r.commits a) (ancs r.commits b)))) := ancBases_clear (by unfold areIn; simp [h, ha, hb])

set_option maxRecDepth 100000 in
set_option maxHeartbeats 800000 in
theorem spec_AncBases_any (a b : Int) (r : PRepo) (A0 A1 : Option Addr) (n0 c0 n1 c1 : Nat) (w : World) (lo hi : Nat) (h0 : Rep w lo hi (encCommits r.commits) (.slice A0 n0 c0)) (h1 : Rep w lo hi (encHeads r.heads) (.slice A1 n1 c1)) (hh : hi ≤ w.heap.size) (hr : okRepoS r) :
    Calls Tryd.prog 5 #[.agg #[.slice A0 n0 c0, .slice A1 n1 c1], .int .i64 a, .int .i64 b] w fun e w' => ∃ A n c, e = .returned (.slice A n c) ∧ Below w.heap.size w w' ∧ Fresh w' w.heap.size w'.heap.size (encInts (ancBases r a b)) (.slice A n c) := by
  have hc := fun w (h0 : Rep w lo hi (encCommits r.commits) (.slice A0 n0 c0)) (h1 : Rep w lo hi (encHeads r.heads) (.slice A1 n1 c1)) hh => spec_l7Ok_any r A0 A1 n0 c0 n1 c1 w lo hi h0 h1 hh hr
  have ca := fun w => spec_l1In_any a 0 ((r.commits.length : Int) - 1) w
  have cb := fun w => spec_l1In_any b 0 ((r.commits.length : Int) - 1) w
  have hbx := fun o => (Below.refl w.heap.size w).alloc (Nat.le_refl _) o
  have hl0 := Commits.n h0
  have h16 : n0 ≤ 1048576 := by rw [hl0]; exact hr.1
  rw [← hl0] at ca cb
  have Hl0 := Lib.hid hl0
  clear hl0
  cases t1 : repoOk r
  all_goals rw [t1] at hc
  · rw [ancBases_ok (a := a) (b := b) t1]
    clear t1
    go_enter Tryd.func5, Tryd.ntmps5
    go_wp2_with fail
    refine Calls.mono (hc _ (h0.keep (hbx _) hh) (h1.keep (hbx _) hh) (by simp; omega)) ?_
    rintro e w1 ⟨rfl, hb1⟩
    have hbw : Below w.heap.size w w1 := (hbx _).trans (hb1.mono (by simp))
    clear hb1
    go_wp2
    go_ret
    exact ⟨_, _, _, rfl, hbw, fresh_none _ _ hbw.size⟩
  · cases t2 : inRange a 0 ((n0 : Int) - 1)
    all_goals rw [t2] at ca
    · rw [ancBases_a (r := r) (b := b) (by rw [← Hl0.out]; exact t2)]
      clear t1 t2
      go_enter Tryd.func5, Tryd.ntmps5
      go_wp2_with fail
      refine Calls.mono (hc _ (h0.keep (hbx _) hh) (h1.keep (hbx _) hh) (by simp; omega)) ?_
      rintro e w1 ⟨rfl, hb1⟩
      have q0 := box_two (a := w.heap.size) (j := 0) (v := .slice A0 n0 c0) hb1 (by simp [go_sem]) (Nat.le_refl _)
      have hbw : Below w.heap.size w w1 := (hbx _).trans (hb1.mono (by simp))
      clear hb1
      go_wp2_with fail
      refine Calls.mono (ca _) ?_
      rintro e w2 ⟨rfl, rfl⟩
      go_wp2
      go_ret
      exact ⟨_, _, _, rfl, hbw, fresh_none _ _ hbw.size⟩
    · cases t3 : inRange b 0 ((n0 : Int) - 1)
      all_goals rw [t3] at cb
      · rw [ancBases_b (r := r) (a := a) (by rw [← Hl0.out]; exact t3)]
        clear t1 t2 t3
        go_enter Tryd.func5, Tryd.ntmps5
        go_wp2_with fail
        refine Calls.mono (hc _ (h0.keep (hbx _) hh) (h1.keep (hbx _) hh) (by simp; omega)) ?_
        rintro e w1 ⟨rfl, hb1⟩
        have q0 := box_two (a := w.heap.size) (j := 0) (v := .slice A0 n0 c0) hb1 (by simp [go_sem]) (Nat.le_refl _)
        have hbw : Below w.heap.size w w1 := (hbx _).trans (hb1.mono (by simp))
        clear hb1
        go_wp2_with fail
        refine Calls.mono (ca _) ?_
        rintro e w2 ⟨rfl, rfl⟩
        go_wp2_with fail
        refine Calls.mono (cb _) ?_
        rintro e w2 ⟨rfl, rfl⟩
        go_wp2
        go_ret
        exact ⟨_, _, _, rfl, hbw, fresh_none _ _ hbw.size⟩
      · obtain ⟨ka, rfl, hka⟩ := inRange_nat t2
        obtain ⟨kb, rfl, hkb⟩ := inRange_nat t3
        rw [ancBases_in t1 (by rw [← Hl0.out]; exact t2) (by rw [← Hl0.out]; exact t3)]
        have c8 := fun w (h0 : Rep w lo hi (encCommits r.commits) (.slice A0 n0 c0)) hh => spec_l8Bases_any r A0 A1 n0 c0 n1 c1 w lo hi h0 hh t1 ka kb (by rw [← Hl0.out]; exact hka) (by rw [← Hl0.out]; exact hkb)
        clear t1 t2 t3 hka hkb
        go_enter Tryd.func5, Tryd.ntmps5
        go_wp2_with fail
        refine Calls.mono (hc _ (h0.keep (hbx _) hh) (h1.keep (hbx _) hh) (by simp; omega)) ?_
        rintro e w1 ⟨rfl, hb1⟩
        have q0 := box_two (a := w.heap.size) (j := 0) (v := .slice A0 n0 c0) hb1 (by simp [go_sem]) (Nat.le_refl _)
        have q1 := box_two (a := w.heap.size) (j := 1) (v := .slice A1 n1 c1) hb1 (by simp [go_sem]) (Nat.le_refl _)
        have hbw : Below w.heap.size w w1 := (hbx _).trans (hb1.mono (by simp))
        have hsz := hbw.size
        clear hb1
        go_wp2_with fail
        refine Calls.mono (ca _) ?_
        rintro e w2 ⟨rfl, rfl⟩
        go_wp2_with fail
        refine Calls.mono (cb _) ?_
        rintro e w2 ⟨rfl, rfl⟩
        go_wp2_with fail
        refine Calls.mono (c8 _ (h0.keep hbw hh) (by omega)) ?_
        rintro e w2 ⟨A3, n3, c3, rfl, hb2, hf⟩
        have Hf := Lib.hid (hf.mono (lo' := w.heap.size) hsz (Nat.le_refl _))
        have hbz := hbw.trans (hb2.mono hsz)
        clear hf
        go_wp2
        go_ret
        exact ⟨_, _, _, rfl, hbz, Hf.out⟩
end Go.Proofs.YtifeflneodmmlaaDoor
