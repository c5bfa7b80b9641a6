/- Walks: AncAll: the program's and the reference's. -/
import Derived.Test.YtocncjohpikfcaaDoorAncIs2
namespace Go.Proofs.YtocncjohpikfcaaDoor
open Go.RowKit

def ancAll (r : PRepo) (a : Int) : List Int := if repoOk r && areIn r.commits.length [a] then idxOf (ancs r.commits a.toNat) else []
theorem bnd_AncAll (r : PRepo) (a : Int) : (ancAll r a).length ≤ 16 := by
  unfold ancAll
  split
  · rename_i h
    simp only [Bool.and_eq_true] at h
    have := idxOf_len (ancs r.commits a.toNat)
    rw [ancs_len] at this
    have := (repoOk_iff.1 h.1).1
    omega
  · simp
theorem ancAll_no {r : PRepo} {a : Int} (h : (repoOk r && areIn r.commits.length [a]) = false) : ancAll r a = [] := by unfold ancAll; rw [h]; rfl
theorem ancAll_yes {r : PRepo} {a : Nat} (h : (repoOk r && areIn r.commits.length [(a : Int)]) = true) : ancAll r a = idxOf (ancs r.commits a) := by
  unfold ancAll; rw [h]; rfl
theorem are_one {r : PRepo} {a : Int} (h : (repoOk r && areIn r.commits.length [a]) = true) : repoOk r = true ∧ ∃ k : Nat, a = k ∧ k < r.commits.length := by
  simp only [areIn, List.all_cons, List.all_nil, Bool.and_eq_true, and_true] at h
  exact ⟨h.1, inRange_nat h.2⟩
theorem fresh_none (w w' : World) (h : w.heap.size ≤ w'.heap.size) : Fresh w' w.heap.size w'.heap.size (encInts []) (.slice none 0 0) := (Fresh.of_row (World.ownsRow_nil w' w'.heap.size _ _) (owns_ints w' [])).mono h (Nat.le_refl _)

set_option maxRecDepth 100000 in
set_option maxHeartbeats 800000 in
theorem impl_AncAll_any (a : Int) (r : PRepo) (A0 A1 : Option Addr) (n0 c0 n1 c1 : Nat) (w : World) (lo hi : Nat) (h0 : Rep w lo hi (encCommits r.commits) (.slice A0 n0 c0)) (h1 : Rep w lo hi (encHeads r.heads) (.slice A1 n1 c1)) (hh : hi ≤ w.heap.size) (hr : okRepoS r) :
    Calls Tryd.prog 35 #[.agg #[.slice A0 n0 c0, .slice A1 n1 c1], .int .i64 a] w fun e w' => ∃ A n c, e = .returned (.slice A n c) ∧ Below w.heap.size w w' ∧ Fresh w' w.heap.size w'.heap.size (encInts (ancAll r a)) (.slice A n c) := by
  have hca := fun w (h0 : Rep w lo hi (encCommits r.commits) (.slice A0 n0 c0)) (h1 : Rep w lo hi (encHeads r.heads) (.slice A1 n1 c1)) g hh hb hp => impl_are_any g [a] r A0 A1 n0 c0 n1 c1 w lo hi h0 h1 hh hr (by simp) hb hp
  have hbx := fun o o' => ((Below.refl w.heap.size w).alloc (Nat.le_refl _) o).alloc (by simp) o'
  have Hl0 := Lib.hid (Commits.n h0)
  have h16 := Lib.hid hr.1
  cases hv : (repoOk r && areIn r.commits.length [a])
  · rw [hv] at hca
    rw [ancAll_no hv]
    clear hv
    go_enter Tryd.func35, Tryd.ntmps35
    go_wp2_with fail
    refine Calls.mono (hca _ (h0.keep (hbx _ _) hh) (h1.keep (hbx _ _) hh) (w.heap.size + 1) (by simp; omega) (by simp) ?_) ?_
    · intro j x hx
      rcases j with _ | j <;> simp at hx <;> subst hx <;> simp [go_sem]
    rintro e w1 ⟨rfl, hb1⟩
    have hbw : Below w.heap.size w w1 := (hbx _ _).trans (hb1.mono (by simp; omega))
    have hsz := hbw.size
    clear hb1
    go_wp2
    go_ret
    exact ⟨_, _, _, rfl, hbw, fresh_none _ _ hsz⟩
  · rw [hv] at hca
    obtain ⟨ho, ka, rfl, hka⟩ := are_one hv
    rw [ancAll_yes hv]
    have hm8 : (ancs r.commits ka).length ≤ 1048576 := by rw [ancs_len]; exact h16.out
    have ha := fun w (h0 : Rep w lo hi (encCommits r.commits) (.slice A0 n0 c0)) hh => impl_ancestors_any r A0 A1 n0 c0 n1 c1 w lo hi h0 hh ho ka hka
    clear hv ho hka
    go_enter Tryd.func35, Tryd.ntmps35
    go_wp2_with fail
    refine Calls.mono (hca _ (h0.keep (hbx _ _) hh) (h1.keep (hbx _ _) hh) (w.heap.size + 1) (by simp; omega) (by simp) ?_) ?_
    · intro j x hx
      rcases j with _ | j <;> simp at hx <;> subst hx <;> simp [go_sem]
    rintro e w1 ⟨rfl, hb1⟩
    have q0 := box_two (a := w.heap.size) (j := 0) (v := .slice A0 n0 c0) hb1 (by simp [go_sem]) (by simp)
    have q1 := box_two (a := w.heap.size) (j := 1) (v := .slice A1 n1 c1) hb1 (by simp [go_sem]) (by simp)
    have hbw : Below w.heap.size w w1 := (hbx _ _).trans (hb1.mono (by simp; omega))
    have hsz := hbw.size
    clear hb1
    go_wp2_with fail
    refine Calls.mono (ha _ (h0.keep hbw hh) (by omega)) ?_
    rintro e w2 ⟨A3, n3, c3, rfl, hb2, hf⟩
    have hR := hf.rep
    have hsz2 := hb2.size
    clear hf
    go_wp2_with fail
    refine Calls.mono (impl_listOf_any _ _ _ _ _ _ _ hR (Nat.le_refl _) hm8) ?_
    rintro e w3 ⟨A4, n4, c4, rfl, hb3, hf4⟩
    have hf5 := hf4.mono (Nat.le_trans hsz hsz2) (Nat.le_refl _)
    have Hf5 := Lib.hid hf5
    clear hf4 hf5
    go_wp2
    go_ret
    exact ⟨_, _, _, rfl, (hbw.trans (hb2.mono hsz)).trans (hb3.mono (Nat.le_trans hsz hsz2)), Hf5.out⟩

theorem ancAll_ok {r : PRepo} {a : Int} (h : repoOk r = false) : ancAll r a = [] := ancAll_no (by rw [h]; rfl)
theorem ancAll_a {r : PRepo} {a : Int} (h : inRange a 0 ((r.commits.length : Int) - 1) = false) : ancAll r a = [] := ancAll_no (by unfold areIn; simp [h])
theorem ancAll_in {r : PRepo} {a : Nat} (h : repoOk r = true) (ha : inRange a 0 ((r.commits.length : Int) - 1) = true) : ancAll r a = idxOf (ancs r.commits a) := ancAll_yes (by unfold areIn; simp [h, ha])

set_option maxRecDepth 100000 in
set_option maxHeartbeats 800000 in
theorem spec_AncAll_any (a : Int) (r : PRepo) (A0 A1 : Option Addr) (n0 c0 n1 c1 : Nat) (w : World) (lo hi : Nat) (h0 : Rep w lo hi (encCommits r.commits) (.slice A0 n0 c0)) (h1 : Rep w lo hi (encHeads r.heads) (.slice A1 n1 c1)) (hh : hi ≤ w.heap.size) (hr : okRepoS r) :
    Calls Tryd.prog 34 #[.agg #[.slice A0 n0 c0, .slice A1 n1 c1], .int .i64 a] w fun e w' => ∃ A n c, e = .returned (.slice A n c) ∧ Below w.heap.size w w' ∧ Fresh w' w.heap.size w'.heap.size (encInts (ancAll r a)) (.slice A n c) := by
  have hc := fun w (h0 : Rep w lo hi (encCommits r.commits) (.slice A0 n0 c0)) (h1 : Rep w lo hi (encHeads r.heads) (.slice A1 n1 c1)) hh => spec_l7Ok_any r A0 A1 n0 c0 n1 c1 w lo hi h0 h1 hh hr
  have ca := fun w => spec_l1In_any a 0 ((r.commits.length : Int) - 1) w
  have hbx := fun o => (Below.refl w.heap.size w).alloc (Nat.le_refl _) o
  have hl0 := Commits.n h0
  have h16 : n0 ≤ 1048576 := by rw [hl0]; exact hr.1
  rw [← hl0] at ca
  have Hl0 := Lib.hid hl0
  clear hl0
  cases t1 : repoOk r
  all_goals rw [t1] at hc
  · rw [ancAll_ok t1]
    clear t1
    go_enter Tryd.func34, Tryd.ntmps34
    go_wp2_with fail
    refine Calls.mono (hc _ (h0.keep (hbx _) hh) (h1.keep (hbx _) hh) (by simp; omega)) ?_
    rintro e w1 ⟨rfl, hb1⟩
    have hbw : Below w.heap.size w w1 := (hbx _).trans (hb1.mono (by simp))
    have hsz := hbw.size
    clear hb1
    go_wp2
    go_ret
    exact ⟨_, _, _, rfl, hbw, fresh_none _ _ hsz⟩
  · cases t2 : inRange a 0 ((n0 : Int) - 1)
    all_goals rw [t2] at ca
    · rw [ancAll_a (by rw [← Hl0.out]; exact t2)]
      clear t1 t2
      go_enter Tryd.func34, Tryd.ntmps34
      go_wp2_with fail
      refine Calls.mono (hc _ (h0.keep (hbx _) hh) (h1.keep (hbx _) hh) (by simp; omega)) ?_
      rintro e w1 ⟨rfl, hb1⟩
      have q0 := box_two (a := w.heap.size) (j := 0) (v := .slice A0 n0 c0) hb1 (by simp [go_sem]) (Nat.le_refl _)
      have hbw : Below w.heap.size w w1 := (hbx _).trans (hb1.mono (by simp))
      have hsz := hbw.size
      clear hb1
      go_wp2_with fail
      refine Calls.mono (ca _) ?_
      rintro e w2 ⟨rfl, rfl⟩
      go_wp2
      go_ret
      exact ⟨_, _, _, rfl, hbw, fresh_none _ _ hsz⟩
    · obtain ⟨ka, rfl, hka⟩ := inRange_nat t2
      rw [ancAll_in t1 (by rw [← Hl0.out]; exact t2)]
      have c8 := fun w (h0 : Rep w lo hi (encCommits r.commits) (.slice A0 n0 c0)) hh => spec_l8All_any r A0 A1 n0 c0 n1 c1 w lo hi h0 hh t1 ka (by rw [← Hl0.out]; exact hka)
      clear t1 t2 hka
      go_enter Tryd.func34, Tryd.ntmps34
      go_wp2_with fail
      refine Calls.mono (hc _ (h0.keep (hbx _) hh) (h1.keep (hbx _) hh) (by simp; omega)) ?_
      rintro e w1 ⟨rfl, hb1⟩
      have q0 := box_two (a := w.heap.size) (j := 0) (v := .slice A0 n0 c0) hb1 (by simp [go_sem]) (Nat.le_refl _)
      have q1 := box_two (a := w.heap.size) (j := 1) (v := .slice A1 n1 c1) hb1 (by simp [go_sem]) (Nat.le_refl _)
      have hbw : Below w.heap.size w w1 := (hbx _).trans (hb1.mono (by simp))
      have hsz := hbw.size
      clear hb1
      go_wp2_with fail
      refine Calls.mono (ca _) ?_
      rintro e w2 ⟨rfl, rfl⟩
      go_wp2_with fail
      refine Calls.mono (c8 _ (h0.keep hbw hh) (by omega)) ?_
      rintro e w2 ⟨A3, n3, c3, rfl, hb2, hf⟩
      have Hf := Lib.hid (hf.mono hsz (Nat.le_refl _))
      clear hf
      go_wp2
      go_ret
      exact ⟨_, _, _, rfl, hbw.trans (hb2.mono hsz), Hf.out⟩
end Go.Proofs.YtocncjohpikfcaaDoor
