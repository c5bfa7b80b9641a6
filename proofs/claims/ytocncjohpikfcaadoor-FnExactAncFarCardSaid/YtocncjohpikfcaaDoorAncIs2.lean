/- Walks: AncIs, AncAll: the program's and the reference's. -/
import Derived.Test.YtocncjohpikfcaaDoorAncIs
namespace Go.Proofs.YtocncjohpikfcaaDoor
open Go.RowKit

theorem ancIs_no {r : PRepo} {a b : Int} (h : (repoOk r && areIn r.commits.length [a, b]) = false) : ancIs r a b = false := by unfold ancIs; rw [← Bool.and_assoc, h]; rfl
theorem ancIs_yes {r : PRepo} {a b : Nat} {x : Bool} (h : (repoOk r && areIn r.commits.length [(a : Int), (b : Int)]) = true) (hx : (ancs r.commits b)[a]? = some x) : ancIs r a b = x := by
  unfold ancIs; rw [← Bool.and_assoc, h]; simp [List.getD, hx]
theorem are_two {r : PRepo} {a b : Int} (h : (repoOk r && areIn r.commits.length [a, b]) = true) : repoOk r = true ∧ (∃ k : Nat, a = k ∧ k < r.commits.length) ∧ ∃ k : Nat, b = k ∧ k < r.commits.length := by
  simp only [areIn, List.all_cons, List.all_nil, Bool.and_eq_true, and_true] at h
  exact ⟨h.1, inRange_nat h.2.1, inRange_nat h.2.2⟩

set_option maxRecDepth 100000 in
set_option maxHeartbeats 800000 in
theorem impl_AncIs_any (a b : Int) (r : PRepo) (A0 A1 : Option Addr) (n0 c0 n1 c1 : Nat) (w : World) (lo hi : Nat) (h0 : Rep w lo hi (encCommits r.commits) (.slice A0 n0 c0)) (h1 : Rep w lo hi (encHeads r.heads) (.slice A1 n1 c1)) (hh : hi ≤ w.heap.size) (hr : okRepoS r) :
    Calls Tryd.prog 20 #[.agg #[.slice A0 n0 c0, .slice A1 n1 c1], .int .i64 a, .int .i64 b] w fun e w' => e = .returned (.bool (ancIs r a b)) ∧ Below w.heap.size w w' := by
  have hca := fun w (h0 : Rep w lo hi (encCommits r.commits) (.slice A0 n0 c0)) (h1 : Rep w lo hi (encHeads r.heads) (.slice A1 n1 c1)) g hh hb hp => impl_are_any g [a, b] r A0 A1 n0 c0 n1 c1 w lo hi h0 h1 hh hr (by simp) hb hp
  have hbx := fun o o' => ((Below.refl w.heap.size w).alloc (Nat.le_refl _) o).alloc (by simp) o'
  have Hl0 := Lib.hid (Commits.n h0)
  cases hv : (repoOk r && areIn r.commits.length [a, b])
  · rw [hv] at hca
    have Hv := Lib.hid (ancIs_no hv)
    clear hv
    go_enter Tryd.func20, Tryd.ntmps20
    go_wp2_with fail
    refine Calls.mono (hca _ (h0.keep (hbx _ _) hh) (h1.keep (hbx _ _) hh) (w.heap.size + 1) (by simp; omega) (by simp) ?_) ?_
    · intro j x hx
      rcases j with _ | _ | j <;> simp at hx <;> subst hx <;> simp [go_sem]
    rintro e w1 ⟨rfl, hb1⟩
    have hbw : Below w.heap.size w w1 := (hbx _ _).trans (hb1.mono (by simp; omega))
    clear hb1
    go_wp2
    go_ret
    exact ⟨ret_bool Hv.out.symm, hbw⟩
  · rw [hv] at hca
    obtain ⟨ho, ⟨ka, rfl, hka⟩, kb, rfl, hkb⟩ := are_two hv
    have Hv := Lib.hid hv
    have Hka := Lib.hid hka
    have ha := fun w (h0 : Rep w lo hi (encCommits r.commits) (.slice A0 n0 c0)) hh => impl_ancestors_any r A0 A1 n0 c0 n1 c1 w lo hi h0 hh ho kb hkb
    clear hv ho hka hkb
    go_enter Tryd.func20, Tryd.ntmps20
    go_wp2_with fail
    refine Calls.mono (hca _ (h0.keep (hbx _ _) hh) (h1.keep (hbx _ _) hh) (w.heap.size + 1) (by simp; omega) (by simp) ?_) ?_
    · intro j x hx
      rcases j with _ | _ | j <;> simp at hx <;> subst hx <;> simp [go_sem]
    rintro e w1 ⟨rfl, hb1⟩
    have q0 := box_two (a := w.heap.size) (j := 0) (v := .slice A0 n0 c0) hb1 (by simp [go_sem]) (by simp)
    have q1 := box_two (a := w.heap.size) (j := 1) (v := .slice A1 n1 c1) hb1 (by simp [go_sem]) (by simp)
    have hbw : Below w.heap.size w w1 := (hbx _ _).trans (hb1.mono (by simp; omega))
    have hsz := hbw.size
    clear hb1
    go_wp2_with fail
    refine Calls.mono (ha _ (h0.keep hbw hh) (by omega)) ?_
    rintro e w2 ⟨A3, n3, c3, rfl, hb2, hf⟩
    have hR := hf.rep
    have hl3 := Bools.n hR
    rw [ancs_len] at hl3
    have hk3 : ka < n3 := by rw [hl3]; exact Hka.out
    have hk3' : (ka : Int) < (n3 : Int) := by omega
    obtain ⟨b3, o3, x, rfl, _, _, hx, d0⟩ := Bools.at hR hk3
    have Hx := Lib.hid (ancIs_yes Hv.out hx)
    clear hx hl3 hf hR
    go_wp2
    go_ret
    exact ⟨ret_bool Hx.out.symm, hbw.trans (hb2.mono hsz)⟩

theorem ancIs_ok {r : PRepo} {a b : Int} (h : repoOk r = false) : ancIs r a b = false := by unfold ancIs; rw [h]; rfl
theorem ancIs_a {r : PRepo} {a b : Int} (h : inRange a 0 ((r.commits.length : Int) - 1) = false) : ancIs r a b = false := by unfold ancIs areIn; simp [h]
theorem ancIs_b {r : PRepo} {a b : Int} (h : inRange b 0 ((r.commits.length : Int) - 1) = false) : ancIs r a b = false := by unfold ancIs areIn; simp [h]
theorem ancIs_in {r : PRepo} {a b : Nat} (h : repoOk r = true) (ha : inRange a 0 ((r.commits.length : Int) - 1) = true) (hb : inRange b 0 ((r.commits.length : Int) - 1) = true) : ancIs r a b = hasI (idxOf (ancs r.commits b)) a := by
  unfold ancIs areIn; rw [hasI_idx]; simp [h, ha, hb]
theorem idxOf_len (m : List Bool) : (idxOf m).length ≤ m.length := idxTo_len m m.length

set_option maxRecDepth 100000 in
set_option maxHeartbeats 800000 in
theorem spec_AncIs_any (a b : Int) (r : PRepo) (A0 A1 : Option Addr) (n0 c0 n1 c1 : Nat) (w : World) (lo hi : Nat) (h0 : Rep w lo hi (encCommits r.commits) (.slice A0 n0 c0)) (h1 : Rep w lo hi (encHeads r.heads) (.slice A1 n1 c1)) (hh : hi ≤ w.heap.size) (hr : okRepoS r) :
    Calls Tryd.prog 19 #[.agg #[.slice A0 n0 c0, .slice A1 n1 c1], .int .i64 a, .int .i64 b] w fun e w' => e = .returned (.bool (ancIs r a b)) ∧ Below w.heap.size w w' := by
  have hc := fun w (h0 : Rep w lo hi (encCommits r.commits) (.slice A0 n0 c0)) (h1 : Rep w lo hi (encHeads r.heads) (.slice A1 n1 c1)) hh => spec_l7Ok_any r A0 A1 n0 c0 n1 c1 w lo hi h0 h1 hh hr
  have ca := fun w => spec_l1In_any a 0 ((r.commits.length : Int) - 1) w
  have cb := fun w => spec_l1In_any b 0 ((r.commits.length : Int) - 1) w
  have hbx := fun o => (Below.refl w.heap.size w).alloc (Nat.le_refl _) o
  have hl0 := Commits.n h0
  have h16 : n0 ≤ 1048576 := by rw [hl0]; exact hr.1
  rw [← hl0] at ca cb
  have Hl0 := Lib.hid hl0
  clear hl0
  cases t1 : repoOk r
  all_goals rw [t1] at hc
  · have Hv := Lib.hid (ancIs_ok (a := a) (b := b) t1)
    clear t1
    go_enter Tryd.func19, Tryd.ntmps19
    go_wp2_with fail
    refine Calls.mono (hc _ (h0.keep (hbx _) hh) (h1.keep (hbx _) hh) (by simp; omega)) ?_
    rintro e w1 ⟨rfl, hb1⟩
    have hbw : Below w.heap.size w w1 := (hbx _).trans (hb1.mono (by simp))
    clear hb1
    go_wp2
    go_ret
    exact ⟨ret_bool Hv.out.symm, hbw⟩
  · cases t2 : inRange a 0 ((n0 : Int) - 1)
    all_goals rw [t2] at ca
    · have Hv := Lib.hid (ancIs_a (r := r) (b := b) (by rw [← Hl0.out]; exact t2))
      clear t1 t2
      go_enter Tryd.func19, Tryd.ntmps19
      go_wp2_with fail
      refine Calls.mono (hc _ (h0.keep (hbx _) hh) (h1.keep (hbx _) hh) (by simp; omega)) ?_
      rintro e w1 ⟨rfl, hb1⟩
      have q0 := box_two (a := w.heap.size) (j := 0) (v := .slice A0 n0 c0) hb1 (by simp [go_sem]) (Nat.le_refl _)
      have hbw : Below w.heap.size w w1 := (hbx _).trans (hb1.mono (by simp))
      clear hb1
      go_wp2_with fail
      refine Calls.mono (ca _) ?_
      rintro e w2 ⟨rfl, rfl⟩
      go_wp2
      go_ret
      exact ⟨ret_bool Hv.out.symm, hbw⟩
    · cases t3 : inRange b 0 ((n0 : Int) - 1)
      all_goals rw [t3] at cb
      · have Hv := Lib.hid (ancIs_b (r := r) (a := a) (by rw [← Hl0.out]; exact t3))
        clear t1 t2 t3
        go_enter Tryd.func19, Tryd.ntmps19
        go_wp2_with fail
        refine Calls.mono (hc _ (h0.keep (hbx _) hh) (h1.keep (hbx _) hh) (by simp; omega)) ?_
        rintro e w1 ⟨rfl, hb1⟩
        have q0 := box_two (a := w.heap.size) (j := 0) (v := .slice A0 n0 c0) hb1 (by simp [go_sem]) (Nat.le_refl _)
        have hbw : Below w.heap.size w w1 := (hbx _).trans (hb1.mono (by simp))
        clear hb1
        go_wp2_with fail
        refine Calls.mono (ca _) ?_
        rintro e w2 ⟨rfl, rfl⟩
        go_wp2_with fail
        refine Calls.mono (cb _) ?_
        rintro e w2 ⟨rfl, rfl⟩
        go_wp2
        go_ret
        exact ⟨ret_bool Hv.out.symm, hbw⟩
      · obtain ⟨ka, rfl, hka⟩ := inRange_nat t2
        obtain ⟨kb, rfl, hkb⟩ := inRange_nat t3
        have Hv := Lib.hid (ancIs_in t1 (by rw [← Hl0.out]; exact t2) (by rw [← Hl0.out]; exact t3))
        have c8 := fun w (h0 : Rep w lo hi (encCommits r.commits) (.slice A0 n0 c0)) hh => spec_l8All_any r A0 A1 n0 c0 n1 c1 w lo hi h0 hh t1 kb (by rw [← Hl0.out]; exact hkb)
        clear t1 t2 t3 hka hkb
        go_enter Tryd.func19, Tryd.ntmps19
        go_wp2_with fail
        refine Calls.mono (hc _ (h0.keep (hbx _) hh) (h1.keep (hbx _) hh) (by simp; omega)) ?_
        rintro e w1 ⟨rfl, hb1⟩
        have q0 := box_two (a := w.heap.size) (j := 0) (v := .slice A0 n0 c0) hb1 (by simp [go_sem]) (Nat.le_refl _)
        have q1 := box_two (a := w.heap.size) (j := 1) (v := .slice A1 n1 c1) hb1 (by simp [go_sem]) (Nat.le_refl _)
        have hbw : Below w.heap.size w w1 := (hbx _).trans (hb1.mono (by simp))
        have hsz := hbw.size
        clear hb1
        go_wp2_with fail
        refine Calls.mono (ca _) ?_
        rintro e w2 ⟨rfl, rfl⟩
        go_wp2_with fail
        refine Calls.mono (cb _) ?_
        rintro e w2 ⟨rfl, rfl⟩
        go_wp2_with fail
        refine Calls.mono (c8 _ (h0.keep hbw hh) (by omega)) ?_
        rintro e w2 ⟨A3, n3, c3, rfl, hb2, hf⟩
        have hR := hf.rep
        have hsz2 := hb2.size
        clear hf
        go_wp2_with fail
        refine Calls.mono (spec_l8Has_any _ _ _ _ _ _ _ _ hR (Nat.le_refl _) (by have := idxOf_len (ancs r.commits kb); rw [ancs_len] at this; have := Hl0.out; omega)) ?_
        rintro e w3 ⟨rfl, rfl⟩
        have Hx := Hv
        go_wp2
        go_ret
        exact ⟨ret_bool Hx.out.symm, hbw.trans (hb2.mono hsz)⟩
end Go.Proofs.YtocncjohpikfcaaDoor
