/- Walks: the tree of a commit: tree, RepoTree. -/
import Derived.Test.YtocncjohpikfcaaDoorRepoAt
import Derived.Test.YtocncjohpikfcaaDoorTreeCopy
import Derived.Test.YtocncjohpikfcaaDoorTreeCopy2
import Derived.Test.YtocncjohpikfcaaDoorKFile
namespace Go.Proofs.YtocncjohpikfcaaDoor
open Go.RowKit

theorem cnt_ok {t : List PFile} (h : t.length ≤ 8) (h2 : ∀ x ∈ t, x.text.length ≤ 10) : cntFiles t ≤ 100 := by
  have key : ∀ l : List PFile, (∀ x ∈ l, x.text.length ≤ 10) → cntFiles l ≤ 11 * l.length := by
    intro l
    induction l with
    | nil => intro _; simp [cntFiles]
    | cons x l ih =>
      intro hl
      have h1 := ih (fun y hy => hl y (by simp [hy]))
      have h2 := hl x (by simp)
      simp only [cntFiles, cntFile, List.map_cons, List.sum_cons, List.length_cons] at *
      omega
  have := key t h2
  omega
theorem treeOk_texts {t : List PFile} (h : treeOk t = true) : ∀ x ∈ t, x.text.length ≤ 10 := fun x hx => by
  obtain ⟨k, hk⟩ := List.getElem?_of_mem hx
  exact textOk_len (treeAt_parts hk ((treeOk_iff.1 h).2 k (List.getElem?_eq_some_iff.1 hk).1)).1

def treeAtC (cs : List PCommit) (k : Nat) : List PFile := ((cs[k]?).map PCommit.tree).getD []
def repoTreeB (r : PRepo) (a : Int) : Bool := repoOk r && inRange a 0 ((r.commits.length : Int) - 1)
def repoTree (r : PRepo) (a : Int) : List PFile := if repoTreeB r a then treeAtC r.commits a.toNat else []
theorem treeAtC_eq {cs : List PCommit} {k : Nat} {c : PCommit} (h : cs[k]? = some c) : treeAtC cs k = c.tree := by unfold treeAtC; rw [h]; rfl
theorem commit_tree {cs : List PCommit} {i : Nat} {c : PCommit} (h : cs[i]? = some c) (hk : commitAt cs i = true) : treeOk c.tree = true := by
  rw [commitAt_eq h] at hk
  unfold commitOk at hk
  simp only [Bool.and_eq_true] at hk
  first | exact hk.2.2.2.1 | exact hk.1.2 | exact hk.2.1 | exact hk.1.1.2
theorem rangeNat {a : Int} {n : Nat} (h : inRange a 0 ((n : Int) - 1) = true) : ∃ k : Nat, a = k ∧ k < n := by
  simp [inRange] at h
  exact ⟨a.toNat, by omega, by omega⟩
theorem treeAtC_ok {r : PRepo} {k : Nat} (h : repoOk r = true) (hk : k < r.commits.length) : treeOk (treeAtC r.commits k) = true := by
  obtain ⟨c, hc⟩ : ∃ c, r.commits[k]? = some c := ⟨_, List.getElem?_eq_getElem hk⟩
  rw [treeAtC_eq hc]
  exact commit_tree hc ((repoOk_iff.1 h).2.1 k hk)
theorem bnd_RepoTree (r : PRepo) (a : Int) : cntFiles (repoTree r a) ≤ 100 := by
  unfold repoTree
  split
  · rename_i h
    unfold repoTreeB at h
    simp only [Bool.and_eq_true] at h
    obtain ⟨k, rfl, hk⟩ := rangeNat h.2
    have := treeAtC_ok h.1 hk
    simp only [Int.toNat_natCast]
    exact cnt_ok (treeOk_iff.1 this).1 (treeOk_texts this)
  · simp [cntFiles]
theorem fresh_noneF (w w' : World) (h : w.heap.size ≤ w'.heap.size) : Fresh w' w.heap.size w'.heap.size (encFiles []) (.slice none 0 0) := (Fresh.of_row (World.ownsRow_nil w' w'.heap.size _ _) ⟨rfl, rfl⟩ : Fresh w' w'.heap.size _ (.sl _ _ []) _).mono h (Nat.le_refl _)

set_option maxRecDepth 100000 in
set_option maxHeartbeats 800000 in
theorem impl_tree_any (r : PRepo) (A0 A1 : Option Addr) (n0 c0 n1 c1 : Nat) (w : World) (lo hi : Nat) (h0 : Rep w lo hi (encCommits r.commits) (.slice A0 n0 c0)) (hh : hi ≤ w.heap.size) (k : Nat) (hk : k < n0) :
    Calls Tryd.prog 65 #[.agg #[.slice A0 n0 c0, .slice A1 n1 c1], .int .i64 k] w fun e w' => ∃ A n c, e = .returned (.slice A n c) ∧ Below w.heap.size w w' ∧ Rep w' lo hi (encFiles (treeAtC r.commits k)) (.slice A n c) := by
  have hbx := fun o => (Below.refl w.heap.size w).alloc (Nat.le_refl _) o
  have hk' : (k : Int) < (n0 : Int) := by omega
  obtain ⟨xs, hs⟩ := r
  dsimp only at *
  obtain ⟨b1, o1, x, rfl, _, hbhi, hx, B0, m0, e0, B2, m2, e2, d0, r0, d1, d2, r2⟩ := Commits.at h0 hk
  have hr2 := r2.keep (hbx (.cells #[.slice (some ⟨b1, o1, none⟩) n0 c0, .slice A1 n1 c1] 31)) hh
  rw [← treeAtC_eq hx] at hr2
  have Hr2 := Lib.hid hr2
  have q2 := ((hbx (.cells #[.slice (some ⟨b1, o1, none⟩) n0 c0, .slice A1 n1 c1] 31)).cell (p := ⟨b1, o1 + k * 3 + 2, none⟩) (by show b1 < _; omega)).trans d2
  clear hx d0 d1 r0 r2 hr2 hh h0
  go_enter Tryd.func65, Tryd.ntmps65
  go_wp2
  go_ret
  exact ⟨_, _, _, rfl, hbx _, Hr2.out⟩

set_option maxRecDepth 100000 in
set_option maxHeartbeats 800000 in
theorem impl_RepoTree_any (a : Int) (r : PRepo) (A0 A1 : Option Addr) (n0 c0 n1 c1 : Nat) (w : World) (lo hi : Nat) (h0 : Rep w lo hi (encCommits r.commits) (.slice A0 n0 c0)) (h1 : Rep w lo hi (encHeads r.heads) (.slice A1 n1 c1)) (hh : hi ≤ w.heap.size) (hr : okRepoS r) :
    Calls Tryd.prog 28 #[.agg #[.slice A0 n0 c0, .slice A1 n1 c1], .int .i64 a] w fun e w' => ∃ A n c, e = .returned (.tuple #[.slice A n c, .bool (repoTreeB r a)]) ∧ Below w.heap.size w w' ∧ Fresh w' w.heap.size w'.heap.size (encFiles (repoTree r a)) (.slice A n c) := by
  have hc := fun w (h0 : Rep w lo hi (encCommits r.commits) (.slice A0 n0 c0)) (h1 : Rep w lo hi (encHeads r.heads) (.slice A1 n1 c1)) hh => impl_RepoOk_any r A0 A1 n0 c0 n1 c1 w lo hi h0 h1 hh hr
  have hl0 := Commits.n h0
  have h16 : n0 ≤ 1048576 := by rw [hl0]; exact hr.1
  have ca := fun W => impl_exists_any A0 A1 n0 c0 n1 c1 a W h16
  have hbx := fun o => (Below.refl w.heap.size w).alloc (Nat.le_refl _) o
  have Hl0 := Lib.hid hl0
  clear hl0
  have hB : repoTreeB r a = (repoOk r && inRange a 0 ((n0 : Int) - 1)) := by unfold repoTreeB; rw [Hl0.out]
  cases t1 : repoOk r
  all_goals rw [t1] at hc hB
  · rw [Bool.false_and] at hB
    rw [show repoTree r a = [] by unfold repoTree; rw [hB]; rfl, hB]
    clear t1 hB
    go_enter Tryd.func28, Tryd.ntmps28
    go_wp2_with fail
    refine Calls.mono (hc _ (h0.keep (hbx _) hh) (h1.keep (hbx _) hh) (by simp; omega)) ?_
    rintro e w1 ⟨rfl, hb1⟩
    have hbw : Below w.heap.size w w1 := (hbx _).trans (hb1.mono (by simp))
    have hsz := hbw.size
    clear hb1
    go_wp2
    go_ret2
    exact ⟨_, _, _, rfl, hbw, fresh_noneF _ _ hsz⟩
  · rw [Bool.true_and] at hB
    cases t2 : inRange a 0 ((n0 : Int) - 1)
    all_goals rw [t2] at ca hB
    · rw [show repoTree r a = [] by unfold repoTree; rw [hB]; rfl, hB]
      clear t1 t2 hB
      go_enter Tryd.func28, Tryd.ntmps28
      go_wp2_with fail
      refine Calls.mono (hc _ (h0.keep (hbx _) hh) (h1.keep (hbx _) hh) (by simp; omega)) ?_
      rintro e w1 ⟨rfl, hb1⟩
      have q0 := box_two (a := w.heap.size) (j := 0) (v := .slice A0 n0 c0) hb1 (by simp [go_sem]) (Nat.le_refl _)
      have q1 := box_two (a := w.heap.size) (j := 1) (v := .slice A1 n1 c1) hb1 (by simp [go_sem]) (Nat.le_refl _)
      have hbw : Below w.heap.size w w1 := (hbx _).trans (hb1.mono (by simp))
      have hsz := hbw.size
      clear hb1
      go_wp2_with fail
      refine Calls.mono (ca _) ?_
      rintro e w2 ⟨rfl, hb2⟩
      have hbv := hbw.trans (hb2.mono hsz)
      have hsz2 := hbv.size
      have hs2 := hb2.size
      go_wp2
      go_ret2
      exact ⟨_, _, _, rfl, hbv, fresh_noneF _ _ hsz2⟩
    · obtain ⟨k, rfl, hk⟩ := rangeNat t2
      have hsm := smallTree_ok (treeAtC_ok t1 (by rw [← Hl0.out]; exact hk))
      rw [show repoTree r k = treeAtC r.commits k by unfold repoTree; rw [hB]; simp, hB]
      have hk' : (k : Int) < (n0 : Int) := by omega
      have ct := fun W (h : Rep W lo hi (encCommits r.commits) (.slice A0 n0 c0)) hW => impl_tree_any r A0 A1 n0 c0 n1 c1 W lo hi h hW k hk
      clear t1 t2 hB
      go_enter Tryd.func28, Tryd.ntmps28
      go_wp2_with fail
      refine Calls.mono (hc _ (h0.keep (hbx _) hh) (h1.keep (hbx _) hh) (by simp; omega)) ?_
      rintro e w1 ⟨rfl, hb1⟩
      have q0 := box_two (a := w.heap.size) (j := 0) (v := .slice A0 n0 c0) hb1 (by simp [go_sem]) (Nat.le_refl _)
      have q1 := box_two (a := w.heap.size) (j := 1) (v := .slice A1 n1 c1) hb1 (by simp [go_sem]) (Nat.le_refl _)
      have hbw : Below w.heap.size w w1 := (hbx _).trans (hb1.mono (by simp))
      have hsz := hbw.size
      have hs1 : w.heap.size < w1.heap.size := by have := hb1.size; simp at this; omega
      clear hb1
      go_wp2_with fail
      refine Calls.mono (ca _) ?_
      rintro e w2 ⟨rfl, hb2⟩
      have hbv := hbw.trans (hb2.mono hsz)
      have hsz2 := hbv.size
      have hs2 := hb2.size
      have q02 : w2.cell? ⟨w.heap.size, 0, none⟩ = some (.slice A0 n0 c0) := (hb2.cell (by exact hs1)).trans q0
      have q12 : w2.cell? ⟨w.heap.size, 1, none⟩ = some (.slice A1 n1 c1) := (hb2.cell (by exact hs1)).trans q1
      clear q0 q1
      go_wp2_with fail
      refine Calls.mono (ct _ (h0.keep hbv hh) (by omega)) ?_
      rintro e w3 ⟨A3, n3, c3, rfl, hb3, hR⟩
      have hbu := hbv.trans (hb3.mono hsz2)
      have hsz3 := hb3.size
      go_wp2_with fail
      refine Calls.mono (impl_copyTree_any _ _ _ _ _ _ _ hR (by omega) hsm) ?_
      rintro e w4 ⟨A4, n4, c4, rfl, hb4, hf⟩
      have Hf := Lib.hid (hf.mono hbu.size (Nat.le_refl _))
      have hbz := hbu.trans (hb4.mono hbu.size)
      clear hf
      go_wp2
      go_ret2
      exact ⟨_, _, _, rfl, hbz, Hf.out⟩

set_option maxRecDepth 100000 in
set_option maxHeartbeats 800000 in
theorem spec_RepoTree_any (a : Int) (r : PRepo) (A0 A1 : Option Addr) (n0 c0 n1 c1 : Nat) (w : World) (lo hi : Nat) (h0 : Rep w lo hi (encCommits r.commits) (.slice A0 n0 c0)) (h1 : Rep w lo hi (encHeads r.heads) (.slice A1 n1 c1)) (hh : hi ≤ w.heap.size) (hr : okRepoS r) :
    Calls Tryd.prog 27 #[.agg #[.slice A0 n0 c0, .slice A1 n1 c1], .int .i64 a] w fun e w' => ∃ A n c, e = .returned (.tuple #[.slice A n c, .bool (repoTreeB r a)]) ∧ Below w.heap.size w w' ∧ Fresh w' w.heap.size w'.heap.size (encFiles (repoTree r a)) (.slice A n c) := by
  have hc := fun w (h0 : Rep w lo hi (encCommits r.commits) (.slice A0 n0 c0)) (h1 : Rep w lo hi (encHeads r.heads) (.slice A1 n1 c1)) hh => spec_l7Ok_any r A0 A1 n0 c0 n1 c1 w lo hi h0 h1 hh hr
  have hl0 := Commits.n h0
  have h16 : n0 ≤ 1048576 := by rw [hl0]; exact hr.1
  have ca := fun W => spec_l1In_any a 0 ((n0 : Int) - 1) W
  have hbx := fun o => (Below.refl w.heap.size w).alloc (Nat.le_refl _) o
  have Hl0 := Lib.hid hl0
  clear hl0
  have hB : repoTreeB r a = (repoOk r && inRange a 0 ((n0 : Int) - 1)) := by unfold repoTreeB; rw [Hl0.out]
  cases t1 : repoOk r
  all_goals rw [t1] at hc hB
  · rw [Bool.false_and] at hB
    rw [show repoTree r a = [] by unfold repoTree; rw [hB]; rfl, hB]
    clear t1 hB
    go_enter Tryd.func27, Tryd.ntmps27
    go_wp2_with fail
    refine Calls.mono (hc _ (h0.keep (hbx _) hh) (h1.keep (hbx _) hh) (by simp; omega)) ?_
    rintro e w1 ⟨rfl, hb1⟩
    have hbw : Below w.heap.size w w1 := (hbx _).trans (hb1.mono (by simp))
    have hsz := hbw.size
    clear hb1
    go_wp2
    go_ret2
    exact ⟨_, _, _, rfl, hbw, fresh_noneF _ _ hsz⟩
  · rw [Bool.true_and] at hB
    cases t2 : inRange a 0 ((n0 : Int) - 1)
    all_goals rw [t2] at ca hB
    · rw [show repoTree r a = [] by unfold repoTree; rw [hB]; rfl, hB]
      clear t1 t2 hB
      go_enter Tryd.func27, Tryd.ntmps27
      go_wp2_with fail
      refine Calls.mono (hc _ (h0.keep (hbx _) hh) (h1.keep (hbx _) hh) (by simp; omega)) ?_
      rintro e w1 ⟨rfl, hb1⟩
      have q0 := box_two (a := w.heap.size) (j := 0) (v := .slice A0 n0 c0) hb1 (by simp [go_sem]) (Nat.le_refl _)
      have q1 := box_two (a := w.heap.size) (j := 1) (v := .slice A1 n1 c1) hb1 (by simp [go_sem]) (Nat.le_refl _)
      have hbw : Below w.heap.size w w1 := (hbx _).trans (hb1.mono (by simp))
      have hsz := hbw.size
      clear hb1
      go_wp2_with fail
      refine Calls.mono (ca _) ?_
      rintro e w2 ⟨rfl, hb2⟩
      subst hb2
      have hbv := hbw
      have hsz2 := hsz
      go_wp2
      go_ret2
      exact ⟨_, _, _, rfl, hbv, fresh_noneF _ _ hsz2⟩
    · obtain ⟨k, rfl, hk⟩ := rangeNat t2
      have hsm := smallTree_ok (treeAtC_ok t1 (by rw [← Hl0.out]; exact hk))
      rw [show repoTree r k = treeAtC r.commits k by unfold repoTree; rw [hB]; simp, hB]
      have hk' : (k : Int) < (n0 : Int) := by omega
      obtain ⟨x, hx⟩ : ∃ x, r.commits[k]? = some x := ⟨r.commits[k]'(by rw [← Hl0.out]; exact hk), List.getElem?_eq_getElem _⟩
      clear t1 t2 hB
      go_enter Tryd.func27, Tryd.ntmps27
      go_wp2_with fail
      refine Calls.mono (hc _ (h0.keep (hbx _) hh) (h1.keep (hbx _) hh) (by simp; omega)) ?_
      rintro e w1 ⟨rfl, hb1⟩
      have q0 := box_two (a := w.heap.size) (j := 0) (v := .slice A0 n0 c0) hb1 (by simp [go_sem]) (Nat.le_refl _)
      have q1 := box_two (a := w.heap.size) (j := 1) (v := .slice A1 n1 c1) hb1 (by simp [go_sem]) (Nat.le_refl _)
      have hbw : Below w.heap.size w w1 := (hbx _).trans (hb1.mono (by simp))
      have hsz := hbw.size
      have hs1 : w.heap.size < w1.heap.size := by have := hb1.size; simp at this; omega
      clear hb1
      go_wp2_with fail
      refine Calls.mono (ca _) ?_
      rintro e w2 ⟨rfl, hb2⟩
      subst hb2
      have hbv := hbw
      have hsz2 := hsz
      obtain ⟨b1, o1, x', rfl, _, hbhi, hx', B0, m0, e0, B2, m2, e2, d0, r0, d1, d2, r2⟩ := Commits.at (h0.keep hbw hh) hk
      rw [← treeAtC_eq hx'] at r2
      clear hx hx' d0 d1 r0
      go_wp2_with fail
      refine Calls.mono (spec_l4Copy_any _ _ _ _ _ _ _ r2 (by omega) hsm) ?_
      rintro e w4 ⟨A4, n4, c4, rfl, hb4, hf⟩
      have Hf := Lib.hid (hf.mono hsz (Nat.le_refl _))
      have hbz := hbw.trans (hb4.mono hsz)
      clear hf
      go_wp2
      go_ret2
      exact ⟨_, _, _, rfl, hbz, Hf.out⟩

end Go.Proofs.YtocncjohpikfcaaDoor
