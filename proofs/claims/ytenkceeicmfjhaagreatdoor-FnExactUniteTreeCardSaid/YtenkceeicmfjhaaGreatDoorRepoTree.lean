import Derived.Test.YtenkceeicmfjhaaGreatDoorZ31
import Derived.Test.YtenkceeicmfjhaaGreatDoorZ25
import Derived.Test.YtenkceeicmfjhaaGreatDoorZ14
/- Walks: the tree of a commit: tree, RepoTree. -/
namespace Go.Proofs.YtenkceeicmfjhaaGreatDoor
open Go.RowKit

theorem cnt_ok {t : List PFile} (h : t.length ≤ 8) (h2 : ∀ x ∈ t, x.text.length ≤ 10) : cntFiles t ≤ 100 := by
  have key : ∀ l : List PFile, (∀ x ∈ l, x.text.length ≤ 10) → cntFiles l ≤ 11 * l.length := by
    intro l
    induction l with
    | nil => intro _; simp [cntFiles]
    | cons x l ih =>
      intro hl
      have h1 := ih (fun y hy => hl y (by simp [hy]))
      have h2 := hl x (by simp)
      simp only [cntFiles, cntFile, List.map_cons, List.sum_cons, List.length_cons] at *
      omega
  have := key t h2
  omega
theorem treeOk_texts {t : List PFile} (h : treeOk t = true) : ∀ x ∈ t, x.text.length ≤ 10 := fun x hx => by
  obtain ⟨k, hk⟩ := List.getElem?_of_mem hx
  exact textOk_len (treeAt_parts hk ((treeOk_iff.1 h).2 k (List.getElem?_eq_some_iff.1 hk).1)).1

def treeAtC (cs : List PCommit) (k : Nat) : List PFile := ((cs[k]?).map PCommit.tree).getD []
def repoTreeB (r : PRepo) (a : Int) : Bool := repoOk r && inRange a 0 ((r.commits.length : Int) - 1)
def repoTree (r : PRepo) (a : Int) : List PFile := if repoTreeB r a then treeAtC r.commits a.toNat else []
theorem treeAtC_eq {cs : List PCommit} {k : Nat} {c : PCommit} (h : cs[k]? = some c) : treeAtC cs k = c.tree := by unfold treeAtC; rw [h]; rfl
theorem commit_tree {cs : List PCommit} {i : Nat} {c : PCommit} (h : cs[i]? = some c) (hk : commitAt cs i = true) : treeOk c.tree = true := by
  rw [commitAt_eq h] at hk
  unfold commitOk at hk
  simp only [Bool.and_eq_true] at hk
  first | exact hk.2.2.2.1 | exact hk.1.2 | exact hk.2.1 | exact hk.1.1.2
theorem rangeNat {a : Int} {n : Nat} (h : inRange a 0 ((n : Int) - 1) = true) : ∃ k : Nat, a = k ∧ k < n := by
  simp [inRange] at h
  exact ⟨a.toNat, by omega, by omega⟩
theorem treeAtC_ok {r : PRepo} {k : Nat} (h : repoOk r = true) (hk : k < r.commits.length) : treeOk (treeAtC r.commits k) = true := by
  obtain ⟨c, hc⟩ : ∃ c, r.commits[k]? = some c := ⟨_, List.getElem?_eq_getElem hk⟩
  rw [treeAtC_eq hc]
  exact commit_tree hc ((repoOk_iff.1 h).2.1 k hk)
theorem bnd_RepoTree (r : PRepo) (a : Int) : cntFiles (repoTree r a) ≤ 100 := by
  unfold repoTree
  split
  · rename_i h
    unfold repoTreeB at h
    simp only [Bool.and_eq_true] at h
    obtain ⟨k, rfl, hk⟩ := rangeNat h.2
    have := treeAtC_ok h.1 hk
    simp only [Int.toNat_natCast]
    exact cnt_ok (treeOk_iff.1 this).1 (treeOk_texts this)
  · simp [cntFiles]
theorem fresh_noneF (w w' : World) (h : w.heap.size ≤ w'.heap.size) : Fresh w' w.heap.size w'.heap.size (encFiles []) (.slice none 0 0) := (Fresh.of_row (World.ownsRow_nil w' w'.heap.size _ _) ⟨rfl, rfl⟩ : Fresh w' w'.heap.size _ (.sl _ _ []) _).mono h (Nat.le_refl _)

set_option maxRecDepth 100000 in
set_option maxHeartbeats 800000 in
theorem impl_tree_any (r : PRepo) (A0 A1 : Option Addr) (n0 c0 n1 c1 : Nat) (w : World) (lo hi : Nat) (h0 : Rep w lo hi (encCommits r.commits) (.slice A0 n0 c0)) (hh : hi ≤ w.heap.size) (k : Nat) (hk : k < n0) :
    Calls Tryz.prog 25 #[.agg #[.slice A0 n0 c0, .slice A1 n1 c1], .int .i64 k] w fun e w' => ∃ A n c, e = .returned (.slice A n c) ∧ Below w.heap.size w w' ∧ Rep w' lo hi (encFiles (treeAtC r.commits k)) (.slice A n c) := by
  have hbx := fun o => (Below.refl w.heap.size w).alloc (Nat.le_refl _) o
  have hk' : (k : Int) < (n0 : Int) := by omega
  obtain ⟨xs, hs⟩ := r
  dsimp only at *
  obtain ⟨b1, o1, x, rfl, _, hbhi, hx, B0, m0, e0, B2, m2, e2, d0, r0, d1, d2, r2⟩ := Commits.at h0 hk
  have hr2 := r2.keep (hbx (.cells #[.slice (some ⟨b1, o1, none⟩) n0 c0, .slice A1 n1 c1] 33)) hh
  rw [← treeAtC_eq hx] at hr2
  have Hr2 := Lib.hid hr2
  have q2 := ((hbx (.cells #[.slice (some ⟨b1, o1, none⟩) n0 c0, .slice A1 n1 c1] 33)).cell (p := ⟨b1, o1 + k * 3 + 2, none⟩) (by show b1 < _; omega)).trans d2
  clear hx d0 d1 r0 r2 hr2 hh h0
  go_enter Tryz.func25, Tryz.ntmps25
  go_wp2
  go_ret
  exact ⟨_, _, _, rfl, hbx _, Hr2.out⟩



end Go.Proofs.YtenkceeicmfjhaaGreatDoor
