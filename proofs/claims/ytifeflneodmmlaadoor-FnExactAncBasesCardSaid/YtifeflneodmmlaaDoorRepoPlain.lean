/- In plain words: repositories that are ok. No program. -/
import Derived.Test.YtifeflneodmmlaaDoorTreePlain
import Derived.Test.YtifeflneodmmlaaDoorHRepo
import Derived.Test.YtifeflneodmmlaaDoorRange
namespace Go.Proofs.YtifeflneodmmlaaDoor
open Go.RowKit

def commitOk (i : Nat) (c : PCommit) : Bool :=
  !decide (2 < c.parents.length) && (!(decide (c.parents.length = 2) && decide (c.parents[0]? = c.parents[1]?)) && (nameOk c.who && (treeOk c.tree && c.parents.all fun p => inRange p 0 ((i : Int) - 1))))
theorem commitOk_long {i : Nat} {c : PCommit} (h : 2 < c.parents.length) : commitOk i c = false := by unfold commitOk; simp [h]
theorem commitOk_twin {i : Nat} {c : PCommit} (h : c.parents.length = 2) (h2 : c.parents[0]? = c.parents[1]?) : commitOk i c = false := by unfold commitOk; rw [h2]; simp [h]
theorem commitOk_name {i : Nat} {c : PCommit} (h : nameOk c.who = false) : commitOk i c = false := by unfold commitOk; simp [h]
theorem commitOk_tree {i : Nat} {c : PCommit} (h : treeOk c.tree = false) : commitOk i c = false := by unfold commitOk; simp [h]
theorem commitOk_parent {i j : Nat} {c : PCommit} {p : Int} (hp : c.parents[j]? = some p) (h : inRange p 0 ((i : Int) - 1) = false) : commitOk i c = false := by
  unfold commitOk
  rw [all_false hp h]; simp
theorem commitOk_yes {i : Nat} {c : PCommit} (h1 : ¬ 2 < c.parents.length) (h2 : ¬ (c.parents.length = 2 ∧ c.parents[0]? = c.parents[1]?)) (h3 : nameOk c.who = true) (h4 : treeOk c.tree = true)
    (h5 : (c.parents.all fun p => inRange p 0 ((i : Int) - 1)) = true) : commitOk i c = true := by
  unfold commitOk
  rw [decide_eq_false h1, h3, h4, h5]
  have : (decide (c.parents.length = 2) && decide (c.parents[0]? = c.parents[1]?)) = false := by
    cases hd : (decide (c.parents.length = 2) && decide (c.parents[0]? = c.parents[1]?)) with
    | false => rfl
    | true => simp only [Bool.and_eq_true, decide_eq_true_eq] at hd; exact absurd hd h2
  rw [this]; rfl
def commitAt (cs : List PCommit) (k : Nat) : Bool := match cs[k]? with
  | none => true
  | some c => commitOk k c
def headAt (n : Nat) (hs : List PHead) (k : Nat) : Bool := match hs[k]? with
  | none => true
  | some h => nameOk h.name && (inRange h.at_ 0 ((n : Int) - 1) && (match k with
    | 0 => true
    | j + 1 => match hs[j]? with
      | none => true
      | some g => ltS g.name h.name))
def headsOk (n : Nat) (hs : List PHead) : Bool := decide (hs.length ≤ 5) && (List.range hs.length).all (headAt n hs)
def repoOk (r : PRepo) : Bool := decide (r.commits.length ≤ 16) && ((List.range r.commits.length).all (commitAt r.commits) && headsOk r.commits.length r.heads)
theorem range_all {f : Nat → Bool} {n : Nat} (h : ∀ k, k < n → f k = true) : (List.range n).all f = true := List.all_eq_true.2 fun k hk => h k (List.mem_range.1 hk)
theorem range_no {f : Nat → Bool} {n k : Nat} (hk : k < n) (h : f k = false) : (List.range n).all f = false := by
  cases hc : (List.range n).all f with
  | false => rfl
  | true => rw [List.all_eq_true] at hc; rw [hc k (List.mem_range.2 hk)] at h; cases h
theorem headsOk_false {n k : Nat} {hs : List PHead} (hk : k < hs.length) (h : headAt n hs k = false) : headsOk n hs = false := by
  unfold headsOk; rw [range_no hk h]; simp
theorem headsOk_all {n : Nat} {hs : List PHead} (h : ∀ k, k < hs.length → headAt n hs k = true) : headsOk n hs = decide (hs.length ≤ 5) := by
  unfold headsOk; rw [range_all h]; simp
theorem repoOk_commit {r : PRepo} {k : Nat} (hk : k < r.commits.length) (h : commitAt r.commits k = false) : repoOk r = false := by
  unfold repoOk; rw [range_no hk h]; simp
theorem repoOk_heads {r : PRepo} (h : ∀ k, k < r.commits.length → commitAt r.commits k = true) : repoOk r = (decide (r.commits.length ≤ 16) && headsOk r.commits.length r.heads) := by
  unfold repoOk; rw [range_all h]; simp
theorem repoOk_iff {r : PRepo} : repoOk r = true ↔ r.commits.length ≤ 16 ∧ (∀ k, k < r.commits.length → commitAt r.commits k = true) ∧ headsOk r.commits.length r.heads = true := by
  unfold repoOk
  simp [List.all_eq_true]
theorem commitAt_eq {cs : List PCommit} {k : Nat} {c : PCommit} (h : cs[k]? = some c) : commitAt cs k = commitOk k c := by unfold commitAt; rw [h]
theorem headAt_name {n k : Nat} {hs : List PHead} {h : PHead} (hx : hs[k]? = some h) (hn : nameOk h.name = false) : headAt n hs k = false := by unfold headAt; rw [hx]; simp [hn]
theorem headAt_at {n k : Nat} {hs : List PHead} {h : PHead} (hx : hs[k]? = some h) (hn : inRange h.at_ 0 ((n : Int) - 1) = false) : headAt n hs k = false := by unfold headAt; rw [hx]; simp [hn]
theorem headAt_order {n k : Nat} {hs : List PHead} {h g : PHead} (hx : hs[k]? = some h) (hk : 0 < k) (hg : hs[k - 1]? = some g) (hn : ltS g.name h.name = false) : headAt n hs k = false := by
  obtain ⟨j, rfl⟩ : ∃ j, k = j + 1 := ⟨k - 1, by omega⟩
  simp at hg
  unfold headAt; rw [hx]; simp [hg, hn]
theorem headAt_yes {n k : Nat} {hs : List PHead} {h : PHead} (hx : hs[k]? = some h) (h1 : nameOk h.name = true) (h2 : inRange h.at_ 0 ((n : Int) - 1) = true) (h3 : ∀ g, 0 < k → hs[k - 1]? = some g → ltS g.name h.name = true) : headAt n hs k = true := by
  unfold headAt
  rw [hx]
  simp only [h1, h2, Bool.true_and]
  cases k with
  | zero => rfl
  | succ j =>
    cases hg : hs[j]? with
    | none => simp [hg]
    | some g => simpa [hg] using h3 g (by omega) (by simpa using hg)
/-- What is asked of a repository's sizes. -/
def okRepoS (r : PRepo) : Prop := r.commits.length ≤ 1048576 ∧ r.heads.length ≤ 1048576 ∧ (∀ c ∈ r.commits, okCommit c ∧ okTree c.tree ∧ c.parents.length ≤ 1048576) ∧ ∀ h ∈ r.heads, okHead h
theorem okRepoS_of {r : PRepo} (h : okRepo r) (hz : szRepo r ≤ 1048576) : okRepoS r := by
  unfold okRepo at h
  have hz1 : szCommits r.commits + szHeads r.heads ≤ 1048576 := hz
  have hz2 : r.commits.length + (r.commits.map szCommit).sum + (r.heads.length + (r.heads.map szHead).sum) ≤ 1048576 := hz1
  refine ⟨by omega, by omega, fun c hc => ?_, h.2⟩
  have hle : szCommit c ≤ (r.commits.map szCommit).sum := le_sum_of_mem (List.mem_map_of_mem hc)
  have h1 := h.1 c hc
  have hle2 : c.parents.length + c.who.length + szFiles c.tree ≤ (r.commits.map szCommit).sum := hle
  have h2 := h1
  unfold okCommit at h2
  exact ⟨h1, okTree_of h2.2.2 (by omega), by omega⟩
end Go.Proofs.YtifeflneodmmlaaDoor
