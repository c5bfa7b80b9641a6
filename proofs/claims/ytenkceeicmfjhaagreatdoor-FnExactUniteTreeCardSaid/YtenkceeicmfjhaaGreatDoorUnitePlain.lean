import Derived.Test.YtenkceeicmfjhaaGreatDoorJoinAtPlain
import Derived.Test.YtenkceeicmfjhaaGreatDoorZ32
import Derived.Test.YtenkceeicmfjhaaGreatDoorRepoTree
import Derived.Test.YtenkceeicmfjhaaGreatDoorBndJoinT
/- Plain: the tree of the last commit from which two come; what becomes of both. -/
namespace Go.Proofs.YtenkceeicmfjhaaGreatDoor
open Go.RowKit

def basesOf (r : PRepo) (a b : Nat) : List Int := idxOf (clearAll r.commits (bothM (ancs r.commits a) (ancs r.commits b)) (idxOf (bothM (ancs r.commits a) (ancs r.commits b))))
def baseTree (r : PRepo) (a b : Nat) : List PFile := match (basesOf r a b).getLast? with
  | some x => treeAtC r.commits x.toNat
  | none => []
def uniteOk (r : PRepo) (a b : Int) : Bool := repoOk r && areIn r.commits.length [a, b]
def uniteTree (r : PRepo) (a b : Int) : Option (List PFile) := if uniteOk r a b = true then joinTree (baseTree r a.toNat b.toNat) (treeAtC r.commits a.toNat) (treeAtC r.commits b.toNat) else none
theorem unite_no {r : PRepo} {a b : Int} (h : uniteOk r a b = false) : uniteTree r a b = none := by unfold uniteTree; rw [h]; rfl
theorem unite_yes {r : PRepo} {a b : Nat} (h : uniteOk r a b = true) : uniteTree r a b = joinTree (baseTree r a b) (treeAtC r.commits a) (treeAtC r.commits b) := by unfold uniteTree; rw [if_pos h]; rfl
theorem basesOf_in {r : PRepo} {a b : Nat} {x : Int} (h : x ∈ basesOf r a b) : ∃ k : Nat, x = k ∧ k < r.commits.length := by
  obtain ⟨h1, h2⟩ := idxOf_nonneg _ x h
  rw [clearAll_len] at h2
  unfold bothM at h2
  simp only [List.length_map, List.length_range, ancs_len] at h2
  exact ⟨x.toNat, by omega, by omega⟩
theorem basesOf_len (r : PRepo) (a b : Nat) : (basesOf r a b).length ≤ r.commits.length := by
  have h := idxOf_len (clearAll r.commits (bothM (ancs r.commits a) (ancs r.commits b)) (idxOf (bothM (ancs r.commits a) (ancs r.commits b))))
  rw [clearAll_len] at h
  have h2 : (bothM (ancs r.commits a) (ancs r.commits b)).length = r.commits.length := by unfold bothM; simp [ancs_len]
  rw [h2] at h
  exact h
theorem baseTree_none {r : PRepo} {a b : Nat} (h : basesOf r a b = []) : baseTree r a b = [] := by unfold baseTree; rw [h]; rfl
theorem baseTree_last {r : PRepo} {a b m k : Nat} (h : (basesOf r a b).length = m + 1) (hx : (basesOf r a b)[m]? = some (k : Int)) : baseTree r a b = treeAtC r.commits k := by
  unfold baseTree
  rw [List.getLast?_eq_getElem?, h, show m + 1 - 1 = m by omega, hx]
  rfl
theorem treeOk_nil : treeOk [] = true := rfl
theorem baseTree_ok {r : PRepo} {a b : Nat} (h : repoOk r = true) : treeOk (baseTree r a b) = true := by
  unfold baseTree
  cases hl : (basesOf r a b).getLast? with
  | none => exact treeOk_nil
  | some x =>
    obtain ⟨k, rfl, hk⟩ := basesOf_in (List.mem_of_getLast? hl)
    exact treeAtC_ok h hk
theorem okTree_at {r : PRepo} (h : okRepoS r) (k : Nat) : okTree (treeAtC r.commits k) := by
  unfold treeAtC
  cases hc : r.commits[k]? with
  | none => intro x hx; cases hx
  | some c => exact (h.2.2.1 c (List.mem_of_getElem? hc)).2.1
theorem okTree_base {r : PRepo} (h : okRepoS r) (a b : Nat) : okTree (baseTree r a b) := by
  unfold baseTree
  split
  · exact okTree_at h _
  · intro x hx; cases hx
theorem bnd_UniteTree (r : PRepo) (a b : Int) : cntFiles ((uniteTree r a b).getD []) ≤ 400 := by
  unfold uniteTree
  split
  · exact bnd_JoinTree _ _ _
  · simp [cntFiles]
theorem joinTree_ok {xs ys zs : List PFile} (h : trees3 xs ys zs = true) : joinTree xs ys zs = if (joinPair xs ys zs).2.isEmpty = true then some (joinPair xs ys zs).1 else none := by unfold joinTree; rw [if_pos h]
theorem joinPair_ok {xs ys zs : List PFile} (h : (joinPair xs ys zs).2 = []) : treeOk (joinPair xs ys zs).1 = true := by
  unfold joinPair at h ⊢
  split
  · rename_i h9
    rw [if_pos h9] at h
    cases h
  · rename_i h9
    rw [if_neg h9] at h
    dsimp only at h
    rw [h] at h9
    dsimp only
    cases e : treeOk (joinOut xs ys zs (paths3 xs ys zs)) with
    | true => rfl
    | false => rw [e] at h9; exact absurd rfl h9
end Go.Proofs.YtenkceeicmfjhaaGreatDoor
