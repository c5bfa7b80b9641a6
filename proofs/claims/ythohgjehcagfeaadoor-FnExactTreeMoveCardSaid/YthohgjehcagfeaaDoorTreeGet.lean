/- Walks: what a tree has at a path: the program's get, TreeGet, the reference's l4Get, TreeGet. -/
import Derived.Test.YthohgjehcagfeaaDoorTreeCopy
namespace Go.Proofs.YthohgjehcagfeaaDoor
open Go.RowKit

def getAt : List PFile → Str → Option (List Str)
  | [], _ => none
  | f :: t, p => if f.path = p then some f.text else getAt t p
theorem getAt_drop {t : List PFile} {p : Str} {k : Nat} {x : PFile} (hx : t[k]? = some x) (hne : x.path ≠ p) : getAt (t.drop k) p = getAt (t.drop (k + 1)) p := by
  rw [List.drop_eq_getElem_cons (List.getElem?_eq_some_iff.1 hx).1, getAt]
  rw [List.getElem?_eq_getElem (List.getElem?_eq_some_iff.1 hx).1] at hx
  rw [Option.some.inj hx, if_neg hne]
theorem getAt_here {t : List PFile} {p : Str} {k : Nat} {x : PFile} (hx : t[k]? = some x) (he : x.path = p) : getAt (t.drop k) p = some x.text := by
  rw [List.drop_eq_getElem_cons (List.getElem?_eq_some_iff.1 hx).1, getAt]
  rw [List.getElem?_eq_getElem (List.getElem?_eq_some_iff.1 hx).1] at hx
  rw [Option.some.inj hx, if_pos he]
theorem getAt_mem : ∀ {t : List PFile} {p : Str} {x : List Str}, getAt t p = some x → ∃ f ∈ t, f.path = p ∧ f.text = x
  | f :: t, p, x, h => by
    rw [getAt] at h
    split at h
    · rename_i he
      exact ⟨f, by simp, he, Option.some.inj h⟩
    · obtain ⟨g, hg, h1⟩ := getAt_mem h
      exact ⟨g, by simp [hg], h1⟩
def treeGet (t : List PFile) (p : Str) : Option (List Str) := if treeOk t then getAt t p else none




end Go.Proofs.YthohgjehcagfeaaDoor
