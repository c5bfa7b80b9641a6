/- Walks: where a branch is: RepoAt, the program's and the reference's. -/
import Derived.Test.YtifeflneodmmlaaDoorRepo1
import Derived.Test.YtifeflneodmmlaaDoorRepo2
namespace Go.Proofs.YtifeflneodmmlaaDoor
open Go.RowKit

def headOf : List PHead → Str → Int
  | [], _ => -1
  | h :: t, s => if h.name = s then h.at_ else headOf t s
theorem headOf_skip {hs : List PHead} {s : Str} {k : Nat} {x : PHead} (hx : hs[k]? = some x) (hne : x.name ≠ s) : headOf (hs.drop k) s = headOf (hs.drop (k + 1)) s := by
  rw [List.drop_eq_getElem_cons (List.getElem?_eq_some_iff.1 hx).1, headOf]
  rw [List.getElem?_eq_getElem (List.getElem?_eq_some_iff.1 hx).1] at hx
  rw [Option.some.inj hx, if_neg hne]
theorem headOf_here {hs : List PHead} {s : Str} {k : Nat} {x : PHead} (hx : hs[k]? = some x) (he : x.name = s) : headOf (hs.drop k) s = x.at_ := by
  rw [List.drop_eq_getElem_cons (List.getElem?_eq_some_iff.1 hx).1, headOf]
  rw [List.getElem?_eq_getElem (List.getElem?_eq_some_iff.1 hx).1] at hx
  rw [Option.some.inj hx, if_pos he]
def repoAt (r : PRepo) (s : Str) : Int := if repoOk r then headOf r.heads s else -1



theorem box_two {w w' : World} {o : Obj} {a : Nat} {j : Nat} {v : Value} (hb : Below (w.alloc o).heap.size (w.alloc o) w') (h : (w.alloc o).cell? ⟨a, j, none⟩ = some v) (ha : a ≤ w.heap.size) : w'.cell? ⟨a, j, none⟩ = some v :=
  (hb.cell (p := ⟨a, j, none⟩) (by simp; omega)).trans h


end Go.Proofs.YtifeflneodmmlaaDoor
