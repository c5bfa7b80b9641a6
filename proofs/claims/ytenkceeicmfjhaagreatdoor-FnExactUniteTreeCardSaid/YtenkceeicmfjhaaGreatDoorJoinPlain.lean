import Derived.Test.YtenkceeicmfjhaaGreatDoorSortPlain
import Derived.Test.YtenkceeicmfjhaaGreatDoorZ25
/- Plain: all paths of three trees, in order, each once; whether two sides changed nothing both. -/
namespace Go.Proofs.YtenkceeicmfjhaaGreatDoor
open Go.RowKit

def pathsT (t : List PFile) : List Str := t.map (·.path)
def paths3 (xs ys zs : List PFile) : List Str := setS (pathsT xs ++ pathsT ys ++ pathsT zs)
theorem pathsT_next {t : List PFile} {k : Nat} {x : PFile} (h : t[k]? = some x) : pathsT (t.take (k + 1)) = pathsT (t.take k) ++ [x.path] := by
  unfold pathsT
  rw [List.take_add_one, h, List.map_append]
  rfl
theorem pathsT_len (t : List PFile) : (pathsT t).length = t.length := by simp [pathsT]
theorem paths3_fold (xs ys zs : List PFile) : paths3 xs ys zs = (pathsT zs).foldl insS ((pathsT ys).foldl insS ((pathsT xs).foldl insS [])) := by
  unfold paths3 setS
  rw [List.foldl_append, List.foldl_append]
theorem insS_len1 (l : List Str) (s : Str) : (insS l s).length ≤ l.length + 1 := by
  induction l with
  | nil => simp [insS]
  | cons y t ih =>
    unfold insS
    split
    · simp only [List.length_cons]; omega
    · split <;> simp
theorem foldS_len1 (l o : List Str) : (l.foldl insS o).length ≤ l.length + o.length := by
  induction l generalizing o with
  | nil => simp
  | cons y t ih =>
    have h1 := ih (insS o y)
    have h2 := insS_len1 o y
    simp only [List.foldl_cons, List.length_cons]
    omega
theorem paths3_len (xs ys zs : List PFile) : (paths3 xs ys zs).length ≤ xs.length + ys.length + zs.length := by
  rw [paths3_fold]
  have h1 := foldS_len1 (pathsT zs) ((pathsT ys).foldl insS ((pathsT xs).foldl insS []))
  have h2 := foldS_len1 (pathsT ys) ((pathsT xs).foldl insS [])
  have h3 := foldS_len1 (pathsT xs) []
  rw [pathsT_len] at h1 h2 h3
  simp only [List.length_nil] at h3
  omega
def trees3 (xs ys zs : List PFile) : Bool := treeOk xs && (treeOk ys && treeOk zs)
/-- At this path both sides made something else of it. -/
def bothAt (xs ys zs : List PFile) (p : Str) : Bool := !decide (getAt ys p = getAt xs p) && !decide (getAt zs p = getAt xs p)
def joinFree (xs ys zs : List PFile) : Bool := trees3 xs ys zs && (paths3 xs ys zs).all fun p => !bothAt xs ys zs p
theorem opt_same {a b : Option (List Str)} : (a.isSome = b.isSome ∧ a.getD [] = b.getD []) ↔ a = b := by
  cases a <;> cases b <;> simp
theorem all_step {p : Str → Bool} {l : List Str} {k : Nat} {x : Str} (h : l[k]? = some x) (ht : (l.take k).all p = true) (hx : p x = true) : (l.take (k + 1)).all p = true := by
  rw [List.take_add_one, h, List.all_append, ht]
  simp [hx]
theorem all_fail {p : Str → Bool} {l : List Str} {k : Nat} {x : Str} (h : l[k]? = some x) (hx : p x = false) : l.all p = false := by
  cases e : l.all p with
  | false => rfl
  | true =>
    rw [List.all_eq_true] at e
    rw [e x (List.mem_of_getElem? h)] at hx
    cases hx
end Go.Proofs.YtenkceeicmfjhaaGreatDoor
