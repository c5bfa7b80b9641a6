/- Plain: moving what is at a path, file by file. -/
import Derived.Test.YthohgjehcagfeaaDoorSetPlain
namespace Go.Proofs.YthohgjehcagfeaaDoor
open Go.RowKit

theorem ascT_filter {t : List PFile} (h : ascT t) (q : PFile → Bool) : ascT (t.filter q) := List.Pairwise.filter _ h
theorem ascT_take {t : List PFile} (h : ascT t) (k : Nat) : ascT (t.take k) := List.Pairwise.sublist (List.take_sublist _ _) h
theorem restF_next {t : List PFile} {p : Str} {k : Nat} {x : PFile} (hx : t[k]? = some x) : restF (t.take (k + 1)) p = restF (t.take k) p ++ (if atOr x.path p then [] else [x]) := by
  unfold restF
  rw [filter_next hx]
  cases atOr x.path p <;> rfl
theorem goesF_next {t : List PFile} {p : Str} {k : Nat} {x : PFile} (hx : t[k]? = some x) : goesF (t.take (k + 1)) p = goesF (t.take k) p ++ (if atOr x.path p then [x] else []) := by
  unfold goesF
  rw [filter_next hx]
theorem rest_lt {t : List PFile} {p : Str} {k : Nat} {x : PFile} (h : ascT t) (hx : t[k]? = some x) : ∀ y ∈ restF (t.take k) p, ltS y.path x.path = true := by
  intro y hy
  have hy2 := (List.mem_filter.1 hy).1
  obtain ⟨j, hj⟩ := List.getElem?_of_mem hy2
  have hjl := (List.getElem?_eq_some_iff.1 hj).1
  rw [List.length_take] at hjl
  rw [List.getElem?_take, if_pos (by omega)] at hj
  have hk := (List.getElem?_eq_some_iff.1 hx).1
  have := List.pairwise_iff_getElem.1 h j k (by omega) hk (by omega)
  rw [List.getElem?_eq_getElem (by omega)] at hj
  rw [List.getElem?_eq_getElem hk] at hx
  rw [← Option.some.inj hj, ← Option.some.inj hx]
  exact this
theorem rest_set {t : List PFile} {p : Str} {k : Nat} {x : PFile} (h : ascT t) (hx : t[k]? = some x) (hn : atOr x.path p = false) : setF (restF (t.take k) p) x = restF (t.take (k + 1)) p := by
  rw [setF_last (rest_lt h hx), restF_next hx, hn]
  rfl
/-- What the first k files have made. -/
def moveK (t : List PFile) (p to : Str) (k : Nat) : List PFile := ((goesF (t.take k) p).map (movedF p to)).foldl setF (restF t p)
theorem moveK_zero (t : List PFile) (p to : Str) : moveK t p to 0 = restF t p := by simp [moveK, goesF]
theorem moveK_all (t : List PFile) (p to : Str) : moveK t p to t.length = moveF t p to := by unfold moveK moveF; rw [List.take_length]
theorem moveK_next {t : List PFile} {p to : Str} {k : Nat} {x : PFile} (hx : t[k]? = some x) : moveK t p to (k + 1) = if atOr x.path p then setF (moveK t p to k) (movedF p to x) else moveK t p to k := by
  unfold moveK
  rw [goesF_next hx]
  cases atOr x.path p <;> simp
theorem moveK_asc {t : List PFile} (h : ascT t) (p to : Str) (k : Nat) : ascT (moveK t p to k) := fold_asc _ _ (ascT_filter h _)
theorem moveK_le {t : List PFile} (h : ascT t) (p to : Str) (k : Nat) : (moveK t p to k).length ≤ (restF t p).length + (goesF (t.take k) p).length := by
  have := fold_len ((goesF (t.take k) p).map (movedF p to)) (restF t p) (ascT_filter h _)
  rwa [List.length_map] at this
theorem goesF_take_le (t : List PFile) (p : Str) (k : Nat) : (goesF (t.take k) p).length ≤ (goesF t p).length := by
  unfold goesF
  exact ((List.take_sublist k t).filter _).length_le
theorem moveK_len {t : List PFile} (h : ascT t) (p to : Str) (k : Nat) : (moveK t p to k).length ≤ t.length := by
  have h1 := moveK_le h p to k
  have h2 := goesF_take_le t p k
  have h3 := rest_goes_len t p
  omega
theorem moveK_mem {t : List PFile} {p to : Str} {k : Nat} {y : PFile} (h : y ∈ moveK t p to k) : y ∈ t ∨ ∃ x ∈ t, y = movedF p to x := by
  rcases fold_mem h with m | m
  · obtain ⟨x, hx, rfl⟩ := List.mem_map.1 m
    exact .inr ⟨x, List.mem_of_mem_take (List.mem_filter.1 hx).1, rfl⟩
  · exact .inl (List.mem_filter.1 m).1
theorem move_stuck {t : List PFile} {p to : Str} {k : Nat} {x : PFile} (h : ascT t) (hx : t[k]? = some x) (ha : atOr x.path p = true) (hs : hasF (moveK t p to k) (movedF p to x).path = true) : treeMoveB t p to = false := by
  have hk := (List.getElem?_eq_some_iff.1 hx).1
  have hd : t = t.take k ++ x :: t.drop (k + 1) := by
    have e := List.drop_eq_getElem_cons hk
    rw [List.getElem?_eq_getElem hk] at hx
    rw [Option.some.inj hx] at e
    rw [← e, List.take_append_drop]
  have hg : goesF t p = goesF (t.take k) p ++ x :: goesF (t.drop (k + 1)) p := by
    conv => lhs; rw [hd]
    unfold goesF
    rw [List.filter_append, List.filter_cons, ha]
    rfl
  have e : moveF t p to = (movedF p to x :: (goesF (t.drop (k + 1)) p).map (movedF p to)).foldl setF (moveK t p to k) := by
    unfold moveF moveK
    rw [hg, List.map_append, List.foldl_append]
    rfl
  have h1 := fold_stuck (l := (goesF (t.drop (k + 1)) p).map (movedF p to)) (moveK_asc h p to k) hs
  rw [← e, List.length_map] at h1
  have h2 := moveK_le h p to k
  have h3 := rest_goes_len t p
  rw [hg] at h3
  simp at h3
  unfold treeMoveB
  have : decide ((moveF t p to).length = t.length) = false := by simp; omega
  rw [this]
  simp
theorem move_free {t : List PFile} {p to : Str} (ho : treeOk t = true) (hl : (moveF t p to).length = (restF t p).length + (goesF t p).length) : treeMoveB t p to = (decide (goesF t p ≠ []) && (pathOk to && treeOk (moveF t p to))) := by
  have h3 := rest_goes_len t p
  unfold treeMoveB
  rw [ho, show decide ((moveF t p to).length = t.length) = true by simp; omega]
  have : decide ((restF t p).length ≠ t.length) = decide (goesF t p ≠ []) := by
    cases hg : goesF t p with
    | nil => rw [hg] at h3; simp at h3 ⊢; exact h3
    | cons a l => rw [hg] at h3; simp at h3 ⊢; omega
  rw [this]
  simp [Bool.and_assoc]
theorem treeMove_no {t : List PFile} {p to : Str} (ho : treeOk t = true) (h : treeMoveB t p to = false) : treeMove t p to = t := by unfold treeMove; rw [ho, h]; rfl
theorem treeMove_yes {t : List PFile} {p to : Str} (ho : treeOk t = true) (h : treeMoveB t p to = true) : treeMove t p to = moveF t p to := by unfold treeMove; rw [ho, h]; rfl
end Go.Proofs.YthohgjehcagfeaaDoor
