/- Plain law: the reference's test of each change against those ahead of it: no path twice. -/
import Derived.Test.YtianpeokdojkbaaDoorPathsOf
namespace Go.Proofs.YtianpeokdojkbaaDoor
open Go.RowKit

def freeP (l : List PChange) (p : Str) : Bool := l.all fun c => !(c.path == p) && !(c.dest == p)
def okStep (xs : List PChange) (k : Nat) (x : PChange) : Bool := changeOk x && (freeP (xs.take k) x.path && (x.dest.isEmpty || freeP (xs.take k) x.dest))
/-- The first k changes are ok. -/
def okTo (xs : List PChange) (k : Nat) : Prop := (xs.take k).all changeOk = true ∧ (pathsL (xs.take k)).Nodup
theorem changeOk_path {c : PChange} (h : changeOk c = true) : pathOk c.path = true := by
  unfold changeOk at h
  rw [Bool.and_eq_true] at h
  exact h.1
theorem changeOk_dest {c : PChange} (h : changeOk c = true) (hk : ¬ c.kind = 4) : c.dest = [] := by
  unfold changeOk at h
  rw [Bool.and_eq_true] at h
  have h2 := h.2
  split at h2
  · simp only [Bool.and_eq_true, decide_eq_true_eq] at h2
    exact h2.2.1
  · split at h2
    · simp only [Bool.and_eq_true, decide_eq_true_eq] at h2
      exact h2.2.1
    · simp at h2
theorem changeOk_move {c : PChange} (h : changeOk c = true) (hk : c.kind = 4) : pathOk c.dest = true ∧ c.dest ≠ c.path := by
  unfold changeOk at h
  rw [Bool.and_eq_true] at h
  have h2 := h.2
  rw [if_neg (by omega), if_neg (by omega), if_pos hk] at h2
  simp only [Bool.and_eq_true, Bool.not_eq_true', beq_eq_false_iff_ne] at h2
  exact ⟨h2.2.2.1, h2.2.2.2⟩
theorem pathOk_ne {p : Str} (h : pathOk p = true) : p ≠ [] := by
  intro e
  subst e
  revert h
  decide
theorem mem_pathsC {c : PChange} (h : changeOk c = true) {p : Str} (hp : p ≠ []) : p ∈ pathsC c ↔ c.path = p ∨ c.dest = p := by
  unfold pathsC
  split
  · simp only [List.mem_cons, List.not_mem_nil, or_false]
    constructor
    · rintro (e | e)
      · exact .inl e.symm
      · exact .inr e.symm
    · rintro (e | e)
      · exact .inl e.symm
      · exact .inr e.symm
  · rename_i hk
    have hd := changeOk_dest h hk
    simp only [List.mem_cons, List.not_mem_nil, or_false]
    constructor
    · intro e; exact .inl e.symm
    · rintro (e | e)
      · exact e.symm
      · rw [hd] at e; exact absurd e.symm hp
theorem freeP_iff {l : List PChange} (h : l.all changeOk = true) {p : Str} (hp : p ≠ []) : freeP l p = true ↔ p ∉ pathsL l := by
  rw [List.all_eq_true] at h
  unfold freeP pathsL
  simp only [List.all_eq_true, Bool.and_eq_true, Bool.not_eq_true', beq_eq_false_iff_ne, List.mem_flatMap, not_exists, not_and]
  constructor
  · intro h1 c hc hm
    rcases (mem_pathsC (h c hc) hp).1 hm with e | e
    · exact (h1 c hc).1 e
    · exact (h1 c hc).2 e
  · intro h1 c hc
    exact ⟨fun e => h1 c hc ((mem_pathsC (h c hc) hp).2 (.inl e)), fun e => h1 c hc ((mem_pathsC (h c hc) hp).2 (.inr e))⟩
theorem okTo_next {xs : List PChange} {k : Nat} {x : PChange} (hx : xs[k]? = some x) (h : okTo xs k) : okStep xs k x = true ↔ okTo xs (k + 1) := by
  obtain ⟨h1, h2⟩ := h
  unfold okTo
  rw [pathsL_next hx]
  have ha : (xs.take (k + 1)).all changeOk = changeOk x := by rw [List.take_add_one, hx, List.all_append, h1]; simp
  rw [ha]
  unfold okStep
  simp only [Bool.and_eq_true, Bool.or_eq_true]
  constructor
  · rintro ⟨hc, hf, hg⟩
    refine ⟨hc, List.nodup_append.2 ⟨h2, ?_, ?_⟩⟩
    · unfold pathsC
      split
      · rename_i hk
        have := (changeOk_move hc hk).2
        simp only [List.nodup_cons, List.mem_cons, List.not_mem_nil, or_false, not_false_eq_true, List.nodup_nil, and_true]
        exact fun e => this e.symm
      · simp
    · intro a ha' b hb e
      subst e
      have hf' := (freeP_iff h1 (pathOk_ne (changeOk_path hc))).1 hf
      by_cases hk : x.kind = 4
      · have hm := changeOk_move hc hk
        have hne := pathOk_ne hm.1
        have hg' : freeP (xs.take k) x.dest = true := by
          rcases hg with e | e
          · exact absurd (by simpa using e) hne
          · exact e
        unfold pathsC at hb
        rw [if_pos hk] at hb
        simp only [List.mem_cons, List.not_mem_nil, or_false] at hb
        rcases hb with e | e
        · subst e; exact hf' ha'
        · subst e; exact (freeP_iff h1 hne).1 hg' ha'
      · unfold pathsC at hb
        rw [if_neg hk] at hb
        simp only [List.mem_cons, List.not_mem_nil, or_false] at hb
        subst hb
        exact hf' ha'
  · rintro ⟨hc, hn⟩
    obtain ⟨_, _, hd⟩ := List.nodup_append.1 hn
    have hnot : ∀ p ∈ pathsC x, p ∉ pathsL (xs.take k) := fun p hp hm => hd p hm p hp rfl
    refine ⟨hc, (freeP_iff h1 (pathOk_ne (changeOk_path hc))).2 (hnot _ ?_), ?_⟩
    · unfold pathsC
      split <;> simp
    · by_cases hk : x.kind = 4
      · right
        have hm := changeOk_move hc hk
        exact (freeP_iff h1 (pathOk_ne hm.1)).2 (hnot _ (by unfold pathsC; rw [if_pos hk]; simp))
      · left
        rw [changeOk_dest hc hk]
        rfl
theorem okTo_zero (xs : List PChange) : okTo xs 0 := ⟨by simp, by simp [pathsL]⟩
theorem okTo_end {xs : List PChange} (h : okTo xs xs.length) : changesOk xs = decide (xs.length ≤ 16) := by
  obtain ⟨h1, h2⟩ := h
  rw [List.take_length] at h1 h2
  unfold changesOk
  rw [h1]
  simp [h2]
theorem pathsL_split (xs : List PChange) (k : Nat) : pathsL xs = pathsL (xs.take k) ++ pathsL (xs.drop k) := by
  unfold pathsL
  rw [← List.flatMap_append, List.take_append_drop]
theorem okTo_not {xs : List PChange} {k : Nat} (h : ¬ okTo xs k) : changesOk xs = false := by
  cases e : changesOk xs with
  | false => rfl
  | true =>
    unfold changesOk at e
    simp only [Bool.and_eq_true, decide_eq_true_eq, List.all_eq_true] at e
    refine absurd ⟨?_, ?_⟩ h
    · rw [List.all_eq_true]
      exact fun c hc => e.2.1 c (List.mem_of_mem_take hc)
    · have := e.2.2
      rw [pathsL_split xs k] at this
      exact (List.nodup_append.1 this).1
end Go.Proofs.YtianpeokdojkbaaDoor
