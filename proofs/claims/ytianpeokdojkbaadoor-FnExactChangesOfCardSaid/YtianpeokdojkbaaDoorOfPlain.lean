import Derived.Test.YtianpeokdojkbaaDoorChangeBackPlain
import Derived.Test.YtianpeokdojkbaaDoorZ38
import Derived.Test.YtianpeokdojkbaaDoorZ02
/- Plain: what must change to make a tree another one. -/
namespace Go.Proofs.YtianpeokdojkbaaDoor
open Go.RowKit

def hasP (a : List PFile) (p : Str) : Bool := (getAt a p).isSome
/-- A file of the second tree that a lost text may have gone to. -/
def tgtOk (a : List PFile) (text : List Str) (tg : List Str) (g : PFile) : Bool := !hasP a g.path && (decide (g.text = text) && !tg.contains g.path)
def tgt (a b : List PFile) (text : List Str) (tg : List Str) : Option Str := (b.find? (tgtOk a text tg)).map (·.path)
/-- Where the moves go. -/
def tgOf (out : List PChange) : List Str := (out.filter fun c => decide (c.kind = 4)).map (·.dest)
def stepA (a b : List PFile) (out : List PChange) (f : PFile) : List PChange :=
  match getAt b f.path with
  | some text => if text = f.text then out else out ++ [⟨3, f.path, [], [], diffOf f.text text⟩]
  | none => match tgt a b f.text (tgOf out) with
    | some p => out ++ [⟨4, f.path, p, [], []⟩]
    | none => out ++ [⟨2, f.path, [], f.text, []⟩]
def stepB (a : List PFile) (tg : List Str) (out : List PChange) (g : PFile) : List PChange := if (!hasP a g.path && !tg.contains g.path) = true then out ++ [⟨1, g.path, [], g.text, []⟩] else out
def firstA (a b : List PFile) : List PChange := a.foldl (stepA a b) []
def changesOf (a b : List PFile) : List PChange := if (treeOk a && treeOk b) = true then b.foldl (stepB a (tgOf (firstA a b))) (firstA a b) else []

theorem foldl_next {α β : Type} (f : β → α → β) (b : β) {l : List α} {k : Nat} {x : α} (h : l[k]? = some x) : (l.take (k + 1)).foldl f b = f ((l.take k).foldl f b) x := by
  rw [List.take_add_one, h, List.foldl_append]; rfl
theorem find_no {α : Type} {p : α → Bool} {l : List α} {k : Nat} {x : α} (h : l[k]? = some x) (hp : p x = false) : (l.drop k).find? p = (l.drop (k + 1)).find? p := by
  rw [List.drop_eq_getElem_cons (List.getElem?_eq_some_iff.1 h).1, List.find?_cons]
  rw [(List.getElem?_eq_some_iff.1 h).2, hp]
theorem find_yes {α : Type} {p : α → Bool} {l : List α} {k : Nat} {x : α} (h : l[k]? = some x) (hp : p x = true) : (l.drop k).find? p = some x := by
  rw [List.drop_eq_getElem_cons (List.getElem?_eq_some_iff.1 h).1, List.find?_cons]
  rw [(List.getElem?_eq_some_iff.1 h).2, hp]
theorem tree_file {t : List PFile} (h : treeOk t = true) {f : PFile} (hf : f ∈ t) : textOk f.text = true ∧ pathOk f.path = true := by
  obtain ⟨k, hk⟩ := List.getElem?_of_mem hf
  have := treeAt_parts hk ((treeOk_iff.1 h).2 k (List.getElem?_eq_some_iff.1 hk).1)
  exact ⟨this.1, this.2.1⟩
theorem tgOf_append (o : List PChange) (c : PChange) : tgOf (o ++ [c]) = if c.kind = 4 then tgOf o ++ [c.dest] else tgOf o := by
  unfold tgOf
  rw [List.filter_append, List.map_append]
  by_cases h : c.kind = 4 <;> simp [h]
theorem getAt_text {t : List PFile} (h : treeOk t = true) {p : Str} {x : List Str} (hg : getAt t p = some x) : textOk x = true := by
  obtain ⟨f, hf, _, rfl⟩ := getAt_mem hg
  exact (tree_file h hf).1
theorem cutHunks_cnt' (a b : List Str) : ∀ (ps : List Int) (i fa fb : Nat), cntHunks (cutHunks a b ps i fa fb) ≤ ps.length * (1 + a.length + b.length)
  | [], _, _, _ => by simp [cutHunks, cntHunks]
  | j :: ps, i, fa, fb => by
    rw [cutHunks, List.length_cons, Nat.add_mul]
    split
    · have := cutHunks_cnt' a b ps (i + 1) fa fb
      omega
    · have h := cutHunks_cnt' a b ps (i + 1) (i + 1) (j.toNat + 1)
      unfold cntHunks at *
      rw [List.map_append, List.sum_append]
      split
      · simp only [List.map_cons, List.map_nil, List.sum_cons, List.sum_nil, cntHunk, List.length_take, List.length_drop]
        omega
      · simp only [List.map_nil, List.sum_nil]
        omega
theorem cnt_diffOf {a b : List Str} (h1 : a.length ≤ 10) (h2 : b.length ≤ 10) : cntHunks (diffOf a b) ≤ 231 := by
  have h3 := cutHunks_cnt' a b (pairsOf a b) 0 0 0
  rw [pairsOf_len] at h3
  unfold diffOf
  have : (a.length + 1) * (1 + a.length + b.length) ≤ 11 * 21 := Nat.mul_le_mul (by omega) (by omega)
  omega
theorem cntChanges_app (o : List PChange) (c : PChange) : cntChanges (o ++ [c]) = cntChanges o + cntChange c := by simp [cntChanges]
theorem cnt_stepA {a b : List PFile} (hb : treeOk b = true) {f : PFile} (hf : f.text.length ≤ 10) (o : List PChange) : cntChanges (stepA a b o f) ≤ cntChanges o + 234 := by
  unfold stepA
  cases hg : getAt b f.path with
  | some text =>
    have h2 := textOk_len10 (getAt_text hb hg)
    have h3 := cnt_diffOf hf h2
    dsimp only
    split
    · omega
    · rw [cntChanges_app]; simp only [cntChange, List.length_nil]; omega
  | none =>
    dsimp only
    split
    · rw [cntChanges_app]; simp only [cntChange, List.length_nil, cntHunks, List.map_nil, List.sum_nil]; omega
    · rw [cntChanges_app]; simp only [cntChange, cntHunks, List.map_nil, List.sum_nil]; omega
theorem cnt_firstA {a b : List PFile} (hb : treeOk b = true) : ∀ (l : List PFile) (o : List PChange), (∀ f ∈ l, f.text.length ≤ 10) → cntChanges (l.foldl (stepA a b) o) ≤ cntChanges o + 234 * l.length
  | [], o, _ => by simp
  | f :: l, o, h => by
    have h1 := cnt_stepA (a := a) hb (h f (by simp)) o
    have h2 := cnt_firstA (a := a) hb l (stepA a b o f) (fun g hg => h g (by simp [hg]))
    rw [List.foldl_cons, List.length_cons]
    omega
theorem cnt_B {a : List PFile} {tg : List Str} : ∀ (l : List PFile) (o : List PChange), (∀ f ∈ l, f.text.length ≤ 10) → cntChanges (l.foldl (stepB a tg) o) ≤ cntChanges o + 13 * l.length
  | [], o, _ => by simp
  | f :: l, o, h => by
    have h1 := h f (by simp)
    have h2 := cnt_B (a := a) (tg := tg) l (stepB a tg o f) (fun g hg => h g (by simp [hg]))
    have h3 : cntChanges (stepB a tg o f) ≤ cntChanges o + 13 := by
      unfold stepB
      split
      · rw [cntChanges_app]; simp only [cntChange, cntHunks, List.map_nil, List.sum_nil]; omega
      · omega
    rw [List.foldl_cons, List.length_cons]
    omega
theorem bnd_ChangesOf (a b : List PFile) : cntChanges (changesOf a b) ≤ 4000 := by
  unfold changesOf
  split
  · rename_i h
    simp only [Bool.and_eq_true] at h
    have h1 := cnt_firstA (a := a) h.2 a [] (fun f hf => textOk_len10 (tree_file h.1 hf).1)
    have h2 := cnt_B (a := a) (tg := tgOf (firstA a b)) b (firstA a b) (fun f hf => textOk_len10 (tree_file h.2 hf).1)
    have h3 := (treeOk_iff.1 h.1).1
    have h4 := (treeOk_iff.1 h.2).1
    unfold firstA at *
    have h5 : cntChanges ([] : List PChange) = 0 := rfl
    omega
  · simp [cntChanges]

/-! ### Lengths, and what the reference's tests say -/
theorem len_stepA (a b : List PFile) (o : List PChange) (f : PFile) : (stepA a b o f).length ≤ o.length + 1 := by
  unfold stepA
  cases getAt b f.path with
  | some text => dsimp only; split <;> simp
  | none => dsimp only; split <;> simp
theorem len_takeA (a b : List PFile) : ∀ (l : List PFile) (o : List PChange), (l.foldl (stepA a b) o).length ≤ o.length + l.length
  | [], o => by simp
  | f :: l, o => by
    have h1 := len_stepA a b o f
    have h2 := len_takeA a b l (stepA a b o f)
    rw [List.foldl_cons, List.length_cons]
    omega
theorem len_takeB (a : List PFile) (tg : List Str) : ∀ (l : List PFile) (o : List PChange), (l.foldl (stepB a tg) o).length ≤ o.length + l.length
  | [], o => by simp
  | f :: l, o => by
    have h1 : (stepB a tg o f).length ≤ o.length + 1 := by unfold stepB; split <;> simp
    have h2 := len_takeB a tg l (stepB a tg o f)
    rw [List.foldl_cons, List.length_cons]
    omega
/-- Changes as the loops build them: only a move has a goal, and it is a path. -/
def plainC (c : PChange) : Prop := if c.kind = 4 then c.dest ≠ [] else c.dest = []
theorem tgt_path {a b : List PFile} (hb : treeOk b = true) {text : List Str} {tg : List Str} {p : Str} (h : tgt a b text tg = some p) : p ≠ [] := by
  unfold tgt at h
  rw [Option.map_eq_some_iff] at h
  obtain ⟨g, hg, rfl⟩ := h
  have h2 := (tree_file hb (List.mem_of_find?_eq_some hg)).2
  intro e
  rw [e] at h2
  exact absurd h2 (by decide)
theorem plain_stepA {a b : List PFile} (hb : treeOk b = true) (o : List PChange) (f : PFile) (h : ∀ c ∈ o, plainC c) : ∀ c ∈ stepA a b o f, plainC c := by
  intro c hc
  unfold stepA at hc
  cases hg : getAt b f.path with
  | some text =>
    rw [hg] at hc
    dsimp only at hc
    split at hc
    · exact h c hc
    · rcases List.mem_append.1 hc with hc | hc
      · exact h c hc
      · simp at hc; subst hc; simp [plainC]
  | none =>
    rw [hg] at hc
    dsimp only at hc
    split at hc
    · rename_i p hp
      rcases List.mem_append.1 hc with hc | hc
      · exact h c hc
      · simp at hc; subst hc; simpa [plainC] using tgt_path hb hp
    · rcases List.mem_append.1 hc with hc | hc
      · exact h c hc
      · simp at hc; subst hc; simp [plainC]
theorem plain_A {a b : List PFile} (hb : treeOk b = true) : ∀ (l : List PFile) (o : List PChange), (∀ c ∈ o, plainC c) → ∀ c ∈ l.foldl (stepA a b) o, plainC c
  | [], _, h => h
  | f :: l, o, h => plain_A hb l _ (plain_stepA hb o f h)
/-- No change goes to the path: no move does. -/
theorem free_iff {o : List PChange} (h : ∀ c ∈ o, plainC c) {p : Str} (hp : p ≠ []) : (o.all fun c => c.dest != p) = !(tgOf o).contains p := by
  rw [Bool.eq_iff_iff, List.all_eq_true]
  simp only [Bool.not_eq_true', ← Bool.not_eq_true, List.contains_iff_mem, bne_iff_ne, ne_eq]
  unfold tgOf
  constructor
  · intro h1 h2
    obtain ⟨c, hc, he⟩ := List.mem_map.1 h2
    exact h1 c (List.mem_filter.1 hc).1 he
  · intro h1 c hc he
    have h2 := h c hc
    unfold plainC at h2
    by_cases h4 : c.kind = 4
    · exact h1 (List.mem_map.2 ⟨c, List.mem_filter.2 ⟨hc, by simp [h4]⟩, he⟩)
    · rw [if_neg h4] at h2
      exact hp (he ▸ h2)
theorem hit_iff {o : List PChange} (h : ∀ c ∈ o, plainC c) {p : Str} (hp : p ≠ []) : (o.any fun c => c.dest == p) = (tgOf o).contains p := by
  have h1 := free_iff h hp
  rw [← Bool.not_inj_iff, ← h1, List.not_any_eq_all_not]
  rfl
theorem path_ne {b : List PFile} (hb : treeOk b = true) {g : PFile} (hg : g ∈ b) : g.path ≠ [] := by
  have h2 := (tree_file hb hg).2
  intro e
  rw [e] at h2
  exact absurd h2 (by decide)
end Go.Proofs.YtianpeokdojkbaaDoor
