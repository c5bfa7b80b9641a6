import Derived.Test.YtenkceeicmfjhaaGreatDoorJoinPlain
import Derived.Test.YtenkceeicmfjhaaGreatDoorZ23
/- Plain: what becomes of a path in two sides; what becomes of trees. -/
namespace Go.Proofs.YtenkceeicmfjhaaGreatDoor
open Go.RowKit

def joinAt (o a b : Option (List Str)) : Option (List Str) × Int :=
  if a = o then (b, 0) else if a = b then (b, 0) else if b = o then (a, 0)
  else if a.isSome = false then (o, 1) else if b.isSome = false then (o, 1) else if o.isSome = false then (o, 2)
  else match mergeText (o.getD []) (a.getD []) (b.getD []) with
    | some t => (some t, 0)
    | none => (o, 3)
theorem joinAt_1 {o a b : Option (List Str)} (h : a = o) : joinAt o a b = (b, 0) := by unfold joinAt; rw [if_pos h]
theorem joinAt_2 {o a b : Option (List Str)} (h : ¬ a = o) (h2 : a = b) : joinAt o a b = (b, 0) := by unfold joinAt; rw [if_neg h, if_pos h2]
theorem joinAt_3 {o a b : Option (List Str)} (h : ¬ a = o) (h2 : ¬ a = b) (h3 : b = o) : joinAt o a b = (a, 0) := by unfold joinAt; rw [if_neg h, if_neg h2, if_pos h3]
theorem joinAt_4 {o a b : Option (List Str)} (h : ¬ a = o) (h2 : ¬ a = b) (h3 : ¬ b = o) (h4 : a.isSome = false ∨ b.isSome = false) : joinAt o a b = (o, 1) := by
  unfold joinAt
  rw [if_neg h, if_neg h2, if_neg h3]
  rcases h4 with h4 | h4
  · rw [if_pos h4]
  · by_cases h5 : a.isSome = false
    · rw [if_pos h5]
    · rw [if_neg h5, if_pos h4]
theorem joinAt_5 {a b : List Str} (h2 : ¬ some a = some b) : joinAt none (some a) (some b) = (none, 2) := by
  unfold joinAt
  rw [if_neg (by simp), if_neg h2, if_neg (by simp)]
  rfl
theorem joinAt_6 {o a b : List Str} (h : ¬ some a = some o) (h2 : ¬ some a = some b) (h3 : ¬ some b = some o) : joinAt (some o) (some a) (some b) = match mergeText o a b with
    | some t => (some t, 0)
    | none => (some o, 3) := by
  unfold joinAt
  rw [if_neg h, if_neg h2, if_neg h3]
  rfl
def joinHere (xs ys zs : List PFile) (p : Str) : Option (List Str) × Int := joinAt (getAt xs p) (getAt ys p) (getAt zs p)
def outOne (p : Str) (r : Option (List Str) × Int) : List PFile := match r.1 with
  | some t => [⟨p, t⟩]
  | none => []
def badOne (p : Str) (r : Option (List Str) × Int) : List PClash := if r.2 = 0 then [] else [⟨p, r.2⟩]
def joinOut (xs ys zs : List PFile) (l : List Str) : List PFile := l.flatMap fun p => outOne p (joinHere xs ys zs p)
def joinBad (xs ys zs : List PFile) (l : List Str) : List PClash := l.flatMap fun p => badOne p (joinHere xs ys zs p)
theorem joinOut_next {xs ys zs : List PFile} {l : List Str} {k : Nat} {p : Str} (h : l[k]? = some p) : joinOut xs ys zs (l.take (k + 1)) = joinOut xs ys zs (l.take k) ++ outOne p (joinHere xs ys zs p) := by
  unfold joinOut
  rw [List.take_add_one, h, List.flatMap_append]
  simp
theorem joinBad_next {xs ys zs : List PFile} {l : List Str} {k : Nat} {p : Str} (h : l[k]? = some p) : joinBad xs ys zs (l.take (k + 1)) = joinBad xs ys zs (l.take k) ++ badOne p (joinHere xs ys zs p) := by
  unfold joinBad
  rw [List.take_add_one, h, List.flatMap_append]
  simp
theorem outOne_len (p : Str) (r : Option (List Str) × Int) : (outOne p r).length ≤ 1 := by unfold outOne; split <;> simp
theorem badOne_len (p : Str) (r : Option (List Str) × Int) : (badOne p r).length ≤ 1 := by unfold badOne; split <;> simp
theorem joinOut_len (xs ys zs : List PFile) : ∀ l : List Str, (joinOut xs ys zs l).length ≤ l.length
  | [] => by simp [joinOut]
  | p :: l => by
    have h1 := joinOut_len xs ys zs l
    have h2 := outOne_len p (joinHere xs ys zs p)
    unfold joinOut at h1 ⊢
    rw [List.flatMap_cons, List.length_append, List.length_cons]
    omega
theorem joinBad_len (xs ys zs : List PFile) : ∀ l : List Str, (joinBad xs ys zs l).length ≤ l.length
  | [] => by simp [joinBad]
  | p :: l => by
    have h1 := joinBad_len xs ys zs l
    have h2 := badOne_len p (joinHere xs ys zs p)
    unfold joinBad at h1 ⊢
    rw [List.flatMap_cons, List.length_append, List.length_cons]
    omega
def joinPair (xs ys zs : List PFile) : List PFile × List PClash :=
  if ((joinBad xs ys zs (paths3 xs ys zs)).isEmpty && !treeOk (joinOut xs ys zs (paths3 xs ys zs))) = true then (xs, [⟨[], 4⟩])
  else (joinOut xs ys zs (paths3 xs ys zs), joinBad xs ys zs (paths3 xs ys zs))
def joinOf (xs ys zs : List PFile) : List PFile × List PClash := if trees3 xs ys zs = true then joinPair xs ys zs else ([], [])
def joinTree (xs ys zs : List PFile) : Option (List PFile) := if trees3 xs ys zs = true then (if (joinPair xs ys zs).2.isEmpty = true then some (joinPair xs ys zs).1 else none) else none

/-! ### The texts and the paths of what is joined are small -/
theorem getAt_small {t : List PFile} (h : okTree t) {p : Str} {x : List Str} (hg : getAt t p = some x) : ∀ s ∈ x, s.length ≤ 9223372036854775807 := by
  obtain ⟨f, hf, _, rfl⟩ := getAt_mem hg
  exact (h f hf).2
theorem mergeText_small {o a b t : List Str} (h : mergeText o a b = some t) : ∀ s ∈ t, s.length ≤ 9223372036854775807 := by
  have ht : textOk t = true := by
    unfold mergeText mergedOf at h
    split at h
    · unfold joinOk at h
      cases hj : joinParts noRes (mergeOf o a b) with
      | none => rw [hj] at h; cases h
      | some l =>
        rw [hj] at h
        simp only [Option.bind_some] at h
        split at h
        · rename_i h9
          cases h
          exact h9
        · cases h
    · cases h
  intro s hs
  have h1 : lineOk s = true := by
    unfold textOk at ht
    rw [Bool.and_eq_true, List.all_eq_true] at ht
    exact ht.2 s hs
  unfold lineOk at h1
  rw [Bool.and_eq_true, decide_eq_true_eq] at h1
  omega
theorem joinAt_small {o a b : Option (List Str)} {t : List Str} (ho : ∀ x, o = some x → ∀ s ∈ x, s.length ≤ 9223372036854775807) (ha : ∀ x, a = some x → ∀ s ∈ x, s.length ≤ 9223372036854775807) (hb : ∀ x, b = some x → ∀ s ∈ x, s.length ≤ 9223372036854775807)
    (h : (joinAt o a b).1 = some t) : ∀ s ∈ t, s.length ≤ 9223372036854775807 := by
  unfold joinAt at h
  split at h
  · exact hb t h
  split at h
  · exact hb t h
  split at h
  · exact ha t h
  split at h
  · exact ho t h
  split at h
  · exact ho t h
  split at h
  · exact ho t h
  split at h
  · rename_i t' ht'
    cases h
    exact mergeText_small ht'
  · exact ho t h
theorem mergeText_ok {o a b t : List Str} (h : mergeText o a b = some t) : textOk t = true := by
  unfold mergeText mergedOf at h
  split at h
  · unfold joinOk at h
    cases hj : joinParts noRes (mergeOf o a b) with
    | none => rw [hj] at h; cases h
    | some l =>
      rw [hj] at h
      simp only [Option.bind_some] at h
      split at h
      · rename_i h9
        cases h
        exact h9
      · cases h
  · cases h
theorem joinAt_ok {o a b : Option (List Str)} {t : List Str} (ho : ∀ x, o = some x → textOk x = true) (ha : ∀ x, a = some x → textOk x = true) (hb : ∀ x, b = some x → textOk x = true) (h : (joinAt o a b).1 = some t) : textOk t = true := by
  unfold joinAt at h
  split at h
  · exact hb t h
  split at h
  · exact hb t h
  split at h
  · exact ha t h
  split at h
  · exact ho t h
  split at h
  · exact ho t h
  split at h
  · exact ho t h
  split at h
  · rename_i t' ht'
    cases h
    exact mergeText_ok ht'
  · exact ho t h
theorem treeText {t : List PFile} (h : treeOk t = true) {p : Str} {x : List Str} (hg : getAt t p = some x) : textOk x = true := by
  obtain ⟨f, hf, _, rfl⟩ := getAt_mem hg
  obtain ⟨k, hk⟩ := List.getElem?_of_mem hf
  exact (treeAt_parts hk ((treeOk_iff.1 h).2 k (List.getElem?_eq_some_iff.1 hk).1)).1
theorem joinHere_len {xs ys zs : List PFile} (h1 : treeOk xs = true) (h2 : treeOk ys = true) (h3 : treeOk zs = true) {p : Str} {t : List Str} (h : (joinHere xs ys zs p).1 = some t) : t.length ≤ 10 :=
  textOk_len (joinAt_ok (fun _ hx => treeText h1 hx) (fun _ hx => treeText h2 hx) (fun _ hx => treeText h3 hx) h)
theorem paths3_mem {xs ys zs : List PFile} {p : Str} (h : p ∈ paths3 xs ys zs) : ∃ f, (f ∈ xs ∨ f ∈ ys ∨ f ∈ zs) ∧ f.path = p := by
  unfold paths3 at h
  rw [setS_mem, List.mem_append, List.mem_append] at h
  unfold pathsT at h
  rcases h with (h | h) | h <;> obtain ⟨f, hf, he⟩ := List.mem_map.1 h
  · exact ⟨f, .inl hf, he⟩
  · exact ⟨f, .inr (.inl hf), he⟩
  · exact ⟨f, .inr (.inr hf), he⟩
theorem okTree_joinOut {xs ys zs : List PFile} (h1 : okTree xs) (h2 : okTree ys) (h3 : okTree zs) : okTree (joinOut xs ys zs (paths3 xs ys zs)) := by
  intro f hf
  unfold joinOut at hf
  obtain ⟨p, hp, hq⟩ := List.mem_flatMap.1 hf
  unfold outOne at hq
  split at hq
  · rename_i t ht
    simp at hq
    subst hq
    refine ⟨?_, joinAt_small (fun x hx => getAt_small h1 hx) (fun x hx => getAt_small h2 hx) (fun x hx => getAt_small h3 hx) ht⟩
    obtain ⟨g, hg, rfl⟩ := paths3_mem hp
    rcases hg with hg | hg | hg
    · exact (h1 g hg).1
    · exact (h2 g hg).1
    · exact (h3 g hg).1
  · cases hq
end Go.Proofs.YtenkceeicmfjhaaGreatDoor
