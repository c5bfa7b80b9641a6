/- Plain: texts in order, each once. -/
import Derived.Test.YtmickenajhppoaaGreatDoorTreePlain
import Derived.Shelf.Slices.CompactS
namespace Go.Proofs.YtmickenajhppoaaGreatDoor
open Go.RowKit

def ascS (l : List Str) : Prop := l.Pairwise (fun a b => ltS a b = true)
/-- A text put among others, in order, once. -/
def insS : List Str → Str → List Str
  | [], s => [s]
  | x :: t, s => if ltS x s then x :: insS t s else if x = s then x :: t else s :: x :: t
theorem insS_mem (l : List Str) (s x : Str) : x ∈ insS l s ↔ x = s ∨ x ∈ l := by
  induction l with
  | nil => simp [insS]
  | cons y t ih =>
    unfold insS
    split
    · simp only [List.mem_cons, ih]
      constructor
      · rintro (h | h | h)
        · exact .inr (.inl h)
        · exact .inl h
        · exact .inr (.inr h)
      · rintro (h | h | h)
        · exact .inr (.inl h)
        · exact .inl h
        · exact .inr (.inr h)
    · split
      · rename_i h
        subst h
        simp only [List.mem_cons]
        constructor
        · intro h; exact .inr h
        · rintro (h | h)
          · exact .inl h
          · exact h
      · simp [List.mem_cons]
theorem insS_asc {l : List Str} (h : ascS l) (s : Str) : ascS (insS l s) := by
  induction l with
  | nil => exact List.pairwise_singleton _ _
  | cons y t ih =>
    obtain ⟨h1, h2⟩ := List.pairwise_cons.1 h
    unfold insS
    split
    · rename_i hl
      refine List.pairwise_cons.2 ⟨fun x hx => ?_, ih h2⟩
      rcases (insS_mem t s x).1 hx with e | m
      · rw [e]; exact hl
      · exact h1 x m
    · split
      · exact h
      · rename_i hl hne
        have hs : ltS s y = true := by
          rcases ltS_cases y s with c | c | c
          · exact absurd c hl
          · exact absurd c hne
          · exact c
        refine List.pairwise_cons.2 ⟨fun x hx => ?_, h⟩
        rcases List.mem_cons.1 hx with e | m
        · rw [e]; exact hs
        · exact ltS_trans hs (h1 x m)
def setS (l : List Str) : List Str := l.foldl insS []
theorem foldS_mem (l o : List Str) (x : Str) : x ∈ l.foldl insS o ↔ x ∈ l ∨ x ∈ o := by
  induction l generalizing o with
  | nil => simp
  | cons y t ih =>
    simp only [List.foldl_cons, ih, insS_mem, List.mem_cons]
    constructor
    · rintro (h | h | h)
      · exact .inl (.inr h)
      · exact .inl (.inl h)
      · exact .inr h
    · rintro ((h | h) | h)
      · exact .inr (.inl h)
      · exact .inl h
      · exact .inr (.inr h)
theorem foldS_asc (l : List Str) {o : List Str} (h : ascS o) : ascS (l.foldl insS o) := by
  induction l generalizing o with
  | nil => exact h
  | cons y t ih => exact ih (insS_asc h y)
theorem setS_mem (l : List Str) (x : Str) : x ∈ setS l ↔ x ∈ l := by unfold setS; rw [foldS_mem]; simp
theorem setS_asc (l : List Str) : ascS (setS l) := foldS_asc l List.Pairwise.nil
/-- Two lists in order, each text once, of the same texts are one. -/
theorem ascS_ext : ∀ {a b : List Str}, ascS a → ascS b → (∀ x, x ∈ a ↔ x ∈ b) → a = b
  | [], [], _, _, _ => rfl
  | [], y :: b, _, _, h => by have := (h y).2 List.mem_cons_self; cases this
  | x :: a, [], _, _, h => by have := (h x).1 List.mem_cons_self; cases this
  | x :: a, y :: b, ha, hb, h => by
    obtain ⟨a1, a2⟩ := List.pairwise_cons.1 ha
    obtain ⟨b1, b2⟩ := List.pairwise_cons.1 hb
    have hxy : x = y := by
      rcases List.mem_cons.1 ((h x).1 List.mem_cons_self) with e | m
      · exact e
      · rcases List.mem_cons.1 ((h y).2 List.mem_cons_self) with e | m2
        · exact e.symm
        · have h1 := b1 x m
          have h2 := a1 y m2
          rw [ltS_asymm h1] at h2
          cases h2
    subst hxy
    congr 1
    refine ascS_ext a2 b2 fun z => ?_
    have hz := h z
    simp only [List.mem_cons] at hz
    constructor
    · intro m
      rcases hz.1 (.inr m) with e | m2
      · subst e
        have := a1 z m
        rw [ltS_irrefl] at this
        cases this
      · exact m2
    · intro m
      rcases hz.2 (.inr m) with e | m2
      · subst e
        have := b1 z m
        rw [ltS_irrefl] at this
        cases this
      · exact m2

def lastS (a b : Str) : Prop := ltS b a = false
theorem le_of_lt_of_le {a b c : Str} (h1 : ltS b a = false) (h2 : ltS b c = true) : ltS a c = true := by
  rcases ltS_cases a b with e | e | e
  · exact ltS_trans e h2
  · rw [e]; exact h2
  · rw [h1] at e; cases e
theorem lastS_trans {a b c : Str} (h1 : ltS b a = false) (h2 : ltS c b = false) : ltS c a = false := by
  cases h : ltS c a with
  | false => rfl
  | true =>
    have := le_of_lt_of_le h2 h
    rw [h1] at this
    cases this
theorem compact_upto (zs : List Str) (h : zs.Pairwise (fun a b => ltS b a = false)) : ∀ m, m ≤ zs.length → ascS (Lib.compactUpTo zs.toArray m) ∧ (∀ x, x ∈ Lib.compactUpTo zs.toArray m ↔ x ∈ zs.take m) ∧ (∀ x ∈ Lib.compactUpTo zs.toArray m, ∀ y, 0 < m → zs[m - 1]? = some y → ltS y x = false)
  | 0, _ => ⟨List.Pairwise.nil, by simp [Lib.compactUpTo], by simp [Lib.compactUpTo]⟩
  | m + 1, hm => by
    obtain ⟨h1, h2, h3⟩ := compact_upto zs h m (by omega)
    have hg : zs[m]? = some zs[m] := List.getElem?_eq_getElem (by omega)
    have hd : (zs.toArray)[m]! = zs[m] := by rw [getElem!_pos zs.toArray m (by simp; omega)]; simp
    have htk : zs.take (m + 1) = zs.take m ++ [zs[m]] := by rw [List.take_add_one, hg]; rfl
    rw [Lib.compactUpTo_succ]
    have hle : ∀ x ∈ Lib.compactUpTo zs.toArray m, ltS zs[m] x = false := by
      intro x hx
      have hx2 := (h2 x).1 hx
      obtain ⟨j, hj⟩ := List.getElem?_of_mem hx2
      have hjl := (List.getElem?_eq_some_iff.1 hj).1
      rw [List.length_take] at hjl
      rw [List.getElem?_take, if_pos (by omega), List.getElem?_eq_getElem (by omega)] at hj
      rw [← Option.some.inj hj]
      exact List.pairwise_iff_getElem.1 h j m (by omega) (by omega) (by omega)
    by_cases hk : Lib.keeps zs.toArray m = true
    · rw [if_pos hk, hd]
      refine ⟨List.pairwise_append.2 ⟨h1, List.pairwise_singleton _ _, fun x hx y hy => ?_⟩, fun x => ?_, fun x hx y _ hy => ?_⟩
      · simp only [List.mem_cons, List.not_mem_nil, or_false] at hy
        subst hy
        have hm0 : 0 < m := by
          rcases Nat.eq_zero_or_pos m with e | e
          · subst e; simp [Lib.compactUpTo] at hx
          · exact e
        have hg1 : zs[m - 1]? = some zs[m - 1] := List.getElem?_eq_getElem (by omega)
        have hx1 := h3 x hx _ hm0 hg1
        have hs1 := List.pairwise_iff_getElem.1 h (m - 1) m (by omega) (by omega) (by omega)
        have hne : zs[m - 1] ≠ zs[m] := by
          unfold Lib.keeps at hk
          simp only [decide_eq_true_eq] at hk
          rcases hk with e | e
          · omega
          · rw [hd, getElem!_pos zs.toArray (m - 1) (by simp; omega)] at e
            simp at e
            exact fun e2 => e e2.symm
        refine le_of_lt_of_le hx1 ?_
        rcases ltS_cases zs[m - 1] zs[m] with c | c | c
        · exact c
        · exact absurd c hne
        · rw [hs1] at c; cases c
      · rw [htk]
        simp only [List.mem_append, h2]
      · simp only [Nat.add_sub_cancel] at hy
        rw [hg] at hy
        obtain rfl := Option.some.inj hy
        rcases List.mem_append.1 hx with m1 | m1
        · exact hle x m1
        · simp at m1; rw [m1]; exact ltS_irrefl _
    · rw [if_neg hk, List.append_nil]
      have hm0 : 0 < m := by
        rcases Nat.eq_zero_or_pos m with e | e
        · subst e; simp [Lib.keeps] at hk
        · exact e
      have heq : zs[m] = zs[m - 1] := by
        unfold Lib.keeps at hk
        simp only [decide_eq_true_eq, not_or, Decidable.not_not] at hk
        have h9 := hk.2
        rw [hd, getElem!_pos zs.toArray (m - 1) (by simp; omega), List.getElem_toArray] at h9
        exact h9
      refine ⟨h1, fun x => ?_, fun x hx y _ hy => ?_⟩
      · rw [htk, h2]
        simp only [List.mem_append, List.mem_cons, List.not_mem_nil, or_false]
        constructor
        · exact .inl
        · rintro (e | e)
          · exact e
          · rw [e, heq]
            refine List.mem_of_getElem? (i := m - 1) ?_
            rw [List.getElem?_take, if_pos (by omega)]
            exact List.getElem?_eq_getElem (by omega)
      · simp only [Nat.add_sub_cancel] at hy
        rw [hg] at hy
        obtain rfl := Option.some.inj hy
        exact hle x hx
/-- The library's order of texts. -/
def sortS (l : List Str) : List Str := l.mergeSort fun x y => decide (x ≤ y)
theorem sortS_perm (l : List Str) : (sortS l).Perm l := List.mergeSort_perm _ _
theorem leS_dec (x y : Str) : decide (x ≤ y) = !ltS y x := by
  rw [ltS_eq]
  by_cases h : y < x
  · simp [h, List.not_le]
  · simp [h, List.not_lt.1 h]
theorem sortS_sorted (l : List Str) : (sortS l).Pairwise (fun a b => ltS b a = false) := by
  have := List.pairwise_mergeSort (le := fun (x y : Str) => decide (x ≤ y)) (fun a b c h1 h2 => by
    simp only [leS_dec, Bool.not_eq_true'] at h1 h2 ⊢
    exact lastS_trans h1 h2) (fun a b => by
    simp only [leS_dec, Bool.or_eq_true, Bool.not_eq_true']
    cases h : ltS b a with
    | false => exact .inl rfl
    | true => exact .inr (ltS_asymm h)) l
  refine List.Pairwise.imp ?_ this
  intro a b hab
  simpa [leS_dec] using hab
theorem compact_sortS (l : List Str) : Lib.compact (sortS l) = setS l := by
  obtain ⟨h1, h2, _⟩ := compact_upto (sortS l) (sortS_sorted l) (sortS l).length (Nat.le_refl _)
  refine ascS_ext h1 (setS_asc l) fun x => ?_
  have := h2 x
  rw [List.take_length] at this
  rw [setS_mem]
  exact this.trans (sortS_perm l).mem_iff
theorem ascS_nodup {l : List Str} (h : ascS l) : l.Nodup := List.Pairwise.imp (fun hab e => by rw [e, ltS_irrefl] at hab; cases hab) h
/-- The library's lists in order, each once, are as long as they were just where no text came twice. -/
theorem compact_len (l : List Str) : (Lib.compact (sortS l)).length = l.length ↔ l.Nodup := by
  have hp := sortS_perm l
  constructor
  · intro h
    have hall : ∀ j, j < (sortS l).length → Lib.keeps (sortS l).toArray j = true := by
      have h2 : ((List.range (sortS l).length).filter (Lib.keeps (sortS l).toArray)).length = (List.range (sortS l).length).length := by
        have : (Lib.compact (sortS l)).length = ((List.range (sortS l).length).filter (Lib.keeps (sortS l).toArray)).length := by simp [Lib.compact, Lib.compactUpTo]
        rw [← this, h, List.length_range, hp.length_eq]
      have h3 := List.length_filter_eq_length_iff.1 h2
      intro j hj
      exact h3 j (List.mem_range.2 hj)
    have he := Lib.compact_all (sortS l) hall
    have hn : (sortS l).Nodup := by rw [← he, compact_sortS]; exact ascS_nodup (setS_asc l)
    exact hp.nodup_iff.1 hn
  · intro h
    have hn : (sortS l).Nodup := hp.nodup_iff.2 h
    have hall : ∀ j, j < (sortS l).length → Lib.keeps (sortS l).toArray j = true := by
      intro j hj
      unfold Lib.keeps
      simp only [decide_eq_true_eq]
      by_cases h0 : j = 0
      · exact .inl h0
      · right
        rw [getElem!_pos (sortS l).toArray j (by simpa using hj), getElem!_pos (sortS l).toArray (j - 1) (by simp; omega)]
        simp only [List.getElem_toArray]
        intro e
        exact List.pairwise_iff_getElem.1 hn (j - 1) j (by omega) hj (by omega) e.symm
    rw [Lib.compact_all _ hall, hp.length_eq]
end Go.Proofs.YtmickenajhppoaaGreatDoor
