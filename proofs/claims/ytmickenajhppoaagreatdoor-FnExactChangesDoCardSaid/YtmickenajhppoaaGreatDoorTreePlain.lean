/- In plain words: trees that are ok. No program. -/
import Derived.Test.YtmickenajhppoaaGreatDoorPathPlain
import Derived.Test.YtmickenajhppoaaGreatDoorHFile
import Derived.Sort.Walk0
namespace Go.Proofs.YtmickenajhppoaaGreatDoor
open Go.RowKit

/-- Texts in the order of their bytes. -/
def ltS (a b : Str) : Bool := Op.bytesLess a b
theorem ltS_eq (a b : Str) : ltS a b = decide (a < b) := bytesLess_eq a b
theorem ltS_irrefl (a : Str) : ltS a a = false := by rw [ltS_eq]; simp [List.lt_irrefl]
theorem ltS_trans {a b c : Str} (h1 : ltS a b = true) (h2 : ltS b c = true) : ltS a c = true := by
  rw [ltS_eq, decide_eq_true_eq] at *
  exact List.lt_trans h1 h2
theorem ltS_cons (x y : UInt8) (s t : Str) : ltS (x :: s) (y :: t) = (decide (x < y) || (x == y && ltS s t)) := rfl
theorem ltS_nil (y : UInt8) (t : Str) : ltS [] (y :: t) = true := rfl
theorem ltS_cases : ∀ a b : Str, ltS a b = true ∨ a = b ∨ ltS b a = true
  | [], [] => .inr (.inl rfl)
  | [], _ :: _ => .inl rfl
  | _ :: _, [] => .inr (.inr rfl)
  | x :: s, y :: t => by
    rw [ltS_cons, ltS_cons]
    by_cases h1 : x < y
    · left; simp [h1]
    · by_cases h2 : y < x
      · right; right; simp [h2]
      · have : x = y := by
          apply UInt8.toNat_inj.1
          rw [UInt8.lt_iff_toNat_lt] at h1 h2
          omega
        subst this
        rcases ltS_cases s t with h | h | h
        · left; simp [h]
        · right; left; rw [h]
        · right; right; simp [h]
theorem ltS_asymm {a b : Str} (h : ltS a b = true) : ltS b a = false := by
  cases h2 : ltS b a with
  | false => rfl
  | true => have := ltS_trans h h2; rw [ltS_irrefl] at this; cases this
theorem leS {a b : Str} (h : ltS a b = false) : (Op.bytesLess b a || b == a) = true := by
  rcases ltS_cases a b with h1 | h1 | h1
  · rw [h1] at h; cases h
  · subst h1; simp
  · unfold ltS at h1; simp [h1]
theorem leS_no {a b : Str} (h : ltS a b = true) : (Op.bytesLess b a || b == a) = false := by
  have h1 := ltS_asymm h
  unfold ltS at h1
  rw [h1]
  simp
  intro e
  subst e
  rw [ltS_irrefl] at h; cases h
theorem ltS_append (a : Str) {b : Str} (h : b ≠ []) : ltS a (a ++ b) = true := by
  induction a with
  | nil => cases b with
    | nil => exact absurd rfl h
    | cons y t => rfl
  | cons x s ih => rw [List.cons_append, ltS_cons, ih]; simp
theorem below_lt {d p : Str} (h : below d p = true) : ltS d p = true := by
  unfold below at h
  rw [List.isPrefixOf_iff_prefix] at h
  obtain ⟨t, rfl⟩ := h
  rw [List.append_assoc]
  exact ltS_append d (by simp)

def fileOk (f : PFile) : Bool := textOk f.text && pathOk f.path
/-- What is asked of the file k: it is ok, behind the one ahead, and below none ahead. -/
def treeAt (t : List PFile) (k : Nat) : Bool := match t[k]? with
  | none => true
  | some f => fileOk f && ((match k with
    | 0 => true
    | j + 1 => match t[j]? with
      | none => true
      | some g => ltS g.path f.path) && (t.take k).all fun g => !below g.path f.path)
def treeOk (t : List PFile) : Bool := decide (t.length ≤ 8) && (List.range t.length).all (treeAt t)
/-- The reference's: below none at all. -/
def treeAt' (t : List PFile) (k : Nat) : Bool := match t[k]? with
  | none => true
  | some f => fileOk f && ((match k with
    | 0 => true
    | j + 1 => match t[j]? with
      | none => true
      | some g => ltS g.path f.path) && t.all fun g => !below f.path g.path)
theorem treeOk_false {t : List PFile} {k : Nat} (hk : k < t.length) (h : treeAt t k = false) : treeOk t = false := by
  unfold treeOk
  cases hc : (List.range t.length).all (treeAt t) with
  | false => simp
  | true => rw [List.all_eq_true] at hc; rw [hc k (List.mem_range.2 hk)] at h; cases h
theorem treeOk_all {t : List PFile} (h : ∀ k, k < t.length → treeAt t k = true) : treeOk t = decide (t.length ≤ 8) := by
  unfold treeOk
  rw [List.all_eq_true.2 (fun k hk => h k (List.mem_range.1 hk))]; simp
theorem treeOk_iff {t : List PFile} : treeOk t = true ↔ t.length ≤ 8 ∧ ∀ k, k < t.length → treeAt t k = true := by
  unfold treeOk
  simp [List.all_eq_true]
theorem treeAt_parts {t : List PFile} {k : Nat} {f : PFile} (hf : t[k]? = some f) (h : treeAt t k = true) :
    textOk f.text = true ∧ pathOk f.path = true ∧ (∀ j g, k = j + 1 → t[j]? = some g → ltS g.path f.path = true) ∧ ∀ g ∈ t.take k, below g.path f.path = false := by
  unfold treeAt fileOk at h
  rw [hf] at h
  simp only [Bool.and_eq_true, List.all_eq_true] at h
  refine ⟨h.1.1, h.1.2, fun j g hj hg => ?_, fun g hg => ?_⟩
  · subst hj
    have := h.2.1
    simp only [hg] at this
    exact this
  · have := h.2.2 g hg
    simpa using this
theorem treeAt_text {t : List PFile} {k : Nat} {f : PFile} (hf : t[k]? = some f) (h : textOk f.text = false) : treeAt t k = false ∧ treeAt' t k = false := by
  unfold treeAt treeAt' fileOk; rw [hf]; simp [h]
theorem treeAt_path {t : List PFile} {k : Nat} {f : PFile} (hf : t[k]? = some f) (h : pathOk f.path = false) : treeAt t k = false ∧ treeAt' t k = false := by
  unfold treeAt treeAt' fileOk; rw [hf]; simp [h]
theorem treeAt_order {t : List PFile} {k : Nat} {f g : PFile} (hf : t[k]? = some f) (hk : 0 < k) (hg : t[k - 1]? = some g) (h : ltS g.path f.path = false) : treeAt t k = false ∧ treeAt' t k = false := by
  obtain ⟨j, rfl⟩ : ∃ j, k = j + 1 := ⟨k - 1, by omega⟩
  simp at hg
  unfold treeAt treeAt'; rw [hf]; simp [hg, h]
theorem treeAt_below {t : List PFile} {k j : Nat} {f g : PFile} (hf : t[k]? = some f) (hj : j < k) (hg : t[j]? = some g) (h : below g.path f.path = true) : treeAt t k = false := by
  cases hc : treeAt t k with
  | false => rfl
  | true =>
    have := (treeAt_parts hf hc).2.2.2 g (List.mem_of_getElem? (i := j) (by rw [List.getElem?_take, if_pos hj]; exact hg))
    rw [this] at h; cases h
theorem treeAt_yes {t : List PFile} {k : Nat} {f : PFile} (hf : t[k]? = some f) (h1 : textOk f.text = true) (h2 : pathOk f.path = true) (h3 : ∀ g, 0 < k → t[k - 1]? = some g → ltS g.path f.path = true)
    (h4 : (t.take k).all (fun g => !below g.path f.path) = true) : treeAt t k = true := by
  unfold treeAt fileOk
  rw [hf]
  simp only [h1, h2, h4, Bool.and_true, Bool.true_and]
  cases k with
  | zero => rfl
  | succ j =>
    cases hg : t[j]? with
    | none => simp [hg]
    | some g => simpa [hg] using h3 g (by omega) (by simpa using hg)
theorem treeAt'_yes {t : List PFile} {k : Nat} {f : PFile} (hf : t[k]? = some f) (h1 : textOk f.text = true) (h2 : pathOk f.path = true) (h3 : ∀ g, 0 < k → t[k - 1]? = some g → ltS g.path f.path = true)
    (h4 : t.all (fun g => !below f.path g.path) = true) : treeAt' t k = true := by
  unfold treeAt' fileOk
  rw [hf]
  simp only [h1, h2, h4, Bool.and_true, Bool.true_and]
  cases k with
  | zero => rfl
  | succ j =>
    cases hg : t[j]? with
    | none => simp [hg]
    | some g => simpa [hg] using h3 g (by omega) (by simpa using hg)
theorem treeAt'_below {t : List PFile} {k j : Nat} {f g : PFile} (hf : t[k]? = some f) (hg : t[j]? = some g) (h : below f.path g.path = true) : treeAt' t k = false := by
  unfold treeAt'
  rw [hf]
  have : (t.all fun g => !below f.path g.path) = false := all_false (k := j) hg (by simp [h])
  simp [this]
/-- Paths ascend. -/
theorem asc_of {t : List PFile} {m : Nat} (h : ∀ k, k < m → treeAt t k = true ∨ treeAt' t k = true) : ∀ (i j : Nat) (f g : PFile), i < j → j < m → t[i]? = some f → t[j]? = some g → ltS f.path g.path = true := by
  have step : ∀ (j : Nat) (f g : PFile), j + 1 < m → t[j]? = some f → t[j + 1]? = some g → ltS f.path g.path = true := by
    intro j f g hj hf hg
    rcases h (j + 1) hj with h | h
    · exact (treeAt_parts hg h).2.2.1 j f rfl hf
    · unfold treeAt' at h
      rw [hg] at h
      simp only [hf, Bool.and_eq_true] at h
      exact h.2.1
  intro i j f g hij
  induction j generalizing g with
  | zero => omega
  | succ j ih =>
    intro hj hf hg
    by_cases he : i = j
    · subst he; exact step i f g hj hf hg
    · have hjl := (List.getElem?_eq_some_iff.1 hg).1
      obtain ⟨x, hx⟩ : ∃ x, t[j]? = some x := ⟨t[j]'(by omega), List.getElem?_eq_getElem (by omega)⟩
      exact ltS_trans (ih x (by omega) (by omega) hf hx) (step j x g hj hx hg)
theorem treeOk_false' {t : List PFile} {k : Nat} (hk : k < t.length) (h : treeAt' t k = false) : treeOk t = false := by
  cases hc : treeOk t with
  | false => rfl
  | true =>
    obtain ⟨_, hall⟩ := treeOk_iff.1 hc
    obtain ⟨f, hf⟩ : ∃ f, t[k]? = some f := ⟨_, List.getElem?_eq_getElem hk⟩
    obtain ⟨h1, h2, h3, h4⟩ := treeAt_parts hf (hall k hk)
    have : treeAt' t k = true := treeAt'_yes hf h1 h2 (fun g hk0 hg => h3 (k - 1) g (by omega) hg) (by
      rw [List.all_eq_true]
      intro g hg
      obtain ⟨j, hj⟩ := List.getElem?_of_mem hg
      have hjl := (List.getElem?_eq_some_iff.1 hj).1
      cases hb : below f.path g.path with
      | false => rfl
      | true =>
        have hlt := below_lt hb
        by_cases hkj : k < j
        · exact absurd (hall j hjl) (by rw [treeAt_below hj hkj hf hb]; simp)
        · by_cases he : k = j
          · subst he
            rw [hf] at hj
            obtain rfl := Option.some.inj hj
            rw [ltS_irrefl] at hlt; cases hlt
          · have := asc_of (m := t.length) (fun k hk => .inl (hall k hk)) j k g f (by omega) hk hj hf
            rw [ltS_asymm this] at hlt; cases hlt)
    rw [this] at h; cases h
theorem treeOk_all' {t : List PFile} (h : ∀ k, k < t.length → treeAt' t k = true) : treeOk t = decide (t.length ≤ 8) := by
  refine treeOk_all fun k hk => ?_
  obtain ⟨f, hf⟩ : ∃ f, t[k]? = some f := ⟨_, List.getElem?_eq_getElem hk⟩
  have h1 := h k hk
  have h2 := h1
  unfold treeAt' fileOk at h1
  rw [hf] at h1
  simp only [Bool.and_eq_true] at h1
  refine treeAt_yes hf h1.1.1 h1.1.2 (fun g hk0 hg => ?_) ?_
  · exact asc_of (m := t.length) (fun k hk => .inr (h k hk)) (k - 1) k g f (by omega) hk hg hf
  · rw [List.all_eq_true]
    intro g hg
    obtain ⟨j, hj⟩ := List.getElem?_of_mem hg
    rw [List.getElem?_take] at hj
    split at hj
    · rename_i hjk
      have h3 := h j (by omega)
      unfold treeAt' at h3
      rw [hj] at h3
      simp only [Bool.and_eq_true, List.all_eq_true] at h3
      exact h3.2.2 f (List.mem_of_getElem? hf)
    · cases hj

/-- What is asked of a tree's sizes. -/
def okTree (t : List PFile) : Prop := ∀ x ∈ t, x.path.length ≤ 1073741824 ∧ ∀ s ∈ x.text, s.length ≤ 9223372036854775807
theorem szFile_le {t : List PFile} {x : PFile} (hx : x ∈ t) : szFile x ≤ szFiles t := by
  have : szFile x ≤ (t.map szFile).sum := le_sum_of_mem (List.mem_map_of_mem hx)
  unfold szFiles; omega
theorem okTree_of {t : List PFile} (h : ∀ x ∈ t, okFile x) (hz : szFiles t ≤ 1048576) : okTree t := fun x hx => by
  have := szFile_le hx
  unfold szFile at this
  exact ⟨by omega, (h x hx).2⟩
end Go.Proofs.YtmickenajhppoaaGreatDoor
