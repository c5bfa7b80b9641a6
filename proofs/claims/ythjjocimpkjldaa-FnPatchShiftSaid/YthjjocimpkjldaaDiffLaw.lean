/- In plain words: a text with its difference is the other one; the difference is a patch that is ok; how many lines it has. -/
import Derived.Test.YthjjocimpkjldaaDoPlain
import Derived.Test.YthjjocimpkjldaaDiffPlain
import Derived.Test.YthjjocimpkjldaaFits
namespace Go.Proofs.Ythjjocimpkjldaa
open Go.RowKit

/-- The pieces from pair i on, put in. -/
theorem do_cut {a b : List Str} (hb : textOk b = true) : ∀ (ps : List Int) (i fa fb f : Nat) (out : List Str), Fits a b ps i → Inc fb b.length ps → f ≤ fa → fa ≤ i → out ++ (a.drop f).take (fa - f) = b.take fb →
    doFrom a (cutHunks a b ps i fa fb) f out = some b
  | [], i, _, _, _, _, h, _, _, _, _ => by cases h
  | [e], i, fa, fb, f, out, h, hI, hf, hfa, ho => by
    obtain ⟨rfl, rfl⟩ := h
    have hfb : fb ≤ b.length := by
      rcases hI with ⟨h, _⟩ | ⟨h, _, _⟩ <;> omega
    rw [cutHunks, if_neg (by omega), cutHunks, List.append_nil, Int.toNat_natCast]
    split
    · have hl : ((a.drop fa).take (a.length - fa)).length = a.length - fa := by simp
      rw [doFrom]
      simp only [Int.toNat_natCast, hl]
      rw [if_neg (by omega), if_pos trivial, doFrom, show fa + (a.length - fa) = a.length by omega, List.drop_length, List.append_nil, ho, take_seg hfb, List.take_length, hb]
      simp
    · have h1 : fa = a.length := by omega
      have h2 : fb = b.length := by omega
      subst h2
      rw [doFrom]
      have : out ++ a.drop f = b := by
        rw [h1, List.take_of_length_le (by simp), List.take_length] at ho
        exact ho
      rw [this, hb]
      simp
  | e :: e2 :: ps, i, fa, fb, f, out, h, hI, hf, hfa, ho => by
    obtain ⟨hi, he, hrest⟩ := h
    rw [cutHunks]
    rcases he with rfl | ⟨q, rfl, hq, hs⟩
    · rw [if_pos (by omega)]
      have hI2 : Inc fb b.length (e2 :: ps) := by
        rcases hI with ⟨_, h⟩ | ⟨h, _, _⟩
        · exact h
        · omega
      exact do_cut hb (e2 :: ps) (i + 1) fa fb f out hrest hI2 hf (by omega) ho
    · have hI2 : fb ≤ q ∧ Inc ((q + 1 : Nat) : Int) b.length (e2 :: ps) := by
        rcases hI with ⟨h, _⟩ | ⟨h1, _, h3⟩
        · omega
        · exact ⟨by omega, h3⟩
      obtain ⟨s, hsa⟩ : ∃ s, a[i]? = some s := ⟨_, List.getElem?_eq_getElem hi⟩
      have hsb : b[q]? = some s := by rw [← hs]; exact hsa
      rw [if_neg (by omega), Int.toNat_natCast]
      split
      · have hl : ((a.drop fa).take (i - fa)).length = i - fa := by simp; omega
        rw [List.singleton_append, doFrom]
        simp only [Int.toNat_natCast, hl]
        rw [if_neg (by omega), if_pos trivial, show fa + (i - fa) = i by omega]
        refine do_cut hb (e2 :: ps) (i + 1) (i + 1) (q + 1) i _ hrest hI2.2 (by omega) (Nat.le_refl _) ?_
        rw [seg_next (Nat.le_refl i) hsa, ho, take_seg hI2.1, take_next hsb]
        simp
      · have h1 : fa = i := by omega
        have h2 : fb = q := by omega
        subst h1 h2
        rw [List.nil_append]
        refine do_cut hb (e2 :: ps) (fa + 1) (fa + 1) (fb + 1) f out hrest hI2.2 (by omega) (Nat.le_refl _) ?_
        rw [seg_next hf hsa, ← List.append_assoc, ho, take_next hsb]
theorem do_diff {a b : List Str} (hb : textOk b = true) : doFrom a (diffOf a b) 0 [] = some b :=
  do_cut hb _ 0 0 0 0 [] (by simpa using pairs_fit (a := a) (b := b) a.length 0 (by omega)) (pairsOf_inc a b) (Nat.le_refl _) (Nat.le_refl _) (by simp)

/-- How many of the pairs are lines that are one. -/
def ones : List Int → Nat
  | [] => 0
  | e :: ps => (if 0 ≤ e then 1 else 0) + ones ps
theorem ones_mtch : ∀ (a b : List Str) (j : Nat), ones (mtch a b j) = lcsLen a b
  | [], b, j => by rw [mtch, lcsLen]; rfl
  | x :: xs, [], j => by rw [mtch, ones, ones_mtch xs [] j, lcsLen_nil_right, lcsLen_nil_right]; rfl
  | x :: xs, y :: ys, j => by
    rw [mtch, lcsLen]
    split
    · rw [ones, if_pos (by omega), ones_mtch xs ys (j + 1)]; omega
    split
    · rw [ones, if_neg (by omega), ones_mtch xs (y :: ys) j]; omega
    · rw [ones_mtch (x :: xs) ys (j + 1)]; omega
termination_by a b => a.length + b.length
theorem ones_append : ∀ (ps qs : List Int), ones (ps ++ qs) = ones ps + ones qs
  | [], qs => by simp [ones]
  | e :: ps, qs => by rw [List.cons_append, ones, ones_append ps qs, ones]; omega
def linesIn (d : List PHunk) : Nat := (d.map fun h => h.less.length + h.more.length).sum
theorem linesIn_app (c d : List PHunk) : linesIn (c ++ d) = linesIn c + linesIn d := by simp [linesIn]
/-- The lines of the pieces, and the lines that are one. -/
theorem lines_cut {a b : List Str} : ∀ (ps : List Int) (i fa fb : Nat), Fits a b ps i → Inc fb b.length ps → fa ≤ i →
    linesIn (cutHunks a b ps i fa fb) + 2 * ones ps = (a.length + 1 - fa) + (b.length + 1 - fb) ∧ (cutHunks a b ps i fa fb).length ≤ ones ps ∧ (cutHunks a b ps i fa fb).length ≤ linesIn (cutHunks a b ps i fa fb)
  | [], i, _, _, h, _, _ => by cases h
  | [e], i, fa, fb, h, hI, hfa => by
    obtain ⟨rfl, rfl⟩ := h
    have hfb : fb ≤ b.length := by
      rcases hI with ⟨h, _⟩ | ⟨h, _, _⟩ <;> omega
    have h1 : ones [(b.length : Int)] = 1 := by rw [ones, if_pos (by omega), ones]
    rw [h1, cutHunks, if_neg (by omega), cutHunks, List.append_nil, Int.toNat_natCast]
    split
    · simp [linesIn]; omega
    · simp [linesIn]; omega
  | e :: e2 :: ps, i, fa, fb, h, hI, hfa => by
    obtain ⟨hi, he, hrest⟩ := h
    rw [cutHunks]
    rcases he with rfl | ⟨q, rfl, hq, hs⟩
    · rw [if_pos (by omega), ones, if_neg (by omega), Nat.zero_add]
      have hI2 : Inc fb b.length (e2 :: ps) := by
        rcases hI with ⟨_, h⟩ | ⟨h, _, _⟩
        · exact h
        · omega
      exact lines_cut (e2 :: ps) (i + 1) fa fb hrest hI2 (by omega)
    · have hI2 : fb ≤ q ∧ Inc ((q + 1 : Nat) : Int) b.length (e2 :: ps) := by
        rcases hI with ⟨h, _⟩ | ⟨h1, _, h3⟩
        · omega
        · exact ⟨by omega, h3⟩
      have ih := lines_cut (e2 :: ps) (i + 1) (i + 1) (q + 1) hrest hI2.2 (Nat.le_refl _)
      have h1 : ones ((q : Int) :: e2 :: ps) = 1 + ones (e2 :: ps) := by rw [ones, if_pos (by omega)]
      rw [if_neg (by omega), Int.toNat_natCast, h1]
      obtain ⟨i1, i2, i3⟩ := ih
      split
      · rw [linesIn_app, List.length_append]
        have hl : linesIn [(⟨(fa : Int), (a.drop fa).take (i - fa), (b.drop fb).take (q - fb)⟩ : PHunk)] = (i - fa) + (q - fb) := by simp [linesIn]; omega
        rw [hl]
        simp only [List.length_cons, List.length_nil]
        omega
      · rw [List.nil_append]
        omega
theorem lines_diff (a b : List Str) : linesIn (diffOf a b) + 2 * lcsLen a b = a.length + b.length ∧ (diffOf a b).length ≤ linesIn (diffOf a b) ∧ (diffOf a b).length ≤ lcsLen a b + 1 := by
  have h := lines_cut (a := a) (b := b) (pairsOf a b) 0 0 0 (by simpa using pairs_fit (a := a) (b := b) a.length 0 (by omega)) (pairsOf_inc a b) (Nat.le_refl _)
  have e : ones (pairsOf a b) = lcsLen a b + 1 := by
    unfold pairsOf
    rw [ones_append, ones_mtch, ones, if_pos (by omega), ones]
  rw [e] at h
  unfold diffOf
  omega
theorem diffOf_self (a : List Str) (h : lcsLen a a = a.length) : diffOf a a = [] := by
  have := lines_diff a a
  exact List.eq_nil_of_length_eq_zero (by omega)

theorem hunksOk_of {h : PHunk} {d : List PHunk} (h1 : hunkOk h = true) (h2 : hunksOk d = true) (h3 : ∀ g, d.head? = some g → h.stop < g.at_) : hunksOk (h :: d) = true := by
  cases d with
  | nil => simpa [hunksOk] using h1
  | cons g t =>
    simp only [hunksOk, Bool.and_eq_true, decide_eq_true_eq]
    exact ⟨h1, h3 g rfl, h2⟩
theorem textOk_seg {t : List Str} (h : textOk t = true) (i m : Nat) : textOk ((t.drop i).take m) = true := by
  have hl := textOk_len h
  simp only [textOk, Bool.and_eq_true, decide_eq_true_eq, List.all_eq_true] at h ⊢
  exact ⟨by simp; omega, fun s hs => h.2 s (List.mem_of_mem_drop (List.mem_of_mem_take hs))⟩
theorem hunkOk_seg {a b : List Str} (ha : textOk a = true) (hb : textOk b = true) {fa i fb q : Nat} (hi : i ≤ a.length) (hq : q ≤ b.length) (hfa : fa ≤ i) (hfb : fb ≤ q) (h : fa < i ∨ fb < q) :
    hunkOk ⟨(fa : Int), (a.drop fa).take (i - fa), (b.drop fb).take (q - fb)⟩ = true := by
  have hl := textOk_len ha
  simp only [hunkOk, inRange, Bool.and_eq_true, decide_eq_true_eq, textOk_seg ha, textOk_seg hb, Bool.not_eq_true', decide_eq_false_iff_not]
  refine ⟨⟨by omega, by omega⟩, trivial, trivial, ?_⟩
  simp only [List.length_take, List.length_drop]
  omega
theorem hunks_cut {a b : List Str} (ha : textOk a = true) (hb : textOk b = true) : ∀ (ps : List Int) (i fa fb : Nat), Fits a b ps i → Inc fb b.length ps → fa ≤ i →
    hunksOk (cutHunks a b ps i fa fb) = true ∧ ∀ g, (cutHunks a b ps i fa fb).head? = some g → (fa : Int) ≤ g.at_
  | [], i, _, _, h, _, _ => by cases h
  | [e], i, fa, fb, h, hI, hfa => by
    obtain ⟨rfl, rfl⟩ := h
    have hfb : fb ≤ b.length := by
      rcases hI with ⟨h, _⟩ | ⟨h, _, _⟩ <;> omega
    rw [cutHunks, if_neg (by omega), cutHunks, List.append_nil, Int.toNat_natCast]
    split
    · rename_i hc
      refine ⟨by simpa [hunksOk] using hunkOk_seg ha hb (Nat.le_refl _) (Nat.le_refl _) hfa hfb hc, fun g hg => ?_⟩
      simp at hg
      subst hg
      exact Int.le_refl _
    · exact ⟨rfl, fun g hg => by simp at hg⟩
  | e :: e2 :: ps, i, fa, fb, h, hI, hfa => by
    obtain ⟨hi, he, hrest⟩ := h
    rw [cutHunks]
    rcases he with rfl | ⟨q, rfl, hq, hs⟩
    · rw [if_pos (by omega)]
      have hI2 : Inc fb b.length (e2 :: ps) := by
        rcases hI with ⟨_, h⟩ | ⟨h, _, _⟩
        · exact h
        · omega
      exact hunks_cut ha hb (e2 :: ps) (i + 1) fa fb hrest hI2 (by omega)
    · have hI2 : fb ≤ q ∧ Inc ((q + 1 : Nat) : Int) b.length (e2 :: ps) := by
        rcases hI with ⟨h, _⟩ | ⟨h1, _, h3⟩
        · omega
        · exact ⟨by omega, h3⟩
      obtain ⟨i1, i2⟩ := hunks_cut ha hb (e2 :: ps) (i + 1) (i + 1) (q + 1) hrest hI2.2 (Nat.le_refl _)
      rw [if_neg (by omega), Int.toNat_natCast]
      split
      · rename_i hc
        rw [List.singleton_append]
        refine ⟨hunksOk_of (hunkOk_seg ha hb (by omega) (by omega) hfa hI2.1 hc) i1 (fun g hg => ?_), fun g hg => ?_⟩
        · have := i2 g hg
          simp only [PHunk.stop, List.length_take, List.length_drop]
          omega
        · simp at hg
          subst hg
          exact Int.le_refl _
      · rw [List.nil_append]
        exact ⟨i1, fun g hg => by have := i2 g hg; omega⟩
theorem diffOf_ok {a b : List Str} (ha : textOk a = true) (hb : textOk b = true) : patchOk (diffOf a b) = true := by
  have h := (hunks_cut ha hb (pairsOf a b) 0 0 0 (by simpa using pairs_fit (a := a) (b := b) a.length 0 (by omega)) (pairsOf_inc a b) (Nat.le_refl _)).1
  obtain ⟨l1, l2, l3⟩ := lines_diff a b
  have := textOk_len ha
  have := textOk_len hb
  simp only [patchOk, Bool.and_eq_true, decide_eq_true_eq]
  exact ⟨by omega, h⟩
end Go.Proofs.Ythjjocimpkjldaa
