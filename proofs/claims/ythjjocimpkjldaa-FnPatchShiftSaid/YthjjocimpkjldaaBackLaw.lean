/- In plain words: the difference taken back makes the first text again. -/
import Derived.Test.YthjjocimpkjldaaDiffLaw
import Derived.Test.YthjjocimpkjldaaBackFn
namespace Go.Proofs.Ythjjocimpkjldaa
open Go.RowKit

theorem undo_cut {a b : List Str} (ha : textOk a = true) : ∀ (ps : List Int) (i fa fb f : Nat) (s : Int) (out : List Str), Fits a b ps i → Inc fb b.length ps → f ≤ fb → fa ≤ i → s = (fb : Int) - (fa : Int) → out ++ (b.drop f).take (fb - f) = a.take fa →
    doFrom b (backFrom (cutHunks a b ps i fa fb) s) f out = some a
  | [], i, _, _, _, _, _, h, _, _, _, _, _ => by cases h
  | [e], i, fa, fb, f, s, out, h, hI, hf, hfa, hs, ho => by
    obtain ⟨rfl, rfl⟩ := h
    have hfb : fb ≤ b.length := by
      rcases hI with ⟨h, _⟩ | ⟨h, _, _⟩ <;> omega
    rw [cutHunks, if_neg (by omega), cutHunks, List.append_nil, Int.toNat_natCast]
    split
    · have hl : ((b.drop fb).take (b.length - fb)).length = b.length - fb := by simp
      have hat : (fa : Int) + s = (fb : Int) := by omega
      rw [backFrom, backFrom, doFrom]
      simp only [hat, Int.toNat_natCast, hl]
      rw [if_neg (by omega), if_pos trivial, doFrom, show fb + (b.length - fb) = b.length by omega, List.drop_length, List.append_nil, ho, take_seg hfa, List.take_length, ha]
      simp
    · have h1 : fa = a.length := by omega
      have h2 : fb = b.length := by omega
      subst h1
      rw [backFrom, doFrom]
      have : out ++ b.drop f = a := by
        rw [h2, List.take_of_length_le (by simp), List.take_length] at ho
        exact ho
      rw [this, ha]
      simp
  | e :: e2 :: ps, i, fa, fb, f, s, out, h, hI, hf, hfa, hs, ho => by
    obtain ⟨hi, he, hrest⟩ := h
    rw [cutHunks]
    rcases he with rfl | ⟨q, rfl, hq, hsm⟩
    · rw [if_pos (by omega)]
      have hI2 : Inc fb b.length (e2 :: ps) := by
        rcases hI with ⟨_, h⟩ | ⟨h, _, _⟩
        · exact h
        · omega
      exact undo_cut ha (e2 :: ps) (i + 1) fa fb f s out hrest hI2 hf (by omega) hs ho
    · have hI2 : fb ≤ q ∧ Inc ((q + 1 : Nat) : Int) b.length (e2 :: ps) := by
        rcases hI with ⟨h, _⟩ | ⟨h1, _, h3⟩
        · omega
        · exact ⟨by omega, h3⟩
      obtain ⟨l, hsa⟩ : ∃ l, a[i]? = some l := ⟨_, List.getElem?_eq_getElem hi⟩
      have hsb : b[q]? = some l := by rw [← hsm]; exact hsa
      rw [if_neg (by omega), Int.toNat_natCast]
      split
      · have hl : ((b.drop fb).take (q - fb)).length = q - fb := by simp; omega
        have hl2 : ((a.drop fa).take (i - fa)).length = i - fa := by simp; omega
        have hat : (fa : Int) + s = (fb : Int) := by omega
        rw [List.singleton_append, backFrom, doFrom]
        simp only [hat, Int.toNat_natCast, hl, hl2]
        rw [if_neg (by omega), if_pos trivial, show fb + (q - fb) = q by omega]
        refine undo_cut ha (e2 :: ps) (i + 1) (i + 1) (q + 1) q _ _ hrest hI2.2 (by omega) (Nat.le_refl _) (by omega) ?_
        rw [seg_next (Nat.le_refl q) hsb, ho, take_seg hfa, take_next hsa]
        simp
      · have h1 : fa = i := by omega
        have h2 : fb = q := by omega
        subst h1 h2
        rw [List.nil_append]
        refine undo_cut ha (e2 :: ps) (fa + 1) (fa + 1) (fb + 1) f s out hrest hI2.2 (by omega) (Nat.le_refl _) (by omega) ?_
        rw [seg_next hf hsb, ← List.append_assoc, ho, take_next hsa]
theorem undo_diff {a b : List Str} (ha : textOk a = true) : doFrom b (backFrom (diffOf a b) 0) 0 [] = some a :=
  undo_cut ha _ 0 0 0 0 0 [] (by simpa using pairs_fit (a := a) (b := b) a.length 0 (by omega)) (pairsOf_inc a b) (Nat.le_refl _) (Nat.le_refl _) (by omega) (by simp)
theorem hunks_uncut {a b : List Str} (ha : textOk a = true) (hb : textOk b = true) : ∀ (ps : List Int) (i fa fb : Nat) (s : Int), Fits a b ps i → Inc fb b.length ps → fa ≤ i → s = (fb : Int) - (fa : Int) →
    hunksOk (backFrom (cutHunks a b ps i fa fb) s) = true ∧ ∀ g, (backFrom (cutHunks a b ps i fa fb) s).head? = some g → (fb : Int) ≤ g.at_
  | [], i, _, _, _, h, _, _, _ => by cases h
  | [e], i, fa, fb, s, h, hI, hfa, hs => by
    obtain ⟨rfl, rfl⟩ := h
    have hfb : fb ≤ b.length := by
      rcases hI with ⟨h, _⟩ | ⟨h, _, _⟩ <;> omega
    rw [cutHunks, if_neg (by omega), cutHunks, List.append_nil, Int.toNat_natCast]
    split
    · rename_i hc
      have hat : (fa : Int) + s = (fb : Int) := by omega
      rw [backFrom, backFrom]
      simp only [hat]
      refine ⟨by simpa [hunksOk] using hunkOk_seg hb ha (Nat.le_refl _) (Nat.le_refl _) hfb hfa hc.symm, fun g hg => ?_⟩
      simp at hg
      subst hg
      exact Int.le_refl _
    · exact ⟨rfl, fun g hg => by simp [backFrom] at hg⟩
  | e :: e2 :: ps, i, fa, fb, s, h, hI, hfa, hs => by
    obtain ⟨hi, he, hrest⟩ := h
    rw [cutHunks]
    rcases he with rfl | ⟨q, rfl, hq, hsm⟩
    · rw [if_pos (by omega)]
      have hI2 : Inc fb b.length (e2 :: ps) := by
        rcases hI with ⟨_, h⟩ | ⟨h, _, _⟩
        · exact h
        · omega
      exact hunks_uncut ha hb (e2 :: ps) (i + 1) fa fb s hrest hI2 (by omega) hs
    · have hI2 : fb ≤ q ∧ Inc ((q + 1 : Nat) : Int) b.length (e2 :: ps) := by
        rcases hI with ⟨h, _⟩ | ⟨h1, _, h3⟩
        · omega
        · exact ⟨by omega, h3⟩
      have hl : ((b.drop fb).take (q - fb)).length = q - fb := by simp; omega
      have hl2 : ((a.drop fa).take (i - fa)).length = i - fa := by simp; omega
      rw [if_neg (by omega), Int.toNat_natCast]
      split
      · rename_i hc
        have hat : (fa : Int) + s = (fb : Int) := by omega
        rw [List.singleton_append, backFrom]
        simp only [hat, hl, hl2]
        obtain ⟨i1, i2⟩ := hunks_uncut ha hb (e2 :: ps) (i + 1) (i + 1) (q + 1) (s + (((q - fb : Nat) : Int) - ((i - fa : Nat) : Int))) hrest hI2.2 (Nat.le_refl _) (by omega)
        refine ⟨hunksOk_of (hunkOk_seg hb ha (by omega) (by omega) hI2.1 hfa hc.symm) i1 (fun g hg => ?_), fun g hg => ?_⟩
        · have := i2 g hg
          simp only [PHunk.stop, hl]
          omega
        · simp at hg
          subst hg
          exact Int.le_refl _
      · rw [List.nil_append]
        obtain ⟨i1, i2⟩ := hunks_uncut ha hb (e2 :: ps) (i + 1) (i + 1) (q + 1) s hrest hI2.2 (Nat.le_refl _) (by omega)
        exact ⟨i1, fun g hg => by have := i2 g hg; omega⟩
theorem backFrom_len : ∀ (d : List PHunk) (s : Int), (backFrom d s).length = d.length
  | [], _ => rfl
  | x :: d, s => by simp [backFrom, backFrom_len d]
theorem undo_ok {a b : List Str} (ha : textOk a = true) (hb : textOk b = true) : patchOk (backFrom (diffOf a b) 0) = true := by
  have h := (hunks_uncut ha hb (pairsOf a b) 0 0 0 0 (by simpa using pairs_fit (a := a) (b := b) a.length 0 (by omega)) (pairsOf_inc a b) (Nat.le_refl _) (by omega)).1
  have h2 := patchOk_len (diffOf_ok ha hb)
  simp only [patchOk, Bool.and_eq_true, decide_eq_true_eq, backFrom_len]
  exact ⟨h2, h⟩
end Go.Proofs.Ythjjocimpkjldaa
