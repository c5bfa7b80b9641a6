/- In plain words: an alignment fits both texts. No program, no statement. -/
import Derived.Test.YthjjocimpkjldaaDiffPlain
namespace Go.Proofs.Ythjjocimpkjldaa
open Go.RowKit

theorem mtch_sound : ∀ (a b : List Str) (j i : Nat) (e : Int), (mtch a b j)[i]? = some e → 0 ≤ e → ∃ q : Nat, e = ((j + q : Nat) : Int) ∧ q < b.length ∧ a[i]? = b[q]?
  | [], _, _, i, e, h, _ => by simp [mtch] at h
  | x :: xs, [], j, 0, e, h, he => by simp [mtch] at h; omega
  | x :: xs, [], j, i + 1, e, h, he => by
    simp only [mtch, List.getElem?_cons_succ] at h
    obtain ⟨q, _, h2, _⟩ := mtch_sound xs [] j i e h he
    simp at h2
  | x :: xs, y :: ys, j, i, e, h, he => by
    rw [mtch] at h
    split at h
    · rename_i hxy
      cases i with
      | zero =>
        simp at h
        exact ⟨0, by simp [h], by simp, by simp [hxy]⟩
      | succ i =>
        simp only [List.getElem?_cons_succ] at h
        obtain ⟨q, h1, h2, h3⟩ := mtch_sound xs ys (j + 1) i e h he
        exact ⟨q + 1, by rw [h1]; omega, by simp; omega, by simpa using h3⟩
    split at h
    · cases i with
      | zero => simp at h; omega
      | succ i =>
        simp only [List.getElem?_cons_succ] at h
        obtain ⟨q, h1, h2, h3⟩ := mtch_sound xs (y :: ys) j i e h he
        exact ⟨q, h1, h2, by simpa using h3⟩
    · obtain ⟨q, h1, h2, h3⟩ := mtch_sound (x :: xs) ys (j + 1) i e h he
      exact ⟨q + 1, by rw [h1]; omega, by simp; omega, by simpa using h3⟩
termination_by a b => a.length + b.length
theorem mtch_self : ∀ (a : List Str) (j i : Nat), i < a.length → (mtch a a j)[i]? = some ((j + i : Nat) : Int)
  | [], _, i, h => by simp at h
  | x :: xs, j, i, h => by
    rw [mtch, if_pos rfl]
    cases i with
    | zero => simp
    | succ i =>
      rw [List.getElem?_cons_succ, mtch_self xs (j + 1) i (by simpa using h)]
      congr 2
      omega
/-- One step along the alignment. -/
theorem inc_step {a b : List Str} {i : Nat} {last e : Int} (hi : (mtch a b 0)[i]? = some e) (h : Inc (last + 1) b.length ((pairsOf a b).drop i)) :
    (e = -1 ∧ Inc (last + 1) b.length ((pairsOf a b).drop (i + 1))) ∨ (last < e ∧ Inc (e + 1) b.length ((pairsOf a b).drop (i + 1))) := by
  have hp : (pairsOf a b)[i]? = some e := by
    unfold pairsOf
    rw [List.getElem?_append_left (List.getElem?_eq_some_iff.1 hi).1]
    exact hi
  rw [drop_cons hp] at h
  rcases h with ⟨h1, h2⟩ | ⟨h1, _, h3⟩
  · exact .inl ⟨h1, h2⟩
  · exact .inr ⟨by omega, h3⟩

/-- The pairs from line i on fit both texts: one that is in both is the same line; the last pair is both ends. -/
def Fits (a b : List Str) : List Int → Nat → Prop
  | [], _ => False
  | [e], i => i = a.length ∧ e = (b.length : Int)
  | e :: e2 :: ps, i => i < a.length ∧ (e = -1 ∨ ∃ q : Nat, e = q ∧ q < b.length ∧ a[i]? = b[q]?) ∧ Fits a b (e2 :: ps) (i + 1)
theorem pairs_fit {a b : List Str} : ∀ k i : Nat, i + k = a.length → Fits a b ((pairsOf a b).drop i) i
  | 0, i, h => by
    have hi : i = a.length := by omega
    subst hi
    unfold pairsOf
    rw [List.drop_append_of_le_length (by rw [mtch_len]; omega), List.drop_of_length_le (by rw [mtch_len]; omega)]
    exact ⟨rfl, rfl⟩
  | k + 1, i, h => by
    have hm : i < (mtch a b 0).length := by rw [mtch_len]; omega
    obtain ⟨e, he⟩ : ∃ e, (mtch a b 0)[i]? = some e := ⟨_, List.getElem?_eq_getElem hm⟩
    have hp : (pairsOf a b)[i]? = some e := by unfold pairsOf; rw [List.getElem?_append_left hm]; exact he
    have ih := pairs_fit (a := a) (b := b) k (i + 1) (by omega)
    rw [drop_cons hp]
    obtain ⟨e2, ps, hd⟩ : ∃ e2 ps, (pairsOf a b).drop (i + 1) = e2 :: ps := by
      have : 0 < ((pairsOf a b).drop (i + 1)).length := by rw [List.length_drop, pairsOf_len]; omega
      cases hq : (pairsOf a b).drop (i + 1) with
      | nil => rw [hq] at this; simp at this
      | cons e2 ps => exact ⟨e2, ps, rfl⟩
    rw [hd] at ih ⊢
    refine ⟨by omega, ?_, ih⟩
    by_cases h0 : 0 ≤ e
    · obtain ⟨q, h1, h2, h3⟩ := mtch_sound a b 0 i e he h0
      exact .inr ⟨q, by rw [h1]; simp, h2, h3⟩
    · left
      have := pairsOf_inc a b
      clear ih hd
      have hinc : ∀ (ps : List Int) (lo hi : Int) (t : Nat) (x : Int), 0 ≤ lo → Inc lo hi ps → ps[t]? = some x → x = -1 ∨ 0 ≤ x := by
        intro ps
        induction ps with
        | nil => intro lo hi t x _ _ h; simp at h
        | cons y ys ih =>
          intro lo hi t x hlo hI ht
          cases t with
          | zero =>
            simp at ht
            subst ht
            rcases hI with ⟨h, _⟩ | ⟨h, _, _⟩
            · exact .inl h
            · exact .inr (by omega)
          | succ t =>
            simp only [List.getElem?_cons_succ] at ht
            rcases hI with ⟨_, h⟩ | ⟨h1, _, h3⟩
            · exact ih lo hi t x hlo h ht
            · exact ih (y + 1) hi t x (by omega) h3 ht
      rcases hinc _ _ _ i e (Int.le_refl 0) this hp with h | h
      · exact h
      · omega

theorem take_next {l : List Str} {i : Nat} {s : Str} (h : l[i]? = some s) : l.take (i + 1) = l.take i ++ [s] := by rw [List.take_add_one, h]; rfl
theorem seg_next {l : List Str} {f i : Nat} {s : Str} (hf : f ≤ i) (h : l[i]? = some s) : (l.drop f).take (i + 1 - f) = (l.drop f).take (i - f) ++ [s] := by
  rw [show i + 1 - f = (i - f) + 1 by omega, List.take_add_one, List.getElem?_drop, show f + (i - f) = i by omega, h]; rfl
theorem take_seg {l : List Str} {i j : Nat} (h : i ≤ j) : l.take i ++ (l.drop i).take (j - i) = l.take j := by
  rw [← List.take_append_drop i (l.take j), List.take_take, Nat.min_eq_left h, List.drop_take]

end Go.Proofs.Ythjjocimpkjldaa
