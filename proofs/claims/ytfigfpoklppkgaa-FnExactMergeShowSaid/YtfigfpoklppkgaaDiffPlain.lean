/- In plain words: the alignment of two texts, the pieces of their difference, and what is known of them. No program, no statement. -/
import Derived.Test.YtfigfpoklppkgaaGrid
namespace Go.Proofs.Ytfigfpoklppkgaa
open Go.RowKit

/-- Of each line of the first text which of the second (its lines counted from j on) it is; -1, if none. -/
def mtch : List Str → List Str → Nat → List Int
  | [], _, _ => []
  | _ :: xs, [], j => -1 :: mtch xs [] j
  | x :: xs, y :: ys, j => if x = y then (j : Int) :: mtch xs ys (j + 1) else if lcsLen (x :: xs) ys ≤ lcsLen xs (y :: ys) then -1 :: mtch xs (y :: ys) j else mtch (x :: xs) ys (j + 1)
termination_by xs ys => xs.length + ys.length

section
variable {a b : List Str} {i j : Nat} {x y : Str}
theorem mtch_same (hx : a[i]? = some x) (hy : b[j]? = some y) (h : x = y) : mtch (a.drop i) (b.drop j) j = (j : Int) :: mtch (a.drop (i + 1)) (b.drop (j + 1)) (j + 1) := by
  rw [drop_cons hx, drop_cons hy, mtch, if_pos h]
theorem mtch_end (hx : a[i]? = some x) (hj : b.length ≤ j) : mtch (a.drop i) (b.drop j) j = -1 :: mtch (a.drop (i + 1)) (b.drop j) j := by
  rw [drop_cons hx, List.drop_of_length_le hj, mtch]
theorem mtch_skip (hx : a[i]? = some x) (hy : b[j]? = some y) (h : x ≠ y) (hl : lcsAt a b i (j + 1) ≤ lcsAt a b (i + 1) j) : mtch (a.drop i) (b.drop j) j = -1 :: mtch (a.drop (i + 1)) (b.drop j) j := by
  unfold lcsAt at hl
  rw [drop_cons hx, drop_cons hy] at *
  rw [mtch, if_neg h, if_pos (by omega)]
theorem mtch_next (hx : a[i]? = some x) (hy : b[j]? = some y) (h : x ≠ y) (hl : ¬ lcsAt a b i (j + 1) ≤ lcsAt a b (i + 1) j) : mtch (a.drop i) (b.drop j) j = mtch (a.drop i) (b.drop (j + 1)) (j + 1) := by
  unfold lcsAt at hl
  rw [drop_cons hx, drop_cons hy] at *
  rw [mtch, if_neg h, if_neg (by omega)]
theorem mtch_done (h : a.length ≤ i) (bs : List Str) : mtch (a.drop i) bs j = [] := by
  rw [List.drop_of_length_le h, mtch]
end

/-- Numbers that are -1, or at lo at least and at hi at most, each higher than the ones ahead of it. -/
def Inc : Int → Int → List Int → Prop
  | _, _, [] => True
  | lo, hi, j :: ps => (j = -1 ∧ Inc lo hi ps) ∨ (lo ≤ j ∧ j ≤ hi ∧ Inc (j + 1) hi ps)
theorem Inc.mono : ∀ {ps : List Int} {lo lo' hi : Int}, Inc lo hi ps → lo' ≤ lo → Inc lo' hi ps
  | [], _, _, _, _, _ => trivial
  | j :: ps, lo, lo', hi, h, hl => by
    rcases h with ⟨h1, h2⟩ | ⟨h1, h2, h3⟩
    · exact .inl ⟨h1, h2.mono hl⟩
    · exact .inr ⟨by omega, h2, h3⟩
theorem mtch_len : ∀ (a b : List Str) (j : Nat), (mtch a b j).length = a.length
  | [], _, _ => by simp [mtch]
  | _ :: xs, [], j => by simp [mtch, mtch_len xs [] j]
  | x :: xs, y :: ys, j => by
    rw [mtch]
    split
    · simp [mtch_len xs ys (j + 1)]
    split
    · simp [mtch_len xs (y :: ys) j]
    · simpa using mtch_len (x :: xs) ys (j + 1)
termination_by xs ys => xs.length + ys.length
/-- The alignment, and the end behind it. -/
theorem mtch_inc : ∀ (a b : List Str) (j : Nat), Inc j (j + b.length) (mtch a b j ++ [((j + b.length : Nat) : Int)])
  | [], b, j => by rw [mtch]; exact .inr ⟨by omega, by omega, trivial⟩
  | _ :: xs, [], j => by
    rw [mtch]
    exact .inl ⟨rfl, mtch_inc xs [] j⟩
  | x :: xs, y :: ys, j => by
    rw [mtch]
    split
    · refine .inr ⟨by omega, by simp; omega, ?_⟩
      have := mtch_inc xs ys (j + 1)
      simpa [Int.add_assoc, Int.add_comm, Int.add_left_comm, Nat.add_assoc, Nat.add_comm, Nat.add_left_comm] using this
    split
    · exact .inl ⟨rfl, mtch_inc xs (y :: ys) j⟩
    · have := (mtch_inc (x :: xs) ys (j + 1)).mono (lo' := j) (by omega)
      simpa [Int.add_assoc, Int.add_comm, Int.add_left_comm, Nat.add_assoc, Nat.add_comm, Nat.add_left_comm] using this
termination_by xs ys => xs.length + ys.length

/-- The pieces between lines that are one. -/
def cutHunks (a b : List Str) : List Int → Nat → Nat → Nat → List PHunk
  | [], _, _, _ => []
  | j :: ps, i, fa, fb => if j < 0 then cutHunks a b ps (i + 1) fa fb else
      (if fa < i ∨ fb < j.toNat then [⟨fa, (a.drop fa).take (i - fa), (b.drop fb).take (j.toNat - fb)⟩] else []) ++ cutHunks a b ps (i + 1) (i + 1) (j.toNat + 1)
def pairsOf (a b : List Str) : List Int := mtch a b 0 ++ [(b.length : Int)]
def diffOf (a b : List Str) : List PHunk := cutHunks a b (pairsOf a b) 0 0 0
theorem pairsOf_len (a b : List Str) : (pairsOf a b).length = a.length + 1 := by simp [pairsOf, mtch_len]
theorem pairsOf_inc (a b : List Str) : Inc 0 b.length (pairsOf a b) := by
  have := mtch_inc a b 0
  simpa [pairsOf] using this
end Go.Proofs.Ytfigfpoklppkgaa
