/- In plain words: the merge of three texts as parts, and what is known of it. No program, no statement. -/
import Derived.Test.YtfigfpoklppkgaaDiffPlain
import Derived.Test.YtfigfpoklppkgaaText
namespace Go.Proofs.Ytfigfpoklppkgaa
open Go.RowKit

def newPart (ls : List Str) : PPart := ⟨false, ls, [], [], []⟩
def clashPart (old one two : List Str) : PPart := ⟨true, [], old, one, two⟩
/-- Lines behind parts: lines behind lines are one part, no lines are none. -/
def putLines (out : List PPart) (ls : List Str) : List PPart :=
  if ls = [] then out else match out[out.length - 1]? with
  | none => out ++ [newPart ls]
  | some p => if p.clash then out ++ [newPart ls] else out.set (out.length - 1) { p with lines := p.lines ++ ls }
def putPiece (out : List PPart) (old one two : List Str) : List PPart :=
  if one = old ∨ one = two then putLines out two else if two = old then putLines out one else out ++ [clashPart old one two]
def piece (t : List Str) (i j : Nat) : List Str := (t.drop i).take (j - i)
/-- What one round adds. -/
def mergeAt (o a b : List Str) (i io ia ib ja jb : Nat) (out : List PPart) : List PPart := putLines (putPiece out (piece o io i) (piece a ia ja) (piece b ib jb)) (piece o i (i + 1))
def mergeFrom (o a b : List Str) : List Int → List Int → Nat → Nat → Nat → Nat → List PPart → List PPart
  | x :: xs, y :: ys, i, io, ia, ib, out => if x < 0 ∨ y < 0 then mergeFrom o a b xs ys (i + 1) io ia ib out else
      mergeFrom o a b xs ys (i + 1) (i + 1) (x.toNat + 1) (y.toNat + 1) (mergeAt o a b i io ia ib x.toNat y.toNat out)
  | _, _, _, _, _, _, out => out
def mergeOf (o a b : List Str) : List PPart := mergeFrom o a b (pairsOf o a) (pairsOf o b) 0 0 0 0 []
theorem putLines_nil (out : List PPart) : putLines out [] = out := by simp [putLines]
theorem putLines_new {out : List PPart} {ls : List Str} (h : ls ≠ []) (hl : ∀ p, out[out.length - 1]? = some p → p.clash = true) : putLines out ls = out ++ [newPart ls] := by
  unfold putLines
  rw [if_neg h]
  cases hc : out[out.length - 1]? with
  | none => rfl
  | some p => simp [hl p hc]
theorem putLines_more {out : List PPart} {ls : List Str} {p : PPart} (h : ls ≠ []) (hp : out[out.length - 1]? = some p) (hc : p.clash = false) : putLines out ls = out.set (out.length - 1) { p with lines := p.lines ++ ls } := by
  unfold putLines
  rw [if_neg h, hp]
  simp [hc]
theorem piece_len (t : List Str) (i j : Nat) : (piece t i j).length ≤ t.length := by unfold piece; rw [List.length_take, List.length_drop]; omega
theorem piece_none {t : List Str} {i : Nat} (h : t.length ≤ i) (j : Nat) : piece t i j = [] := by unfold piece; rw [List.drop_of_length_le h]; simp
/-- Not too many. -/
def fewParts (m : Nat) (out : List PPart) : Prop := out.length ≤ 2 * m ∧ ∀ p ∈ out, p.lines.length ≤ 32 * m ∧ p.old.length ≤ 16 ∧ p.one.length ≤ 16 ∧ p.two.length ≤ 16
def fewParts1 (m : Nat) (out : List PPart) : Prop := out.length ≤ 2 * m + 1 ∧ ∀ p ∈ out, p.lines.length ≤ 32 * m + 16 ∧ p.old.length ≤ 16 ∧ p.one.length ≤ 16 ∧ p.two.length ≤ 16
theorem fewParts_nil : fewParts 0 [] := ⟨by simp, by simp⟩
theorem fewLines {n l : Nat} {out : List PPart} {ls : List Str} (h : out.length ≤ n ∧ ∀ p ∈ out, p.lines.length ≤ l ∧ p.old.length ≤ 16 ∧ p.one.length ≤ 16 ∧ p.two.length ≤ 16) (hl : ls.length ≤ 16) :
    (putLines out ls).length ≤ n + 1 ∧ ∀ p ∈ putLines out ls, p.lines.length ≤ l + 16 ∧ p.old.length ≤ 16 ∧ p.one.length ≤ 16 ∧ p.two.length ≤ 16 := by
  obtain ⟨h1, h2⟩ := h
  have hkeep : ∀ p ∈ out, p.lines.length ≤ l + 16 ∧ p.old.length ≤ 16 ∧ p.one.length ≤ 16 ∧ p.two.length ≤ 16 := fun p hp => by have := h2 p hp; omega
  have hnew : (out ++ [newPart ls]).length ≤ n + 1 ∧ ∀ p ∈ out ++ [newPart ls], p.lines.length ≤ l + 16 ∧ p.old.length ≤ 16 ∧ p.one.length ≤ 16 ∧ p.two.length ≤ 16 := by
    refine ⟨by simp; omega, fun p hp => ?_⟩
    rcases List.mem_append.1 hp with hp | hp
    · exact hkeep p hp
    · simp at hp; subst hp; simp [newPart]; omega
  unfold putLines
  split
  · exact ⟨by omega, hkeep⟩
  split
  · exact hnew
  · rename_i p hp
    split
    · exact hnew
    · refine ⟨by simp; omega, fun q hq => ?_⟩
      rcases List.mem_or_eq_of_mem_set hq with hq | hq
      · exact hkeep q hq
      · have := h2 p (List.mem_of_getElem? hp)
        subst hq; simp; omega
theorem fewPiece {m : Nat} {out : List PPart} {old one two : List Str} (h : fewParts m out) (h0 : old.length ≤ 16) (h1 : one.length ≤ 16) (h2 : two.length ≤ 16) : fewParts1 m (putPiece out old one two) := by
  unfold putPiece
  split
  · exact fewLines h h2
  split
  · exact fewLines h h1
  · refine ⟨by have := h.1; simp; omega, fun p hp => ?_⟩
    rcases List.mem_append.1 hp with hp | hp
    · have := h.2 p hp; omega
    · simp at hp; subst hp; simp [clashPart]; omega
theorem fewAt {m : Nat} {out : List PPart} {ls : List Str} (h : fewParts1 m out) (hl : ls.length ≤ 16) : fewParts (m + 1) (putLines out ls) := by
  have := fewLines h hl
  refine ⟨by have := this.1; omega, fun p hp => ?_⟩
  have := this.2 p hp; omega
theorem fewParts.mono {m m' : Nat} {out : List PPart} (h : fewParts m out) (hm : m ≤ m') : fewParts m' out := ⟨by have := h.1; omega, fun p hp => by have := h.2 p hp; omega⟩
theorem mergeFrom_few (o a b : List Str) (ho : o.length ≤ 10) (ha : a.length ≤ 10) (hb : b.length ≤ 10) : ∀ (xs ys : List Int) (i io ia ib m : Nat) (out : List PPart), fewParts m out → fewParts (m + xs.length) (mergeFrom o a b xs ys i io ia ib out)
  | [], ys, i, io, ia, ib, m, out, h => by
    have e : mergeFrom o a b [] ys i io ia ib out = out := by unfold mergeFrom; rfl
    rw [e]; simpa using h
  | x :: xs, [], i, io, ia, ib, m, out, h => by
    have e : mergeFrom o a b (x :: xs) [] i io ia ib out = out := by unfold mergeFrom; rfl
    rw [e]
    exact h.mono (by omega)
  | x :: xs, y :: ys, i, io, ia, ib, m, out, h => by
    rw [mergeFrom]
    split
    · have := mergeFrom_few o a b ho ha hb xs ys (i + 1) io ia ib m out h
      exact this.mono (by simp only [List.length_cons]; omega)
    · have hp : ∀ (t : List Str) (i j : Nat), t.length ≤ 10 → (piece t i j).length ≤ 16 := fun t i j h => by have := piece_len t i j; omega
      have := mergeFrom_few o a b ho ha hb xs ys (i + 1) (i + 1) (x.toNat + 1) (y.toNat + 1) (m + 1) _ (fewAt (fewPiece h (hp o io i ho) (hp a ia x.toNat ha) (hp b ib y.toNat hb)) (hp o i (i + 1) ho))
      simp only [List.length_cons]
      rwa [show m + (xs.length + 1) = m + 1 + xs.length by omega]
theorem mergeOf_few {o a b : List Str} (ho : o.length ≤ 10) (ha : a.length ≤ 10) (hb : b.length ≤ 10) : fewParts 11 (mergeOf o a b) := by
  have := mergeFrom_few o a b ho ha hb (pairsOf o a) (pairsOf o b) 0 0 0 0 0 [] fewParts_nil
  rw [pairsOf_len] at this
  exact this.mono (by omega)
def mergeOk (o a b : List Str) : Bool := textOk o && (textOk a && textOk b)
def mergeParts (o a b : List Str) : List PPart := if mergeOk o a b then mergeOf o a b else []
end Go.Proofs.Ytfigfpoklppkgaa
