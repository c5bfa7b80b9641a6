/- In plain words: what is known of a merge: its parts; the other way round; one side as it was. No program, no statement. -/
import Derived.Test.YtbnhebmfgjdocaaMergePlain
import Derived.Test.YtbnhebmfgjdocaaFits
namespace Go.Proofs.Ytbnhebmfgjdocaa
open Go.RowKit

/-! ### Its parts -/
def goodPart (p : PPart) : Prop := if p.clash then p.one ≠ p.two ∧ p.one ≠ p.old ∧ p.two ≠ p.old ∧ p.lines = [] else p.lines ≠ [] ∧ p.old = [] ∧ p.one = [] ∧ p.two = []
def apartParts (out : List PPart) : Prop := ∀ (i : Nat) (p q : PPart), out[i]? = some p → out[i + 1]? = some q → q.clash = false → p.clash = true
def goodParts (out : List PPart) : Prop := (∀ p ∈ out, goodPart p) ∧ apartParts out
theorem goodParts_nil : goodParts [] := ⟨(fun p hp => by cases hp), fun i p q h => by simp at h⟩
theorem good_snoc {out : List PPart} {p : PPart} (h : goodParts out) (hp : goodPart p) (hl : p.clash = false → ∀ q, out[out.length - 1]? = some q → q.clash = true) : goodParts (out ++ [p]) := by
  refine ⟨fun q hq => ?_, fun i x y hx hy hc => ?_⟩
  · rcases List.mem_append.1 hq with hq | hq
    · exact h.1 q hq
    · simp at hq; subst hq; exact hp
  · by_cases hi : i + 1 < out.length
    · rw [List.getElem?_append_left (by omega)] at hx
      rw [List.getElem?_append_left hi] at hy
      exact h.2 i x y hx hy hc
    · have hlt := (List.getElem?_eq_some_iff.1 hy).1
      simp at hlt
      have e : i + 1 = out.length := by omega
      rw [List.getElem?_append_left (by omega)] at hx
      rw [List.getElem?_append_right (by omega), e, Nat.sub_self] at hy
      simp at hy
      subst hy
      exact hl hc x (by rw [← hx]; congr 1; omega)
theorem good_lines {out : List PPart} {ls : List Str} (h : goodParts out) : goodParts (putLines out ls) := by
  by_cases hls : ls = []
  · rw [hls, putLines_nil]; exact h
  by_cases hl : ∃ p, out[out.length - 1]? = some p ∧ p.clash = false
  · obtain ⟨p, hp, hc⟩ := hl
    rw [putLines_more hls hp hc]
    have hg := h.1 p (List.mem_of_getElem? hp)
    refine ⟨fun q hq => ?_, fun i x y hx hy hcy => ?_⟩
    · rcases List.mem_or_eq_of_mem_set hq with hq | hq
      · exact h.1 q hq
      · subst hq
        unfold goodPart at *
        rw [hc] at hg
        simp only [hc, Bool.false_eq_true, if_false] at hg ⊢
        exact ⟨by simp [hg.1], hg.2⟩
    · have hlt := (List.getElem?_eq_some_iff.1 hy).1
      rw [List.length_set] at hlt
      have hx' : out[i]? = some x := by rwa [List.getElem?_set_ne (by omega)] at hx
      by_cases hi : i + 1 = out.length - 1
      · exact h.2 i x p hx' (by rw [hi]; exact hp) hc
      · rw [List.getElem?_set_ne (by omega)] at hy
        exact h.2 i x y hx' hy hcy
  · have hnew : ∀ p, out[out.length - 1]? = some p → p.clash = true := fun p hp => by
      cases hc : p.clash
      · exact absurd ⟨p, hp, hc⟩ hl
      · rfl
    rw [putLines_new hls hnew]
    exact good_snoc h (by unfold goodPart newPart; simp [hls]) (fun _ => hnew)
theorem good_piece {out : List PPart} {old one two : List Str} (h : goodParts out) : goodParts (putPiece out old one two) := by
  unfold putPiece
  split
  · exact good_lines h
  split
  · exact good_lines h
  · rename_i h1 h2
    refine good_snoc h ?_ (fun hc => by simp [clashPart] at hc)
    unfold goodPart clashPart
    simp only [if_true]
    exact ⟨fun e => h1 (.inr e), fun e => h1 (.inl e), h2, trivial⟩
theorem good_from (o a b : List Str) : ∀ (xs ys : List Int) (i io ia ib : Nat) (out : List PPart), goodParts out → goodParts (mergeFrom o a b xs ys i io ia ib out)
  | [], ys, i, io, ia, ib, out, h => by
    have e : mergeFrom o a b [] ys i io ia ib out = out := by unfold mergeFrom; rfl
    rwa [e]
  | x :: xs, [], i, io, ia, ib, out, h => by
    have e : mergeFrom o a b (x :: xs) [] i io ia ib out = out := by unfold mergeFrom; rfl
    rwa [e]
  | x :: xs, y :: ys, i, io, ia, ib, out, h => by
    rw [mergeFrom]
    split
    · exact good_from o a b xs ys _ _ _ _ out h
    · exact good_from o a b xs ys _ _ _ _ _ (good_lines (good_piece h))
theorem good_merge (o a b : List Str) : goodParts (mergeOf o a b) := good_from _ _ _ _ _ _ _ _ _ _ goodParts_nil

/-! ### The other way round -/
def swapPart (p : PPart) : PPart := { p with one := p.two, two := p.one }
theorem swap_lines (out : List PPart) (ls : List Str) : putLines (out.map swapPart) ls = (putLines out ls).map swapPart := by
  unfold putLines
  split
  · rfl
  · rw [List.length_map, List.getElem?_map]
    cases hc : out[out.length - 1]? with
    | none => simp [newPart, swapPart]
    | some p =>
      simp only [Option.map_some]
      have : (swapPart p).clash = p.clash := rfl
      rw [this]
      split
      · simp [newPart, swapPart]
      · rw [List.map_set]; rfl
theorem swap_piece (out : List PPart) (old one two : List Str) : putPiece (out.map swapPart) old two one = (putPiece out old one two).map swapPart := by
  unfold putPiece
  by_cases h1 : one = old
  · by_cases h2 : two = old
    · subst h1 h2
      simp [swap_lines]
    · have h3 : ¬ two = one := fun e => h2 (e.trans h1)
      rw [if_neg (by rintro (h | h); exact h2 h; exact h3 h), if_pos h1, if_pos (.inl h1), swap_lines]
  · by_cases h2 : two = old
    · have h3 : ¬ one = two := fun e => h1 (e.trans h2)
      rw [if_pos (.inl h2), if_neg (by rintro (h | h); exact h1 h; exact h3 h), if_pos h2, swap_lines]
    · by_cases h3 : one = two
      · subst h3
        rw [if_pos (.inr rfl), if_pos (.inr rfl), swap_lines]
      · rw [if_neg (by rintro (h | h); exact h2 h; exact h3 h.symm), if_neg h1, if_neg (by rintro (h | h); exact h1 h; exact h3 h), if_neg h2]
        simp [clashPart, swapPart]
theorem swap_from (o a b : List Str) : ∀ (xs ys : List Int) (i io ia ib : Nat) (out : List PPart), mergeFrom o b a ys xs i io ib ia (out.map swapPart) = (mergeFrom o a b xs ys i io ia ib out).map swapPart
  | [], [], i, io, ia, ib, out => by unfold mergeFrom; rfl
  | [], y :: ys, i, io, ia, ib, out => by unfold mergeFrom; rfl
  | x :: xs, [], i, io, ia, ib, out => by unfold mergeFrom; rfl
  | x :: xs, y :: ys, i, io, ia, ib, out => by
    rw [mergeFrom, mergeFrom]
    by_cases h : x < 0 ∨ y < 0
    · rw [if_pos h, if_pos h.symm]
      exact swap_from o a b xs ys _ _ _ _ out
    · rw [if_neg h, if_neg (fun h' => h h'.symm)]
      unfold mergeAt
      rw [swap_piece, swap_lines]
      exact swap_from o a b xs ys _ _ _ _ _
theorem swap_merge (o a b : List Str) : mergeOf o b a = (mergeOf o a b).map swapPart := swap_from o a b _ _ _ _ _ _ []
theorem swap_swap (ps : List PPart) : (ps.map swapPart).map swapPart = ps := by
  rw [List.map_map]
  conv => rhs; rw [← List.map_id ps]
  rfl

/-! ### All its lines, where nothing clashes -/
def noClash (out : List PPart) : Prop := ∀ p ∈ out, p.clash = false
def linesOf (out : List PPart) : List Str := out.flatMap fun p => p.lines
theorem lines_put {out : List PPart} {ls : List Str} (h : noClash out) : noClash (putLines out ls) ∧ linesOf (putLines out ls) = linesOf out ++ ls := by
  by_cases hls : ls = []
  · rw [hls, putLines_nil]; exact ⟨h, by simp⟩
  by_cases ho : out = []
  · subst ho
    rw [putLines_new hls (by simp)]
    exact ⟨fun p hp => by simp at hp; subst hp; rfl, by simp [linesOf, newPart]⟩
  · have hpos : 0 < out.length := List.length_pos_iff.2 ho
    obtain ⟨p, hp⟩ : ∃ p, out[out.length - 1]? = some p := ⟨_, List.getElem?_eq_getElem (by omega)⟩
    have hc := h p (List.mem_of_getElem? hp)
    rw [putLines_more hls hp hc]
    refine ⟨fun q hq => ?_, ?_⟩
    · rcases List.mem_or_eq_of_mem_set hq with hq | hq
      · exact h q hq
      · subst hq; exact hc
    · have hlast : out = out.take (out.length - 1) ++ [p] := by
        conv => lhs; rw [← List.take_length (l := out), show out.length = (out.length - 1) + 1 by omega, List.take_add_one, hp]
        rfl
      have hset : out.set (out.length - 1) { p with lines := p.lines ++ ls } = out.take (out.length - 1) ++ [{ p with lines := p.lines ++ ls }] := by
        conv => lhs; rw [hlast]
        rw [List.set_append_right _ _ (by simp), List.length_append]
        simp
      rw [hset]
      conv => rhs; rw [hlast]
      simp [linesOf]
theorem piece_take {t : List Str} {i j : Nat} (h : i ≤ j) : t.take i ++ piece t i j = t.take j := take_seg h
theorem piece_at {t : List Str} {i : Nat} {x : Str} (h : t[i]? = some x) : piece t i (i + 1) = [x] := by
  unfold piece
  rw [drop_cons h, show i + 1 - i = 1 by omega]
  rfl
/-- Where each piece becomes what the second side has, the merge is the second side's text. -/
theorem merge_two {o a b : List Str} (K : Nat → Nat → Nat → Nat → List Int → List Int → Prop)
    (hskip : ∀ i io ia ib x y xs ys, K i io ia ib (x :: xs) (y :: ys) → x < 0 ∨ y < 0 → K (i + 1) io ia ib xs ys)
    (hput : ∀ i io ia ib (x y : Nat) xs ys, K i io ia ib (x :: xs) (y :: ys) → K (i + 1) (i + 1) (x + 1) (y + 1) xs ys ∧ ∀ out, putPiece out (piece o io i) (piece a ia x) (piece b ib y) = putLines out (piece b ib y)) :
    ∀ (xs ys : List Int) (i io ia ib : Nat) (out : List PPart), K i io ia ib xs ys → Fits o a xs i → Fits o b ys i → Inc ib b.length ys → noClash out → linesOf out = b.take ib →
      noClash (mergeFrom o a b xs ys i io ia ib out) ∧ linesOf (mergeFrom o a b xs ys i io ia ib out) = b
  | [], _, _, _, _, _, _, _, h, _, _, _, _ => by cases h
  | _ :: _, [], _, _, _, _, _, _, _, h, _, _, _ => by cases h
  | [x], [y], i, io, ia, ib, out, hK, ⟨hi, hx⟩, ⟨_, hy⟩, hI, hn, hl => by
    subst hx hy
    rw [mergeFrom, if_neg (by omega), mergeFrom]
    · simp only [Int.toNat_natCast]
      have h1 := (hput _ _ _ _ _ _ _ _ hK).2 out
      unfold mergeAt
      rw [h1, piece_none (t := o) (i := i) (by omega) (i + 1), putLines_nil]
      have hib : ib ≤ b.length := by
        rcases hI with ⟨h, _⟩ | ⟨h, _⟩
        · omega
        · omega
      have := lines_put (ls := piece b ib b.length) hn
      refine ⟨this.1, ?_⟩
      rw [this.2, hl, piece_take hib, List.take_length]
    · intro _ _ _ _ h; cases h
  | [x], _ :: _ :: _, i, _, _, _, _, _, ⟨hi, _⟩, ⟨h, _⟩, _, _, _ => by omega
  | _ :: _ :: _, [y], i, _, _, _, _, _, ⟨h, _⟩, ⟨hi, _⟩, _, _, _ => by omega
  | x :: x2 :: xs, y :: y2 :: ys, i, io, ia, ib, out, hK, ⟨hi, _, hfx⟩, ⟨_, hy, hfy⟩, hI, hn, hl => by
    rw [mergeFrom]
    by_cases hneg : x < 0 ∨ y < 0
    · rw [if_pos hneg]
      have hI2 : Inc ib b.length (y2 :: ys) := by
        rcases hI with ⟨_, h⟩ | ⟨h1, _, h3⟩
        · exact h
        · exact h3.mono (by omega)
      exact merge_two K hskip hput (x2 :: xs) (y2 :: ys) (i + 1) io ia ib out (hskip _ _ _ _ _ _ _ _ hK hneg) hfx hfy hI2 hn hl
    · rw [if_neg hneg]
      obtain ⟨p, rfl⟩ := Int.eq_ofNat_of_zero_le (by omega : 0 ≤ x)
      obtain ⟨q, rfl⟩ := Int.eq_ofNat_of_zero_le (by omega : 0 ≤ y)
      have hI2 : ib ≤ q ∧ Inc ((q : Int) + 1) b.length (y2 :: ys) := by
        rcases hI with ⟨h, _⟩ | ⟨h1, _, h3⟩
        · omega
        · exact ⟨by omega, h3⟩
      obtain ⟨hK2, hp⟩ := hput _ _ _ _ _ _ _ _ hK
      obtain ⟨s, hs, hbs⟩ : ∃ s, o[i]? = some s ∧ b[q]? = some s := by
        rcases hy with h | ⟨q', h, hq', hoq⟩
        · omega
        · have : q' = q := by omega
          subst this
          exact ⟨_, hoq.trans (List.getElem?_eq_getElem hq'), List.getElem?_eq_getElem hq'⟩
      simp only [Int.toNat_natCast]
      have e : mergeAt o a b i io ia ib p q out = putLines (putLines out (piece b ib q)) [s] := by
        unfold mergeAt; rw [hp out, piece_at hs]
      rw [e]
      have l1 := lines_put (ls := piece b ib q) hn
      have l2 := lines_put (ls := [s]) l1.1
      refine merge_two K hskip hput (x2 :: xs) (y2 :: ys) (i + 1) (i + 1) (p + 1) (q + 1) _ hK2 hfx hfy hI2.2 l2.1 ?_
      rw [l2.2, l1.2, hl, piece_take hI2.1, List.take_add_one, hbs]
      rfl
theorem pairs_self (o : List Str) {k : Nat} {e : Int} (h : (pairsOf o o)[k]? = some e) : e = k := by
  have hlt := (List.getElem?_eq_some_iff.1 h).1
  rw [pairsOf_len] at hlt
  unfold pairsOf at h
  by_cases hk : k < o.length
  · rw [List.getElem?_append_left (by rw [mtch_len]; exact hk), mtch_self o 0 k hk] at h
    have := Option.some.inj h
    omega
  · rw [List.getElem?_append_right (by rw [mtch_len]; omega), mtch_len, show k - o.length = 0 by omega] at h
    simp at h
    omega
theorem merge_left (o b : List Str) : noClash (mergeOf o o b) ∧ linesOf (mergeOf o o b) = b := by
  refine merge_two (fun i io ia _ xs _ => ia = io ∧ ∀ (k : Nat) (e : Int), xs[k]? = some e → e = ((i + k : Nat) : Int)) ?_ ?_ (pairsOf o o) (pairsOf o b) 0 0 0 0 [] ⟨rfl, fun k e h => by rw [pairs_self o h]; simp⟩
    (pairs_fit o.length 0 (by omega)) (pairs_fit o.length 0 (by omega)) (pairsOf_inc o b) (fun p hp => by cases hp) (by simp [linesOf])
  · rintro i io ia ib x y xs ys ⟨h1, h2⟩ _
    refine ⟨h1, fun k e h => ?_⟩
    have := h2 (k + 1) e (by simpa using h)
    rw [this]; congr 1; omega
  · rintro i io ia ib x y xs ys ⟨h1, h2⟩
    have hx : x = i := by
      have := h2 0 x rfl
      simp at this
      exact_mod_cast this
    refine ⟨⟨by omega, fun k e h => ?_⟩, fun out => ?_⟩
    · have := h2 (k + 1) e (by simpa using h)
      rw [this]; congr 1; omega
    · subst h1 hx
      unfold putPiece
      rw [if_pos (.inl rfl)]
theorem merge_both (o a : List Str) : noClash (mergeOf o a a) ∧ linesOf (mergeOf o a a) = a := by
  refine merge_two (fun _ _ ia ib xs ys => ia = ib ∧ xs = ys) ?_ ?_ (pairsOf o a) (pairsOf o a) 0 0 0 0 [] ⟨rfl, rfl⟩ (pairs_fit o.length 0 (by omega)) (pairs_fit o.length 0 (by omega)) (pairsOf_inc o a) (fun p hp => by cases hp) (by simp [linesOf])
  · rintro i io ia ib x y xs ys ⟨h1, h2⟩ _
    exact ⟨h1, by simpa using (List.cons.inj h2).2⟩
  · rintro i io ia ib x y xs ys ⟨h1, h2⟩
    obtain ⟨e1, e2⟩ := List.cons.inj h2
    have hxy : x = y := by exact_mod_cast e1
    subst h1 hxy
    exact ⟨⟨rfl, e2⟩, fun out => by unfold putPiece; rw [if_pos (.inr rfl)]⟩
theorem lines_swap (ps : List PPart) : linesOf (ps.map swapPart) = linesOf ps := by unfold linesOf; rw [List.flatMap_map]; rfl
theorem merge_right (o a : List Str) : noClash (mergeOf o a o) ∧ linesOf (mergeOf o a o) = a := by
  have h := merge_left o a
  rw [swap_merge o o a]
  refine ⟨fun p hp => ?_, by rw [lines_swap]; exact h.2⟩
  obtain ⟨q, hq, rfl⟩ := List.mem_map.1 hp
  exact h.1 q hq
end Go.Proofs.Ytbnhebmfgjdocaa
