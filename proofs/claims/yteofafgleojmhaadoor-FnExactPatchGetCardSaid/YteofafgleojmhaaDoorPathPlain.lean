/- In plain words: a text cut at a byte; names and paths. No program. -/
import Derived.Test.YteofafgleojmhaaDoorText
import Derived.Lib.SplitLaws
namespace Go.Proofs.YteofafgleojmhaaDoor
open Go.RowKit

/-- A text cut at the first k instances of a byte at most. -/
def cutN (c : UInt8) (k : Nat) (s : Str) : List Str := Lib.splitK [c] 0 k s
theorem index_one (c : UInt8) : ∀ s : Str, (Lib.index s [c] = -1 ∧ c ∉ s) ∨ ∃ p q, s = p ++ c :: q ∧ c ∉ p ∧ Lib.index s [c] = p.length
  | [] => .inl ⟨by simp [Lib.index], by simp⟩
  | b :: l => by
    rw [Lib.index]
    by_cases h : b = c
    · subst h
      exact .inr ⟨[], l, rfl, by simp, by simp [List.isPrefixOf]⟩
    · have hp : ([c] : List UInt8).isPrefixOf (b :: l) = false := by simp [List.isPrefixOf, Ne.symm h]
      rcases index_one c l with ⟨h1, h2⟩ | ⟨p, q, rfl, h1, h2⟩
      · left
        rw [hp, h1]
        exact ⟨by simp, by simp [Ne.symm h, h2]⟩
      · right
        refine ⟨b :: p, q, rfl, by simp [Ne.symm h, h1], ?_⟩
        rw [hp, h2]
        have : ((p.length : Int) == -1) = false := by simp
        simp [this]
theorem cutN_zero (c : UInt8) (s : Str) : cutN c 0 s = [s] := rfl
theorem cutN_none {c : UInt8} {s : Str} (h : c ∉ s) (k : Nat) : cutN c k s = [s] := by
  cases k with
  | zero => rfl
  | succ k =>
    unfold cutN Lib.splitK
    rcases index_one c s with ⟨h1, _⟩ | ⟨p, q, rfl, _, _⟩
    · rw [h1]; rfl
    · simp at h
theorem cutN_hit {c : UInt8} {p : Str} (h : c ∉ p) (k : Nat) (q : Str) : cutN c (k + 1) (p ++ c :: q) = p :: cutN c k q := by
  unfold cutN
  rw [Lib.splitK]
  rcases index_one c (p ++ c :: q) with ⟨_, h2⟩ | ⟨p', q', e, h1, h2⟩
  · simp at h2
  · have hl : p' = p := by
      have key : ∀ (p p' q q' : Str), p ++ c :: q = p' ++ c :: q' → c ∉ p → c ∉ p' → p' = p := by
        intro p
        induction p with
        | nil =>
          intro p' q q' e _ h1
          cases p' with
          | nil => rfl
          | cons b p' => simp at e; exact absurd e.1 (by intro e2; subst e2; simp at h1)
        | cons a p ih =>
          intro p' q q' e h h1
          cases p' with
          | nil => simp at e; exact absurd e.1 (by intro e2; subst e2; simp at h)
          | cons b p' =>
            simp at e h h1
            rw [e.1, ih p' q q' e.2 h.2 h1.2]
      exact key p p' q q' e h h1
    subst hl
    rw [h2]
    have hne : ((p'.length : Int) == -1) = false := by simp
    rw [hne]
    have e2 : (p' ++ c :: q).drop ((p'.length : Int).toNat + [c].length) = q := by
      rw [show (p'.length : Int).toNat + [c].length = (p' ++ [c]).length by simp, show p' ++ c :: q = (p' ++ [c]) ++ q by simp, List.drop_left]
    rw [e2]
    simp
theorem cutN_count (c : UInt8) : ∀ (k : Nat) (s : Str), s.count c ≤ k → cutN c k s = cutN c (s.count c) s
  | 0, s, h => by rw [show s.count c = 0 by omega]
  | k + 1, s, h => by
    rcases index_one c s with ⟨_, h1⟩ | ⟨p, q, rfl, h1, _⟩
    · rw [cutN_none h1, cutN_none h1]
    · have hc : (p ++ c :: q).count c = q.count c + 1 := by
        rw [List.count_append, List.count_cons_self, List.count_eq_zero.2 h1]; omega
      rw [hc] at h ⊢
      rw [cutN_hit h1, cutN_hit h1, cutN_count c k q (by omega)]
theorem cutN_len (c : UInt8) : ∀ (k : Nat) (s : Str), k ≤ s.count c → (cutN c k s).length = k + 1
  | 0, s, h => rfl
  | k + 1, s, h => by
    rcases index_one c s with ⟨_, h1⟩ | ⟨p, q, rfl, h1, _⟩
    · rw [List.count_eq_zero.2 h1] at h; omega
    · have hc : (p ++ c :: q).count c = q.count c + 1 := by
        rw [List.count_append, List.count_cons_self, List.count_eq_zero.2 h1]; omega
      rw [cutN_hit h1, List.length_cons, cutN_len c k q (by omega)]
theorem cutN_len_le (c : UInt8) (k : Nat) (s : Str) : (cutN c k s).length ≤ k + 1 := by
  by_cases h : k ≤ s.count c
  · rw [cutN_len c k s h]; omega
  · rw [cutN_count c k s (by omega), cutN_len c _ s (Nat.le_refl _)]; omega
theorem cutN_small (c : UInt8) : ∀ (k : Nat) (s : Str), ∀ x ∈ cutN c k s, x.length ≤ s.length
  | 0, s, x, hx => by simp [cutN_zero] at hx; subst hx; exact Nat.le_refl _
  | k + 1, s, x, hx => by
    rcases index_one c s with ⟨_, h1⟩ | ⟨p, q, rfl, h1, _⟩
    · rw [cutN_none h1] at hx; simp at hx; subst hx; exact Nat.le_refl _
    · rw [cutN_hit h1] at hx
      rcases List.mem_cons.1 hx with rfl | hx
      · simp
      · have := cutN_small c k q x hx; simp; omega

def wordB (b : UInt8) : Bool := (decide (97 ≤ b.toNat) && decide (b.toNat ≤ 122)) || (decide (48 ≤ b.toNat) && decide (b.toNat ≤ 57))
def nameOk (s : Str) : Bool := decide (1 ≤ s.length) && decide (s.length ≤ 6) && s.all wordB
/-- The pieces between strokes. -/
def pathOk (s : Str) : Bool := decide ((cutN 47 3 s).length ≤ 3) && (cutN 47 3 s).all nameOk
/-- Is p below d? -/
def below (d p : Str) : Bool := (d ++ [47]).isPrefixOf p
def pathIn (d p : Str) : Bool := pathOk d && pathOk p && below d p
theorem pathOk_full (s : Str) : pathOk s = (decide ((cutN 47 (s.count 47) s).length ≤ 3) && (cutN 47 (s.count 47) s).all nameOk) := by
  unfold pathOk
  by_cases h : s.count 47 ≤ 3
  · rw [cutN_count 47 3 s h]
  · have h1 := cutN_len 47 3 s (by omega)
    have h2 := cutN_len 47 (s.count 47) s (Nat.le_refl _)
    rw [h1, h2, decide_eq_false (by omega), decide_eq_false (by omega)]; rfl
theorem below_iff (d p : Str) : below d p = (decide (d.length < p.length) && decide (p.take d.length = d) && decide (p[d.length]? = some 47)) := by
  unfold below
  rw [Bool.eq_iff_iff]
  rw [List.isPrefixOf_iff_prefix]
  simp only [Bool.and_eq_true, decide_eq_true_eq]
  constructor
  · rintro ⟨t, rfl⟩
    simp
  · rintro ⟨⟨h1, h2⟩, h3⟩
    refine ⟨p.drop (d.length + 1), ?_⟩
    have := List.take_append_drop d.length p
    have e : p.drop d.length = 47 :: p.drop (d.length + 1) := by
      rw [List.drop_eq_getElem_cons h1]
      congr 1
      rw [List.getElem?_eq_getElem h1] at h3
      exact Option.some.inj h3
    rw [e, h2] at this
    simpa using this
end Go.Proofs.YteofafgleojmhaaDoor
