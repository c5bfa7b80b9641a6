/- Plain structures for the program's struct types, how they lie in cells, and how a slice of them is read. Printed by wip/gendata.py. -/
import Derived.Test.YteofafgleojmhaaDoorMem
namespace Go.Proofs.YteofafgleojmhaaDoor
open Go.RowKit

theorem length_flatMap_z {α β : Type} {f : α → List β} {z : Nat} (hf : ∀ x, (f x).length = z) : ∀ xs : List α, (xs.flatMap f).length = xs.length * z
  | [] => by simp
  | x :: xs => by simp only [List.flatMap_cons, List.length_append, List.length_cons, hf, length_flatMap_z hf xs, Nat.add_mul]; omega
theorem flatMap_at {α β : Type} {f : α → List β} {z : Nat} (hf : ∀ x, (f x).length = z) : ∀ (xs : List α) (k j : Nat), j < z → (xs.flatMap f)[k * z + j]? = (xs[k]?).bind fun x => (f x)[j]?
  | [], k, j, _ => by simp
  | x :: xs, 0, j, hj => by
    simp only [List.flatMap_cons, Nat.zero_mul, Nat.zero_add, List.getElem?_cons_zero, Option.bind_some]
    rw [List.getElem?_append_left (by rw [hf]; exact hj)]
  | x :: xs, k + 1, j, hj => by
    simp only [List.flatMap_cons, List.getElem?_cons_succ]
    rw [List.getElem?_append_right (by rw [hf, Nat.add_mul]; omega), hf, ← flatMap_at hf xs k j hj]
    congr 1
    rw [Nat.add_mul]; omega
section
variable {w : World} {lo hi e z n c k : Nat} {A : Option Addr} {α : Type} {f : α → List PV} {xs : List α}
theorem Rep.n_eq (hf : ∀ x, (f x).length = z) (hz : 0 < z) (h : Rep w lo hi (.sl e z (xs.flatMap f)) (.slice A n c)) : n = xs.length := by
  cases h with
  | sl us len cap max nil cell sub =>
    rw [length_flatMap_z hf] at len
    exact (Nat.eq_of_mul_eq_mul_right hz len).symm
theorem Rep.cap_ {ps : List PV} (h : Rep w lo hi (.sl e z ps) (.slice A n c)) : n ≤ c ∧ c ≤ 9223372036854775807 := by
  cases h with
  | sl us len cap max nil cell sub => exact ⟨cap, by simpa [maxLen] using max⟩
theorem Rep.shape {p : List PV} {v : Value} (h : Rep w lo hi (.sl e z p) v) : ∃ A n c, v = .slice A n c := by
  cases h with
  | sl us len cap max nil cell sub => exact ⟨_, _, _, rfl⟩
theorem Rep.elem (hf : ∀ x, (f x).length = z) (hz : 0 < z) (h : Rep w lo hi (.sl e z (xs.flatMap f)) (.slice A n c)) (hk : k < n) :
    ∃ b o x, A = some ⟨b, o, none⟩ ∧ lo ≤ b ∧ b < hi ∧ xs[k]? = some x ∧ ∀ j p, (f x)[j]? = some p → ∃ u, w.cell? ⟨b, o + k * z + j, none⟩ = some u ∧ Rep w lo hi p u := by
  have hn := h.n_eq hf hz
  cases h with
  | sl us len cap max nil cell sub =>
    obtain ⟨b, o, e1, h1, h2, hc⟩ := cell (by omega)
    have hx : xs[k]? = some (xs[k]'(by omega)) := List.getElem?_eq_getElem (by omega)
    refine ⟨b, o, _, e1, h1, h2, hx, fun j p hj => ?_⟩
    have hjz : j < z := by
      have := (List.getElem?_eq_some_iff.1 hj).1
      rwa [hf] at this
    have hp := flatMap_at hf xs k j hjz
    rw [hx, Option.bind_some, hj] at hp
    refine ⟨us (k * z + j), ?_, sub _ _ hp⟩
    rw [Nat.add_assoc]
    exact hc _ (List.getElem?_eq_some_iff.1 hp).1
theorem Rep.int_ {k : IntKind} {m : Int} {v : Value} (h : Rep w lo hi (.int k m) v) : v = .int k m := by cases h; rfl
theorem Rep.bool_ {b : Bool} {v : Value} (h : Rep w lo hi (.bool b) v) : v = .bool b := by cases h; rfl
theorem Rep.str_ {s : Str} {v : Value} (h : Rep w lo hi (.str s) v) : v = .string ⟨s.toArray⟩ := by cases h; rfl
theorem Rep.of_nil (w : World) (lo hi e z : Nat) : Rep w lo hi (.sl e z []) (.slice none 0 0) := (Fresh.nil w lo hi e z).rep
end

def cText (x : Str) : List PV := [.str x]
def encTextE (e : Nat) (xs : List Str) : PV := .sl e 1 (xs.flatMap cText)
def encText (xs : List Str) : PV := encTextE 9 xs
theorem cText_len (x : Str) : (cText x).length = 1 := rfl
theorem Text.n {w : World} {lo hi e n c : Nat} {A : Option Addr} {xs : List Str} (h : Rep w lo hi (encTextE e xs) (.slice A n c)) : n = xs.length := Rep.n_eq cText_len (by omega) h
theorem Text.cap {w : World} {lo hi e n c : Nat} {A : Option Addr} {xs : List Str} (h : Rep w lo hi (encTextE e xs) (.slice A n c)) : n ≤ c ∧ c ≤ 9223372036854775807 := Rep.cap_ h
theorem Text.at {w : World} {lo hi e n c k : Nat} {A : Option Addr} {xs : List Str} (h : Rep w lo hi (encTextE e xs) (.slice A n c)) (hk : k < n) :
    ∃ b o x, A = some ⟨b, o, none⟩ ∧ lo ≤ b ∧ b < hi ∧ xs[k]? = some x ∧ w.cell? ⟨b, o + k, none⟩ = some (.string ⟨x.toArray⟩) := by
  obtain ⟨b, o, x, hA, h1, h2, hx, hc⟩ := Rep.elem cText_len (by omega) h hk
  obtain ⟨u0, d0, r0⟩ := hc 0 _ rfl
  rw [r0.str_] at d0
  simp only [Nat.mul_one, Nat.add_zero] at *
  exact ⟨b, o, x, hA, h1, h2, hx, d0⟩
def cInts (x : Int) : List PV := [.int .i64 x]
def encIntsE (e : Nat) (xs : List Int) : PV := .sl e 1 (xs.flatMap cInts)
def encInts (xs : List Int) : PV := encIntsE 3 xs
theorem cInts_len (x : Int) : (cInts x).length = 1 := rfl
theorem Ints.n {w : World} {lo hi e n c : Nat} {A : Option Addr} {xs : List Int} (h : Rep w lo hi (encIntsE e xs) (.slice A n c)) : n = xs.length := Rep.n_eq cInts_len (by omega) h
theorem Ints.cap {w : World} {lo hi e n c : Nat} {A : Option Addr} {xs : List Int} (h : Rep w lo hi (encIntsE e xs) (.slice A n c)) : n ≤ c ∧ c ≤ 9223372036854775807 := Rep.cap_ h
theorem Ints.at {w : World} {lo hi e n c k : Nat} {A : Option Addr} {xs : List Int} (h : Rep w lo hi (encIntsE e xs) (.slice A n c)) (hk : k < n) :
    ∃ b o x, A = some ⟨b, o, none⟩ ∧ lo ≤ b ∧ b < hi ∧ xs[k]? = some x ∧ w.cell? ⟨b, o + k, none⟩ = some (.int .i64 x) := by
  obtain ⟨b, o, x, hA, h1, h2, hx, hc⟩ := Rep.elem cInts_len (by omega) h hk
  obtain ⟨u0, d0, r0⟩ := hc 0 _ rfl
  rw [r0.int_] at d0
  simp only [Nat.mul_one, Nat.add_zero] at *
  exact ⟨b, o, x, hA, h1, h2, hx, d0⟩
structure PHunk where
  at_ : Int
  less : List Str
  more : List Str
deriving DecidableEq, Inhabited
def cHunks (x : PHunk) : List PV := [.int .i64 x.at_, encText x.less, encText x.more]
def encHunksE (e : Nat) (xs : List PHunk) : PV := .sl e 3 (xs.flatMap cHunks)
def encHunks (xs : List PHunk) : PV := encHunksE 32 xs
theorem cHunks_len (x : PHunk) : (cHunks x).length = 3 := rfl
theorem Hunks.n {w : World} {lo hi e n c : Nat} {A : Option Addr} {xs : List PHunk} (h : Rep w lo hi (encHunksE e xs) (.slice A n c)) : n = xs.length := Rep.n_eq cHunks_len (by omega) h
theorem Hunks.cap {w : World} {lo hi e n c : Nat} {A : Option Addr} {xs : List PHunk} (h : Rep w lo hi (encHunksE e xs) (.slice A n c)) : n ≤ c ∧ c ≤ 9223372036854775807 := Rep.cap_ h
theorem Hunks.at {w : World} {lo hi e n c k : Nat} {A : Option Addr} {xs : List PHunk} (h : Rep w lo hi (encHunksE e xs) (.slice A n c)) (hk : k < n) :
    ∃ b o x, A = some ⟨b, o, none⟩ ∧ lo ≤ b ∧ b < hi ∧ xs[k]? = some x ∧ ∃ A1 n1 c1 A2 n2 c2, w.cell? ⟨b, o + k * 3, none⟩ = some (.int .i64 x.at_) ∧ w.cell? ⟨b, o + k * 3 + 1, none⟩ = some (.slice A1 n1 c1) ∧ Rep w lo hi (encText x.less) (.slice A1 n1 c1) ∧ w.cell? ⟨b, o + k * 3 + 2, none⟩ = some (.slice A2 n2 c2) ∧ Rep w lo hi (encText x.more) (.slice A2 n2 c2) := by
  obtain ⟨b, o, x, hA, h1, h2, hx, hc⟩ := Rep.elem cHunks_len (by omega) h hk
  obtain ⟨u0, d0, r0⟩ := hc 0 _ rfl
  rw [r0.int_] at d0
  obtain ⟨u1, d1, r1⟩ := hc 1 _ rfl
  obtain ⟨A1, n1, c1, rfl⟩ := r1.shape
  obtain ⟨u2, d2, r2⟩ := hc 2 _ rfl
  obtain ⟨A2, n2, c2, rfl⟩ := r2.shape
  simp only [Nat.add_zero] at d0
  exact ⟨b, o, x, hA, h1, h2, hx, A1, n1, c1, A2, n2, c2, d0, d1, r1, d2, r2⟩
structure PFile where
  path : Str
  text : List Str
deriving DecidableEq, Inhabited
structure PPart where
  clash : Bool
  lines : List Str
  old : List Str
  one : List Str
  two : List Str
deriving DecidableEq, Inhabited
structure PChange where
  kind : Int
  path : Str
  dest : Str
  text : List Str
  patch : List PHunk
deriving DecidableEq, Inhabited
structure PClash where
  path : Str
  kind : Int
deriving DecidableEq, Inhabited
structure PCommit where
  parents : List Int
  who : Str
  tree : List PFile
deriving DecidableEq, Inhabited
structure PHead where
  name : Str
  at_ : Int
deriving DecidableEq, Inhabited
structure PRepo where
  commits : List PCommit
  heads : List PHead
deriving DecidableEq, Inhabited
end Go.Proofs.YteofafgleojmhaaDoor
