/- Several of my texts in one: Data, Grid, DiffPlain. -/
import Derived.Test.YtenkceeicmfjhaaGreatDoorMem
/- Plain structures for the program's struct types, how they lie in cells, and how a slice of them is read. Printed by wip/gendata.py. -/
namespace Go.Proofs.YtenkceeicmfjhaaGreatDoor
open Go.RowKit

theorem length_flatMap_z {α β : Type} {f : α → List β} {z : Nat} (hf : ∀ x, (f x).length = z) : ∀ xs : List α, (xs.flatMap f).length = xs.length * z
  | [] => by simp
  | x :: xs => by simp only [List.flatMap_cons, List.length_append, List.length_cons, hf, length_flatMap_z hf xs, Nat.add_mul]; omega
theorem flatMap_at {α β : Type} {f : α → List β} {z : Nat} (hf : ∀ x, (f x).length = z) : ∀ (xs : List α) (k j : Nat), j < z → (xs.flatMap f)[k * z + j]? = (xs[k]?).bind fun x => (f x)[j]?
  | [], k, j, _ => by simp
  | x :: xs, 0, j, hj => by
    simp only [List.flatMap_cons, Nat.zero_mul, Nat.zero_add, List.getElem?_cons_zero, Option.bind_some]
    rw [List.getElem?_append_left (by rw [hf]; exact hj)]
  | x :: xs, k + 1, j, hj => by
    simp only [List.flatMap_cons, List.getElem?_cons_succ]
    rw [List.getElem?_append_right (by rw [hf, Nat.add_mul]; omega), hf, ← flatMap_at hf xs k j hj]
    congr 1
    rw [Nat.add_mul]; omega
section
variable {w : World} {lo hi e z n c k : Nat} {A : Option Addr} {α : Type} {f : α → List PV} {xs : List α}
theorem Rep.n_eq (hf : ∀ x, (f x).length = z) (hz : 0 < z) (h : Rep w lo hi (.sl e z (xs.flatMap f)) (.slice A n c)) : n = xs.length := by
  cases h with
  | sl us len cap max nil cell sub =>
    rw [length_flatMap_z hf] at len
    exact (Nat.eq_of_mul_eq_mul_right hz len).symm
theorem Rep.cap_ {ps : List PV} (h : Rep w lo hi (.sl e z ps) (.slice A n c)) : n ≤ c ∧ c ≤ 9223372036854775807 := by
  cases h with
  | sl us len cap max nil cell sub => exact ⟨cap, by simpa [maxLen] using max⟩
theorem Rep.shape {p : List PV} {v : Value} (h : Rep w lo hi (.sl e z p) v) : ∃ A n c, v = .slice A n c := by
  cases h with
  | sl us len cap max nil cell sub => exact ⟨_, _, _, rfl⟩
theorem Rep.elem (hf : ∀ x, (f x).length = z) (hz : 0 < z) (h : Rep w lo hi (.sl e z (xs.flatMap f)) (.slice A n c)) (hk : k < n) :
    ∃ b o x, A = some ⟨b, o, none⟩ ∧ lo ≤ b ∧ b < hi ∧ xs[k]? = some x ∧ ∀ j p, (f x)[j]? = some p → ∃ u, w.cell? ⟨b, o + k * z + j, none⟩ = some u ∧ Rep w lo hi p u := by
  have hn := h.n_eq hf hz
  cases h with
  | sl us len cap max nil cell sub =>
    obtain ⟨b, o, e1, h1, h2, hc⟩ := cell (by omega)
    have hx : xs[k]? = some (xs[k]'(by omega)) := List.getElem?_eq_getElem (by omega)
    refine ⟨b, o, _, e1, h1, h2, hx, fun j p hj => ?_⟩
    have hjz : j < z := by
      have := (List.getElem?_eq_some_iff.1 hj).1
      rwa [hf] at this
    have hp := flatMap_at hf xs k j hjz
    rw [hx, Option.bind_some, hj] at hp
    refine ⟨us (k * z + j), ?_, sub _ _ hp⟩
    rw [Nat.add_assoc]
    exact hc _ (List.getElem?_eq_some_iff.1 hp).1
theorem Rep.int_ {k : IntKind} {m : Int} {v : Value} (h : Rep w lo hi (.int k m) v) : v = .int k m := by cases h; rfl
theorem Rep.bool_ {b : Bool} {v : Value} (h : Rep w lo hi (.bool b) v) : v = .bool b := by cases h; rfl
theorem Rep.str_ {s : Str} {v : Value} (h : Rep w lo hi (.str s) v) : v = .string ⟨s.toArray⟩ := by cases h; rfl
theorem Rep.of_nil (w : World) (lo hi e z : Nat) : Rep w lo hi (.sl e z []) (.slice none 0 0) := (Fresh.nil w lo hi e z).rep
end

def cText (x : Str) : List PV := [.str x]
def encTextE (e : Nat) (xs : List Str) : PV := .sl e 1 (xs.flatMap cText)
def encText (xs : List Str) : PV := encTextE 9 xs
theorem cText_len (x : Str) : (cText x).length = 1 := rfl
theorem Text.n {w : World} {lo hi e n c : Nat} {A : Option Addr} {xs : List Str} (h : Rep w lo hi (encTextE e xs) (.slice A n c)) : n = xs.length := Rep.n_eq cText_len (by omega) h
theorem Text.cap {w : World} {lo hi e n c : Nat} {A : Option Addr} {xs : List Str} (h : Rep w lo hi (encTextE e xs) (.slice A n c)) : n ≤ c ∧ c ≤ 9223372036854775807 := Rep.cap_ h
theorem Text.at {w : World} {lo hi e n c k : Nat} {A : Option Addr} {xs : List Str} (h : Rep w lo hi (encTextE e xs) (.slice A n c)) (hk : k < n) :
    ∃ b o x, A = some ⟨b, o, none⟩ ∧ lo ≤ b ∧ b < hi ∧ xs[k]? = some x ∧ w.cell? ⟨b, o + k, none⟩ = some (.string ⟨x.toArray⟩) := by
  obtain ⟨b, o, x, hA, h1, h2, hx, hc⟩ := Rep.elem cText_len (by omega) h hk
  obtain ⟨u0, d0, r0⟩ := hc 0 _ rfl
  rw [r0.str_] at d0
  simp only [Nat.mul_one, Nat.add_zero] at *
  exact ⟨b, o, x, hA, h1, h2, hx, d0⟩
def cInts (x : Int) : List PV := [.int .i64 x]
def encIntsE (e : Nat) (xs : List Int) : PV := .sl e 1 (xs.flatMap cInts)
def encInts (xs : List Int) : PV := encIntsE 3 xs
theorem cInts_len (x : Int) : (cInts x).length = 1 := rfl
theorem Ints.n {w : World} {lo hi e n c : Nat} {A : Option Addr} {xs : List Int} (h : Rep w lo hi (encIntsE e xs) (.slice A n c)) : n = xs.length := Rep.n_eq cInts_len (by omega) h
theorem Ints.cap {w : World} {lo hi e n c : Nat} {A : Option Addr} {xs : List Int} (h : Rep w lo hi (encIntsE e xs) (.slice A n c)) : n ≤ c ∧ c ≤ 9223372036854775807 := Rep.cap_ h
theorem Ints.at {w : World} {lo hi e n c k : Nat} {A : Option Addr} {xs : List Int} (h : Rep w lo hi (encIntsE e xs) (.slice A n c)) (hk : k < n) :
    ∃ b o x, A = some ⟨b, o, none⟩ ∧ lo ≤ b ∧ b < hi ∧ xs[k]? = some x ∧ w.cell? ⟨b, o + k, none⟩ = some (.int .i64 x) := by
  obtain ⟨b, o, x, hA, h1, h2, hx, hc⟩ := Rep.elem cInts_len (by omega) h hk
  obtain ⟨u0, d0, r0⟩ := hc 0 _ rfl
  rw [r0.int_] at d0
  simp only [Nat.mul_one, Nat.add_zero] at *
  exact ⟨b, o, x, hA, h1, h2, hx, d0⟩
def cBools (x : Bool) : List PV := [.bool x]
def encBoolsE (e : Nat) (xs : List Bool) : PV := .sl e 1 (xs.flatMap cBools)
def encBools (xs : List Bool) : PV := encBoolsE 4 xs
theorem cBools_len (x : Bool) : (cBools x).length = 1 := rfl
theorem Bools.n {w : World} {lo hi e n c : Nat} {A : Option Addr} {xs : List Bool} (h : Rep w lo hi (encBoolsE e xs) (.slice A n c)) : n = xs.length := Rep.n_eq cBools_len (by omega) h
theorem Bools.cap {w : World} {lo hi e n c : Nat} {A : Option Addr} {xs : List Bool} (h : Rep w lo hi (encBoolsE e xs) (.slice A n c)) : n ≤ c ∧ c ≤ 9223372036854775807 := Rep.cap_ h
theorem Bools.at {w : World} {lo hi e n c k : Nat} {A : Option Addr} {xs : List Bool} (h : Rep w lo hi (encBoolsE e xs) (.slice A n c)) (hk : k < n) :
    ∃ b o x, A = some ⟨b, o, none⟩ ∧ lo ≤ b ∧ b < hi ∧ xs[k]? = some x ∧ w.cell? ⟨b, o + k, none⟩ = some (.bool x) := by
  obtain ⟨b, o, x, hA, h1, h2, hx, hc⟩ := Rep.elem cBools_len (by omega) h hk
  obtain ⟨u0, d0, r0⟩ := hc 0 _ rfl
  rw [r0.bool_] at d0
  simp only [Nat.mul_one, Nat.add_zero] at *
  exact ⟨b, o, x, hA, h1, h2, hx, d0⟩
structure PHunk where
  at_ : Int
  less : List Str
  more : List Str
deriving DecidableEq, Inhabited
structure PFile where
  path : Str
  text : List Str
deriving DecidableEq, Inhabited
def cFiles (x : PFile) : List PV := [.str x.path, encText x.text]
def encFilesE (e : Nat) (xs : List PFile) : PV := .sl e 2 (xs.flatMap cFiles)
def encFiles (xs : List PFile) : PV := encFilesE 61 xs
theorem cFiles_len (x : PFile) : (cFiles x).length = 2 := rfl
theorem Files.n {w : World} {lo hi e n c : Nat} {A : Option Addr} {xs : List PFile} (h : Rep w lo hi (encFilesE e xs) (.slice A n c)) : n = xs.length := Rep.n_eq cFiles_len (by omega) h
theorem Files.cap {w : World} {lo hi e n c : Nat} {A : Option Addr} {xs : List PFile} (h : Rep w lo hi (encFilesE e xs) (.slice A n c)) : n ≤ c ∧ c ≤ 9223372036854775807 := Rep.cap_ h
theorem Files.at {w : World} {lo hi e n c k : Nat} {A : Option Addr} {xs : List PFile} (h : Rep w lo hi (encFilesE e xs) (.slice A n c)) (hk : k < n) :
    ∃ b o x, A = some ⟨b, o, none⟩ ∧ lo ≤ b ∧ b < hi ∧ xs[k]? = some x ∧ ∃ A1 n1 c1, w.cell? ⟨b, o + k * 2, none⟩ = some (.string ⟨x.path.toArray⟩) ∧ w.cell? ⟨b, o + k * 2 + 1, none⟩ = some (.slice A1 n1 c1) ∧ Rep w lo hi (encText x.text) (.slice A1 n1 c1) := by
  obtain ⟨b, o, x, hA, h1, h2, hx, hc⟩ := Rep.elem cFiles_len (by omega) h hk
  obtain ⟨u0, d0, r0⟩ := hc 0 _ rfl
  rw [r0.str_] at d0
  obtain ⟨u1, d1, r1⟩ := hc 1 _ rfl
  obtain ⟨A1, n1, c1, rfl⟩ := r1.shape
  simp only [Nat.add_zero] at d0
  exact ⟨b, o, x, hA, h1, h2, hx, A1, n1, c1, d0, d1, r1⟩
structure PPart where
  clash : Bool
  lines : List Str
  old : List Str
  one : List Str
  two : List Str
deriving DecidableEq, Inhabited
def cParts (x : PPart) : List PV := [.bool x.clash, encText x.lines, encText x.old, encText x.one, encText x.two]
def encPartsE (e : Nat) (xs : List PPart) : PV := .sl e 5 (xs.flatMap cParts)
def encParts (xs : List PPart) : PV := encPartsE 131 xs
theorem cParts_len (x : PPart) : (cParts x).length = 5 := rfl
theorem Parts.n {w : World} {lo hi e n c : Nat} {A : Option Addr} {xs : List PPart} (h : Rep w lo hi (encPartsE e xs) (.slice A n c)) : n = xs.length := Rep.n_eq cParts_len (by omega) h
theorem Parts.cap {w : World} {lo hi e n c : Nat} {A : Option Addr} {xs : List PPart} (h : Rep w lo hi (encPartsE e xs) (.slice A n c)) : n ≤ c ∧ c ≤ 9223372036854775807 := Rep.cap_ h
theorem Parts.at {w : World} {lo hi e n c k : Nat} {A : Option Addr} {xs : List PPart} (h : Rep w lo hi (encPartsE e xs) (.slice A n c)) (hk : k < n) :
    ∃ b o x, A = some ⟨b, o, none⟩ ∧ lo ≤ b ∧ b < hi ∧ xs[k]? = some x ∧ ∃ A1 n1 c1 A2 n2 c2 A3 n3 c3 A4 n4 c4, w.cell? ⟨b, o + k * 5, none⟩ = some (.bool x.clash) ∧ w.cell? ⟨b, o + k * 5 + 1, none⟩ = some (.slice A1 n1 c1) ∧ Rep w lo hi (encText x.lines) (.slice A1 n1 c1) ∧ w.cell? ⟨b, o + k * 5 + 2, none⟩ = some (.slice A2 n2 c2) ∧ Rep w lo hi (encText x.old) (.slice A2 n2 c2) ∧ w.cell? ⟨b, o + k * 5 + 3, none⟩ = some (.slice A3 n3 c3) ∧ Rep w lo hi (encText x.one) (.slice A3 n3 c3) ∧ w.cell? ⟨b, o + k * 5 + 4, none⟩ = some (.slice A4 n4 c4) ∧ Rep w lo hi (encText x.two) (.slice A4 n4 c4) := by
  obtain ⟨b, o, x, hA, h1, h2, hx, hc⟩ := Rep.elem cParts_len (by omega) h hk
  obtain ⟨u0, d0, r0⟩ := hc 0 _ rfl
  rw [r0.bool_] at d0
  obtain ⟨u1, d1, r1⟩ := hc 1 _ rfl
  obtain ⟨A1, n1, c1, rfl⟩ := r1.shape
  obtain ⟨u2, d2, r2⟩ := hc 2 _ rfl
  obtain ⟨A2, n2, c2, rfl⟩ := r2.shape
  obtain ⟨u3, d3, r3⟩ := hc 3 _ rfl
  obtain ⟨A3, n3, c3, rfl⟩ := r3.shape
  obtain ⟨u4, d4, r4⟩ := hc 4 _ rfl
  obtain ⟨A4, n4, c4, rfl⟩ := r4.shape
  simp only [Nat.add_zero] at d0
  exact ⟨b, o, x, hA, h1, h2, hx, A1, n1, c1, A2, n2, c2, A3, n3, c3, A4, n4, c4, d0, d1, r1, d2, r2, d3, r3, d4, r4⟩
structure PChange where
  kind : Int
  path : Str
  dest : Str
  text : List Str
  patch : List PHunk
deriving DecidableEq, Inhabited
structure PClash where
  path : Str
  kind : Int
deriving DecidableEq, Inhabited
def cClashs (x : PClash) : List PV := [.str x.path, .int .i64 x.kind]
def encClashsE (e : Nat) (xs : List PClash) : PV := .sl e 2 (xs.flatMap cClashs)
def encClashs (xs : List PClash) : PV := encClashsE 79 xs
theorem cClashs_len (x : PClash) : (cClashs x).length = 2 := rfl
theorem Clashs.n {w : World} {lo hi e n c : Nat} {A : Option Addr} {xs : List PClash} (h : Rep w lo hi (encClashsE e xs) (.slice A n c)) : n = xs.length := Rep.n_eq cClashs_len (by omega) h
theorem Clashs.cap {w : World} {lo hi e n c : Nat} {A : Option Addr} {xs : List PClash} (h : Rep w lo hi (encClashsE e xs) (.slice A n c)) : n ≤ c ∧ c ≤ 9223372036854775807 := Rep.cap_ h
theorem Clashs.at {w : World} {lo hi e n c k : Nat} {A : Option Addr} {xs : List PClash} (h : Rep w lo hi (encClashsE e xs) (.slice A n c)) (hk : k < n) :
    ∃ b o x, A = some ⟨b, o, none⟩ ∧ lo ≤ b ∧ b < hi ∧ xs[k]? = some x ∧ w.cell? ⟨b, o + k * 2, none⟩ = some (.string ⟨x.path.toArray⟩) ∧ w.cell? ⟨b, o + k * 2 + 1, none⟩ = some (.int .i64 x.kind) := by
  obtain ⟨b, o, x, hA, h1, h2, hx, hc⟩ := Rep.elem cClashs_len (by omega) h hk
  obtain ⟨u0, d0, r0⟩ := hc 0 _ rfl
  rw [r0.str_] at d0
  obtain ⟨u1, d1, r1⟩ := hc 1 _ rfl
  rw [r1.int_] at d1
  simp only [Nat.add_zero] at d0
  exact ⟨b, o, x, hA, h1, h2, hx, d0, d1⟩
structure PCommit where
  parents : List Int
  who : Str
  tree : List PFile
deriving DecidableEq, Inhabited
def cCommits (x : PCommit) : List PV := [encInts x.parents, .str x.who, encFiles x.tree]
def encCommitsE (e : Nat) (xs : List PCommit) : PV := .sl e 3 (xs.flatMap cCommits)
def encCommits (xs : List PCommit) : PV := encCommitsE 50 xs
theorem cCommits_len (x : PCommit) : (cCommits x).length = 3 := rfl
theorem Commits.n {w : World} {lo hi e n c : Nat} {A : Option Addr} {xs : List PCommit} (h : Rep w lo hi (encCommitsE e xs) (.slice A n c)) : n = xs.length := Rep.n_eq cCommits_len (by omega) h
theorem Commits.cap {w : World} {lo hi e n c : Nat} {A : Option Addr} {xs : List PCommit} (h : Rep w lo hi (encCommitsE e xs) (.slice A n c)) : n ≤ c ∧ c ≤ 9223372036854775807 := Rep.cap_ h
theorem Commits.at {w : World} {lo hi e n c k : Nat} {A : Option Addr} {xs : List PCommit} (h : Rep w lo hi (encCommitsE e xs) (.slice A n c)) (hk : k < n) :
    ∃ b o x, A = some ⟨b, o, none⟩ ∧ lo ≤ b ∧ b < hi ∧ xs[k]? = some x ∧ ∃ A0 n0 c0 A2 n2 c2, w.cell? ⟨b, o + k * 3, none⟩ = some (.slice A0 n0 c0) ∧ Rep w lo hi (encInts x.parents) (.slice A0 n0 c0) ∧ w.cell? ⟨b, o + k * 3 + 1, none⟩ = some (.string ⟨x.who.toArray⟩) ∧ w.cell? ⟨b, o + k * 3 + 2, none⟩ = some (.slice A2 n2 c2) ∧ Rep w lo hi (encFiles x.tree) (.slice A2 n2 c2) := by
  obtain ⟨b, o, x, hA, h1, h2, hx, hc⟩ := Rep.elem cCommits_len (by omega) h hk
  obtain ⟨u0, d0, r0⟩ := hc 0 _ rfl
  obtain ⟨A0, n0, c0, rfl⟩ := r0.shape
  obtain ⟨u1, d1, r1⟩ := hc 1 _ rfl
  rw [r1.str_] at d1
  obtain ⟨u2, d2, r2⟩ := hc 2 _ rfl
  obtain ⟨A2, n2, c2, rfl⟩ := r2.shape
  simp only [Nat.add_zero] at d0
  exact ⟨b, o, x, hA, h1, h2, hx, A0, n0, c0, A2, n2, c2, d0, r0, d1, d2, r2⟩
structure PHead where
  name : Str
  at_ : Int
deriving DecidableEq, Inhabited
def cHeads (x : PHead) : List PV := [.str x.name, .int .i64 x.at_]
def encHeadsE (e : Nat) (xs : List PHead) : PV := .sl e 2 (xs.flatMap cHeads)
def encHeads (xs : List PHead) : PV := encHeadsE 77 xs
theorem cHeads_len (x : PHead) : (cHeads x).length = 2 := rfl
theorem Heads.n {w : World} {lo hi e n c : Nat} {A : Option Addr} {xs : List PHead} (h : Rep w lo hi (encHeadsE e xs) (.slice A n c)) : n = xs.length := Rep.n_eq cHeads_len (by omega) h
theorem Heads.cap {w : World} {lo hi e n c : Nat} {A : Option Addr} {xs : List PHead} (h : Rep w lo hi (encHeadsE e xs) (.slice A n c)) : n ≤ c ∧ c ≤ 9223372036854775807 := Rep.cap_ h
theorem Heads.at {w : World} {lo hi e n c k : Nat} {A : Option Addr} {xs : List PHead} (h : Rep w lo hi (encHeadsE e xs) (.slice A n c)) (hk : k < n) :
    ∃ b o x, A = some ⟨b, o, none⟩ ∧ lo ≤ b ∧ b < hi ∧ xs[k]? = some x ∧ w.cell? ⟨b, o + k * 2, none⟩ = some (.string ⟨x.name.toArray⟩) ∧ w.cell? ⟨b, o + k * 2 + 1, none⟩ = some (.int .i64 x.at_) := by
  obtain ⟨b, o, x, hA, h1, h2, hx, hc⟩ := Rep.elem cHeads_len (by omega) h hk
  obtain ⟨u0, d0, r0⟩ := hc 0 _ rfl
  rw [r0.str_] at d0
  obtain ⟨u1, d1, r1⟩ := hc 1 _ rfl
  rw [r1.int_] at d1
  simp only [Nat.add_zero] at d0
  exact ⟨b, o, x, hA, h1, h2, hx, d0, d1⟩
structure PRepo where
  commits : List PCommit
  heads : List PHead
deriving DecidableEq, Inhabited
def cRepos (x : PRepo) : List PV := [encCommits x.commits, encHeads x.heads]
def encReposE (e : Nat) (xs : List PRepo) : PV := .sl e 2 (xs.flatMap cRepos)
def encRepos (xs : List PRepo) : PV := encReposE 33 xs
theorem cRepos_len (x : PRepo) : (cRepos x).length = 2 := rfl
theorem Repos.n {w : World} {lo hi e n c : Nat} {A : Option Addr} {xs : List PRepo} (h : Rep w lo hi (encReposE e xs) (.slice A n c)) : n = xs.length := Rep.n_eq cRepos_len (by omega) h
theorem Repos.cap {w : World} {lo hi e n c : Nat} {A : Option Addr} {xs : List PRepo} (h : Rep w lo hi (encReposE e xs) (.slice A n c)) : n ≤ c ∧ c ≤ 9223372036854775807 := Rep.cap_ h
theorem Repos.at {w : World} {lo hi e n c k : Nat} {A : Option Addr} {xs : List PRepo} (h : Rep w lo hi (encReposE e xs) (.slice A n c)) (hk : k < n) :
    ∃ b o x, A = some ⟨b, o, none⟩ ∧ lo ≤ b ∧ b < hi ∧ xs[k]? = some x ∧ ∃ A0 n0 c0 A1 n1 c1, w.cell? ⟨b, o + k * 2, none⟩ = some (.slice A0 n0 c0) ∧ Rep w lo hi (encCommits x.commits) (.slice A0 n0 c0) ∧ w.cell? ⟨b, o + k * 2 + 1, none⟩ = some (.slice A1 n1 c1) ∧ Rep w lo hi (encHeads x.heads) (.slice A1 n1 c1) := by
  obtain ⟨b, o, x, hA, h1, h2, hx, hc⟩ := Rep.elem cRepos_len (by omega) h hk
  obtain ⟨u0, d0, r0⟩ := hc 0 _ rfl
  obtain ⟨A0, n0, c0, rfl⟩ := r0.shape
  obtain ⟨u1, d1, r1⟩ := hc 1 _ rfl
  obtain ⟨A1, n1, c1, rfl⟩ := r1.shape
  simp only [Nat.add_zero] at d0
  exact ⟨b, o, x, hA, h1, h2, hx, A0, n0, c0, A1, n1, c1, d0, r0, d1, r1⟩
end Go.Proofs.YtenkceeicmfjhaaGreatDoor

/- A slice of rows of integers that the call itself made (a table): what it holds, one store, how it reads. And the lengths of longest common subsequences, in plain words. -/
namespace Go.Proofs.YtenkceeicmfjhaaGreatDoor
open Go.RowKit

/-- The length of a longest common subsequence. -/
def lcsLen : List Str → List Str → Nat
  | [], _ => 0
  | _ :: _, [] => 0
  | x :: xs, y :: ys => if x = y then lcsLen xs ys + 1 else max (lcsLen xs (y :: ys)) (lcsLen (x :: xs) ys)
termination_by xs ys => xs.length + ys.length
/-- Entry i, j of the table of two texts. -/
def lcsAt (a b : List Str) (i j : Nat) : Int := (lcsLen (a.drop i) (b.drop j) : Nat)
theorem lcsLen_nil_right : ∀ a : List Str, lcsLen a [] = 0
  | [] => by simp [lcsLen]
  | _ :: _ => by simp [lcsLen]
theorem lcsAt_end_left {a b : List Str} {i j : Nat} (h : a.length ≤ i) : lcsAt a b i j = 0 := by
  unfold lcsAt; rw [List.drop_of_length_le h]; simp [lcsLen]
theorem lcsAt_end_right {a b : List Str} {i j : Nat} (h : b.length ≤ j) : lcsAt a b i j = 0 := by
  unfold lcsAt; rw [List.drop_of_length_le h, lcsLen_nil_right]; rfl
theorem drop_cons {α : Type} {l : List α} {i : Nat} {x : α} (h : l[i]? = some x) : l.drop i = x :: l.drop (i + 1) := by
  obtain ⟨hi, rfl⟩ := List.getElem?_eq_some_iff.1 h
  exact List.drop_eq_getElem_cons hi
theorem lcsAt_same {a b : List Str} {i j : Nat} {x y : Str} (hx : a[i]? = some x) (hy : b[j]? = some y) (h : x = y) : lcsAt a b i j = lcsAt a b (i + 1) (j + 1) + 1 := by
  subst h
  unfold lcsAt; rw [drop_cons hx, drop_cons hy, lcsLen]; simp
theorem lcsAt_other {a b : List Str} {i j : Nat} {x y : Str} (hx : a[i]? = some x) (hy : b[j]? = some y) (h : x ≠ y) : lcsAt a b i j = max (lcsAt a b (i + 1) j) (lcsAt a b i (j + 1)) := by
  unfold lcsAt; rw [drop_cons hx, drop_cons hy, lcsLen, if_neg h]; omega
theorem lcsAt_other' {a b : List Str} {i j : Nat} {x y : Str} (hx : a[i]? = some x) (hy : b[j]? = some y) (h : x ≠ y) : lcsAt a b i j = if lcsAt a b (i + 1) j < lcsAt a b i (j + 1) then lcsAt a b i (j + 1) else lcsAt a b (i + 1) j := by
  rw [lcsAt_other hx hy h]; split <;> omega
theorem lcsLen_le_left : ∀ a b : List Str, lcsLen a b ≤ a.length
  | [], _ => by simp [lcsLen]
  | _ :: _, [] => by simp [lcsLen]
  | x :: xs, y :: ys => by
    have h1 := lcsLen_le_left xs ys
    have h2 := lcsLen_le_left xs (y :: ys)
    have h3 := lcsLen_le_left (x :: xs) ys
    rw [lcsLen]
    simp only [List.length_cons] at *
    split <;> omega
termination_by xs ys => xs.length + ys.length
theorem lcsAt_bound (a b : List Str) (i j : Nat) : 0 ≤ lcsAt a b i j ∧ lcsAt a b i j ≤ a.length := by
  unfold lcsAt
  have h := lcsLen_le_left (a.drop i) (b.drop j)
  rw [List.length_drop] at h
  omega

/-- Row i of a table, as cells. -/
def rowCells (f : Nat → Nat → Int) (m i : Nat) : List Value := (List.range m).map fun j => .int .i64 (f i j)
theorem rowCells_at {f : Nat → Nat → Int} {m i j : Nat} (h : j < m) : (rowCells f m i)[j]? = some (.int .i64 (f i j)) := by simp [rowCells, h]

/-- The table: v holds the rows; each row in a block of its own. -/
structure Grid (w : World) (base : Nat) (v : Value) (G : List Nat) (m : Nat) (f : Nat → Nat → Int) : Prop where
  top : w.ownsRow base 48 1 v G.length (G.map fun g => .slice (some ⟨g, 0, none⟩) m m)
  nodup : G.Nodup
  row : ∀ i g, G[i]? = some g → w.ownsRow base 3 1 (.slice (some ⟨g, 0, none⟩) m m) m (rowCells f m i)

section
variable {w w' : World} {base m n cap gv : Nat} {v : Value} {G : List Nat} {f : Nat → Nat → Int}
theorem own_ne {e e' z z' n n' : Nat} {v v' : Value} {us us' : List Value} {g : Nat} (h : w.ownsRow base e z v n us) (h' : w.ownsRow base e' z' v' n' us') (hne : e ≠ e') (hg : v.ownBlock = some g) : v'.ownBlock ≠ some g := by
  intro hg'
  rcases h.2 with ⟨rfl, _⟩ | ⟨a, c, cur, rfl, _, hh, _⟩
  · simp [Value.ownBlock] at hg
  rcases h'.2 with ⟨rfl, _⟩ | ⟨a', c', cur', rfl, _, hh', _⟩
  · simp [Value.ownBlock] at hg'
  simp [Value.ownBlock] at hg hg'
  subst hg hg'
  rw [hh] at hh'
  simp only [Option.some.injEq, Obj.cells.injEq] at hh'
  exact hne hh'.2.1
theorem Grid.cellTop (h : Grid w base (.slice (some ⟨gv, 0, none⟩) n cap) G m f) {i g : Nat} (hg : G[i]? = some g) : w.cell? ⟨gv, i, none⟩ = some (.slice (some ⟨g, 0, none⟩) m m) := by
  have hlt := (List.getElem?_eq_some_iff.1 hg).1
  have := h.top.cells (g := gv) rfl i (.slice (some ⟨g, 0, none⟩) m m) (by simp [hg])
  simpa [Addr.add_lit] using this
theorem Grid.cell (h : Grid w base v G m f) {i j g : Nat} (hg : G[i]? = some g) (hj : j < m) : w.cell? ⟨g, j, none⟩ = some (.int .i64 (f i j)) := by
  have := (h.row i g hg).cells (g := g) rfl j _ (rowCells_at hj)
  simpa [Addr.add_lit] using this
theorem Grid.frozen (h : Grid w base v G m f) {i j g : Nat} (hg : G[i]? = some g) : w.frozen? ⟨g, j, none⟩ = false := (h.row i g hg).frozenAt j
theorem Grid.lt (h : Grid w base v G m f) {i g : Nat} (hg : G[i]? = some g) : base ≤ g ∧ g < w.heap.size := (h.row i g hg).lt g rfl
theorem ownsRow_far {e z n : Nat} {v : Value} {us : List Value} (h : w.ownsRow base e z v n us) {a : Addr} (hne : v.ownBlock ≠ some a.block) (u : Value) : (w.setCell a u).ownsRow base e z v n us := by
  refine ⟨h.1, ?_⟩
  rcases h.2 with h2 | ⟨g, cap, cur, rfl, hg, hh, r⟩
  · exact .inl h2
  · refine .inr ⟨g, cap, cur, rfl, hg, ?_, r⟩
    rw [Below.heap_setCell _ _ _ _ (fun e => hne (by simp [Value.ownBlock, e]))]
    exact hh
theorem Grid.set (h : Grid w base v G m f) {i j g : Nat} (hg : G[i]? = some g) (x : Int) :
    Grid (w.setCell ⟨g, j, none⟩ (.int .i64 x)) base v G m (fun i' j' => if i' = i ∧ j' = j then x else f i' j') := by
  refine ⟨ownsRow_far (a := ⟨g, j, none⟩) h.top (own_ne (h.row i g hg) h.top (by decide) rfl) _, h.nodup, fun i' g' hg' => ?_⟩
  by_cases hi : i' = i
  · subst hi
    rw [hg] at hg'
    obtain rfl := Option.some.inj hg'
    have hs := ((h.row i' g hg).stored j (.int .i64 x)).1
    have e1 : (rowCells f m i').set j (.int .i64 x) = rowCells (fun i' j' => if i' = i' ∧ j' = j then x else f i' j') m i' := by
      apply List.ext_getElem?
      intro k
      by_cases hk : k < m
      · rw [rowCells_at hk]
        by_cases hkj : k = j
        · subst hkj; rw [List.getElem?_set_self (by simpa [rowCells] using hk)]; simp
        · rw [List.getElem?_set_ne (by omega), rowCells_at hk]; simp [hkj]
      · rw [List.getElem?_eq_none (by simp [rowCells]; omega), List.getElem?_eq_none (by simp [rowCells]; omega)]
    rw [e1] at hs
    have e2 : rowCells (fun i'' j' => if i'' = i' ∧ j' = j then x else f i'' j') m i' = rowCells (fun i' j' => if i' = i' ∧ j' = j then x else f i' j') m i' := by
      simp [rowCells]
    rw [e2]; exact hs
  · have hne : g' ≠ g := by
      intro e
      subst e
      have h1 := List.getElem?_eq_some_iff.1 hg
      have h2 := List.getElem?_eq_some_iff.1 hg'
      exact hi ((List.getElem_inj h.nodup).1 (h2.2.trans h1.2.symm))
    have hr := ownsRow_far (h.row i' g' hg') (a := ⟨g, j, none⟩) (by simp [Value.ownBlock, hne]) (.int .i64 x)
    have e2 : rowCells (fun i'' j' => if i'' = i ∧ j' = j then x else f i'' j') m i' = rowCells f m i' := by
      simp [rowCells, hi]
    rw [e2]; exact hr
theorem Grid.keep (h : Grid w base v G m f) (hb : ∀ k, base ≤ k → k < w.heap.size → w'.heap[k]? = w.heap[k]?) : Grid w' base v G m f := by
  refine ⟨ownsRow_same h.top (fun k hk => ?_), h.nodup, fun i g hg => ownsRow_same (h.row i g hg) (fun k hk => ?_)⟩
  · have := h.top.lt k (by simpa using hk); exact hb k this.1 this.2
  · have := (h.row i g hg).lt k (by simpa using hk); exact hb k this.1 this.2
theorem Grid.drewN (h : Grid w base v G m f) (k : Nat) : Grid (w.drewN k) base v G m f := h.keep fun _ _ _ => rfl
theorem Grid.congr {f' : Nat → Nat → Int} (h : Grid w base v G m f) (he : ∀ i j, i < G.length → j < m → f i j = f' i j) : Grid w base v G m f' := by
  refine ⟨h.top, h.nodup, fun i g hg => ?_⟩
  have hlt := (List.getElem?_eq_some_iff.1 hg).1
  have e : rowCells f m i = rowCells f' m i := by
    unfold rowCells
    apply List.map_congr_left
    intro j hj
    rw [he i j hlt (by simpa using hj)]
  rw [← e]; exact h.row i g hg
theorem Grid.shape (h : Grid w base v G m f) (hG : 0 < G.length) : ∃ gv cap, v = .slice (some ⟨gv, 0, none⟩) G.length cap ∧ base ≤ gv ∧ G.length ≤ cap := by
  rcases h.top.2 with ⟨_, h0⟩ | ⟨g, cap, cur, hv, hg, _, hc, _⟩
  · omega
  · exact ⟨g, cap, hv, hg, hc⟩
end

/-- A table as plain data. -/
def cRows (r : List Int) : List PV := [encInts r]
def encRows (t : List (List Int)) : PV := .sl 48 1 (t.flatMap cRows)
theorem cRows_len (x : List Int) : (cRows x).length = 1 := rfl
end Go.Proofs.YtenkceeicmfjhaaGreatDoor

/- In plain words: the alignment of two texts, the pieces of their difference, and what is known of them. No program, no statement. -/
namespace Go.Proofs.YtenkceeicmfjhaaGreatDoor
open Go.RowKit

/-- Of each line of the first text which of the second (its lines counted from j on) it is; -1, if none. -/
def mtch : List Str → List Str → Nat → List Int
  | [], _, _ => []
  | _ :: xs, [], j => -1 :: mtch xs [] j
  | x :: xs, y :: ys, j => if x = y then (j : Int) :: mtch xs ys (j + 1) else if lcsLen (x :: xs) ys ≤ lcsLen xs (y :: ys) then -1 :: mtch xs (y :: ys) j else mtch (x :: xs) ys (j + 1)
termination_by xs ys => xs.length + ys.length

section
variable {a b : List Str} {i j : Nat} {x y : Str}
theorem mtch_same (hx : a[i]? = some x) (hy : b[j]? = some y) (h : x = y) : mtch (a.drop i) (b.drop j) j = (j : Int) :: mtch (a.drop (i + 1)) (b.drop (j + 1)) (j + 1) := by
  rw [drop_cons hx, drop_cons hy, mtch, if_pos h]
theorem mtch_end (hx : a[i]? = some x) (hj : b.length ≤ j) : mtch (a.drop i) (b.drop j) j = -1 :: mtch (a.drop (i + 1)) (b.drop j) j := by
  rw [drop_cons hx, List.drop_of_length_le hj, mtch]
theorem mtch_skip (hx : a[i]? = some x) (hy : b[j]? = some y) (h : x ≠ y) (hl : lcsAt a b i (j + 1) ≤ lcsAt a b (i + 1) j) : mtch (a.drop i) (b.drop j) j = -1 :: mtch (a.drop (i + 1)) (b.drop j) j := by
  unfold lcsAt at hl
  rw [drop_cons hx, drop_cons hy] at *
  rw [mtch, if_neg h, if_pos (by omega)]
theorem mtch_next (hx : a[i]? = some x) (hy : b[j]? = some y) (h : x ≠ y) (hl : ¬ lcsAt a b i (j + 1) ≤ lcsAt a b (i + 1) j) : mtch (a.drop i) (b.drop j) j = mtch (a.drop i) (b.drop (j + 1)) (j + 1) := by
  unfold lcsAt at hl
  rw [drop_cons hx, drop_cons hy] at *
  rw [mtch, if_neg h, if_neg (by omega)]
theorem mtch_done (h : a.length ≤ i) (bs : List Str) : mtch (a.drop i) bs j = [] := by
  rw [List.drop_of_length_le h, mtch]
end

/-- Numbers that are -1, or at lo at least and at hi at most, each higher than the ones ahead of it. -/
def Inc : Int → Int → List Int → Prop
  | _, _, [] => True
  | lo, hi, j :: ps => (j = -1 ∧ Inc lo hi ps) ∨ (lo ≤ j ∧ j ≤ hi ∧ Inc (j + 1) hi ps)
theorem Inc.mono : ∀ {ps : List Int} {lo lo' hi : Int}, Inc lo hi ps → lo' ≤ lo → Inc lo' hi ps
  | [], _, _, _, _, _ => trivial
  | j :: ps, lo, lo', hi, h, hl => by
    rcases h with ⟨h1, h2⟩ | ⟨h1, h2, h3⟩
    · exact .inl ⟨h1, h2.mono hl⟩
    · exact .inr ⟨by omega, h2, h3⟩
theorem mtch_len : ∀ (a b : List Str) (j : Nat), (mtch a b j).length = a.length
  | [], _, _ => by simp [mtch]
  | _ :: xs, [], j => by simp [mtch, mtch_len xs [] j]
  | x :: xs, y :: ys, j => by
    rw [mtch]
    split
    · simp [mtch_len xs ys (j + 1)]
    split
    · simp [mtch_len xs (y :: ys) j]
    · simpa using mtch_len (x :: xs) ys (j + 1)
termination_by xs ys => xs.length + ys.length
/-- The alignment, and the end behind it. -/
theorem mtch_inc : ∀ (a b : List Str) (j : Nat), Inc j (j + b.length) (mtch a b j ++ [((j + b.length : Nat) : Int)])
  | [], b, j => by rw [mtch]; exact .inr ⟨by omega, by omega, trivial⟩
  | _ :: xs, [], j => by
    rw [mtch]
    exact .inl ⟨rfl, mtch_inc xs [] j⟩
  | x :: xs, y :: ys, j => by
    rw [mtch]
    split
    · refine .inr ⟨by omega, by simp; omega, ?_⟩
      have := mtch_inc xs ys (j + 1)
      simpa [Int.add_assoc, Int.add_comm, Int.add_left_comm, Nat.add_assoc, Nat.add_comm, Nat.add_left_comm] using this
    split
    · exact .inl ⟨rfl, mtch_inc xs (y :: ys) j⟩
    · have := (mtch_inc (x :: xs) ys (j + 1)).mono (lo' := j) (by omega)
      simpa [Int.add_assoc, Int.add_comm, Int.add_left_comm, Nat.add_assoc, Nat.add_comm, Nat.add_left_comm] using this
termination_by xs ys => xs.length + ys.length

/-- The pieces between lines that are one. -/
def cutHunks (a b : List Str) : List Int → Nat → Nat → Nat → List PHunk
  | [], _, _, _ => []
  | j :: ps, i, fa, fb => if j < 0 then cutHunks a b ps (i + 1) fa fb else
      (if fa < i ∨ fb < j.toNat then [⟨fa, (a.drop fa).take (i - fa), (b.drop fb).take (j.toNat - fb)⟩] else []) ++ cutHunks a b ps (i + 1) (i + 1) (j.toNat + 1)
def pairsOf (a b : List Str) : List Int := mtch a b 0 ++ [(b.length : Int)]
def diffOf (a b : List Str) : List PHunk := cutHunks a b (pairsOf a b) 0 0 0
theorem pairsOf_len (a b : List Str) : (pairsOf a b).length = a.length + 1 := by simp [pairsOf, mtch_len]
theorem pairsOf_inc (a b : List Str) : Inc 0 b.length (pairsOf a b) := by
  have := mtch_inc a b 0
  simpa [pairsOf] using this
end Go.Proofs.YtenkceeicmfjhaaGreatDoor
