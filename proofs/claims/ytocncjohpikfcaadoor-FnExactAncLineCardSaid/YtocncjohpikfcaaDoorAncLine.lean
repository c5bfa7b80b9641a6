/- Walks: AncLine: the program's and the reference's. -/
import Derived.Test.YtocncjohpikfcaaDoorAncAll
namespace Go.Proofs.YtocncjohpikfcaaDoor
open Go.RowKit

def firstOf (cs : List PCommit) (k : Nat) : Int := ((parsOf cs k).head?).getD (-1)
def lineOf (cs : List PCommit) : Nat → Nat → List Int
  | 0, k => [(k : Int)]
  | f + 1, k => (k : Int) :: (match (parsOf cs k).head? with | none => [] | some p => lineOf cs f p.toNat)
def ancLine (r : PRepo) (a : Int) : List Int := if repoOk r && areIn r.commits.length [a] then lineOf r.commits a.toNat a.toNat else []
theorem lineOf_len (cs : List PCommit) : ∀ f k, (lineOf cs f k).length ≤ f + 1
  | 0, k => by simp [lineOf]
  | f + 1, k => by
    rw [lineOf, List.length_cons]
    cases (parsOf cs k).head? with
    | none => simp
    | some p => have := lineOf_len cs f p.toNat; simp only; omega
theorem bnd_AncLine (r : PRepo) (a : Int) : (ancLine r a).length ≤ 16 := by
  unfold ancLine
  split
  · rename_i h
    obtain ⟨h1, k, rfl, hk⟩ := are_one h
    have := lineOf_len r.commits k k
    have := (repoOk_iff.1 h1).1
    simp only [Int.toNat_natCast]
    omega
  · simp
theorem ancLine_no {r : PRepo} {a : Int} (h : (repoOk r && areIn r.commits.length [a]) = false) : ancLine r a = [] := by unfold ancLine; rw [h]; rfl
theorem ancLine_yes {r : PRepo} {a : Nat} (h : (repoOk r && areIn r.commits.length [(a : Int)]) = true) : ancLine r a = lineOf r.commits a a := by
  unfold ancLine; rw [h]; rfl
/-- One step. -/
theorem lineOf_last {cs : List PCommit} {f k : Nat} (h : (parsOf cs k).head? = none) : lineOf cs f k = [(k : Int)] := by
  cases f with
  | zero => rfl
  | succ f => rw [lineOf, h]
theorem lineOf_more {cs : List PCommit} {f k p : Nat} (h : (parsOf cs k).head? = some (p : Int)) (hp : p < k) (hk : k ≤ f) : lineOf cs f k = (k : Int) :: lineOf cs (f - 1) p := by
  cases f with
  | zero => omega
  | succ f => rw [lineOf, h]; simp
theorem pars_head {cs : List PCommit} {k : Nat} {x : PCommit} (hx : cs[k]? = some x) (hc : commitAt cs k = true) {p : Int} (hp : x.parents[0]? = some p) : (parsOf cs k).head? = some p ∧ ∃ q : Nat, p = q ∧ q < k := by
  rw [parsOf_eq hx, List.head?_eq_getElem?]
  have := pars_range hx hc p (List.mem_of_getElem? hp)
  exact ⟨hp, p.toNat, by omega, by omega⟩

set_option maxRecDepth 100000 in
set_option maxHeartbeats 800000 in
theorem impl_first_any (r : PRepo) (A0 A1 : Option Addr) (n0 c0 n1 c1 : Nat) (w : World) (lo hi : Nat) (h0 : Rep w lo hi (encCommits r.commits) (.slice A0 n0 c0)) (hh : hi ≤ w.heap.size) (k : Nat) (hk : k < n0) :
    Calls Tryd.prog 86 #[.agg #[.slice A0 n0 c0, .slice A1 n1 c1], .int .i64 k] w fun e w' => e = .returned (.int .i64 (firstOf r.commits k)) ∧ Below w.heap.size w w' := by
  have hbx := fun o => (Below.refl w.heap.size w).alloc (Nat.le_refl _) o
  have hk' : (k : Int) < (n0 : Int) := by omega
  obtain ⟨xs, hs⟩ := r
  dsimp only at *
  obtain ⟨b1, o1, x, rfl, _, hbhi, hx, B0, m0, e0, B2, m2, e2, d0, r0, d1, d2, r2⟩ := Commits.at h0 hk
  have hn0 := Ints.n r0
  obtain ⟨hpc, hpm⟩ := Ints.cap r0
  have hbl : b1 ≠ w.heap.size := by omega
  subst hn0
  by_cases hz : x.parents.length = 0
  · have hv : firstOf xs k = -1 := by unfold firstOf; rw [parsOf_eq hx, List.length_eq_zero_iff.1 hz]; rfl
    have Hv := Lib.hid hv
    have hzi : (x.parents.length : Int) = 0 := by omega
    have q0 := ((hbx (.cells #[.slice (some ⟨b1, o1, none⟩) n0 c0, .slice A1 n1 c1] 31)).cell (p := ⟨b1, o1 + k * 3, none⟩) (by show b1 < _; omega)).trans d0
    clear hv hx d1 d2 r2
    go_enter Tryd.func86, Tryd.ntmps86
    go_wp2
    go_ret
    exact ⟨ret_int Hv.out.symm, hbx _⟩
  · obtain ⟨b5, o5, q, rfl, _, hb5, hqx, f5⟩ := Ints.at r0 (k := 0) (by omega)
    have hv : firstOf xs k = q := by unfold firstOf; rw [parsOf_eq hx, List.head?_eq_getElem?, hqx]; rfl
    have Hv := Lib.hid hv
    have hzi : ¬ (x.parents.length : Int) = 0 := by omega
    have hzp : (0 : Int) < (x.parents.length : Int) := by omega
    have q0 := ((hbx (.cells #[.slice (some ⟨b1, o1, none⟩) n0 c0, .slice A1 n1 c1] 31)).cell (p := ⟨b1, o1 + k * 3, none⟩) (by show b1 < _; omega)).trans d0
    have q5 := ((hbx (.cells #[.slice (some ⟨b1, o1, none⟩) n0 c0, .slice A1 n1 c1] 31)).cell (p := ⟨b5, o5 + 0, none⟩) (by show b5 < _; omega)).trans f5
    simp only [Nat.add_zero] at q5
    clear hv hx d1 d2 r2 hqx
    go_enter Tryd.func86, Tryd.ntmps86
    go_wp2
    go_ret
    exact ⟨ret_int Hv.out.symm, hbx _⟩
end Go.Proofs.YtocncjohpikfcaaDoor
