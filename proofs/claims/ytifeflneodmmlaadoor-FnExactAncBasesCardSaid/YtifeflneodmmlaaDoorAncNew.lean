/- Walks: since (with one other), AncNew. -/
import Derived.Test.YtifeflneodmmlaaDoorAncAll
import Derived.Test.YtifeflneodmmlaaDoorOnly
import Derived.Test.YtifeflneodmmlaaDoorMarkPlain
namespace Go.Proofs.YtifeflneodmmlaaDoor
open Go.RowKit

def clearPs (m : List Bool) (ps : List Int) : List Bool := ps.foldl (fun m p => m.set p.toNat false) m
theorem clearPs_snoc (m : List Bool) (ps : List Int) (p : Int) : clearPs m (ps ++ [p]) = (clearPs m ps).set p.toNat false := by unfold clearPs; rw [List.foldl_append]; rfl
theorem clearPs_len (ps : List Int) : ∀ m : List Bool, (clearPs m ps).length = m.length := by
  unfold clearPs
  induction ps with
  | nil => intro m; rfl
  | cons p ps ih => intro m; rw [List.foldl_cons, ih]; simp
theorem clearPs_getD (i : Nat) : ∀ (ps : List Int) (m : List Bool), (∀ p ∈ ps, 0 ≤ p) → (clearPs m ps).getD i false = (m.getD i false && !hasI ps (i : Int))
  | [], m, _ => by simp [clearPs, hasI]
  | p :: ps, m, h => by
    have ih := clearPs_getD i ps (m.set p.toNat false) (fun q hq => h q (by simp [hq]))
    have e : clearPs m (p :: ps) = clearPs (m.set p.toNat false) ps := rfl
    rw [e, ih]
    have hp := h p (by simp)
    by_cases hpi : p = i
    · subst hpi
      have e1 : (m.set ((i : Nat) : Int).toNat false).getD i false = false := by
        simp only [List.getD, Int.toNat_natCast]
        by_cases hi : i < m.length
        · rw [List.getElem?_set_self hi]; rfl
        · rw [List.getElem?_eq_none (by simp; omega)]; rfl
      rw [e1]; simp [hasI]
    · have e1 : (m.set p.toNat false).getD i false = m.getD i false := by
        simp only [List.getD]
        rw [List.getElem?_set_ne (by omega)]
      have e2 : hasI (p :: ps) (i : Int) = hasI ps (i : Int) := by simp [hasI, hpi]
      rw [e1, e2]
theorem idxOf_nonneg (m : List Bool) : ∀ p ∈ idxOf m, 0 ≤ p ∧ p < m.length := by
  intro p hp
  obtain ⟨k, hk, rfl⟩ := List.mem_map.1 hp
  have := List.mem_range.1 (List.mem_filter.1 hk).1
  omega
theorem idxOf_clear (m : List Bool) (ps : List Int) (h : ∀ p ∈ ps, 0 ≤ p) : idxOf (clearPs m ps) = (idxOf m).filter fun y => !hasI ps y := by
  unfold idxOf idxTo
  rw [clearPs_len, List.filter_map, List.filter_filter]
  congr 1
  refine List.filter_congr fun i _ => ?_
  rw [clearPs_getD i ps m h, Bool.and_comm]
  rfl
theorem row_set_f {m : List Bool} {p : Nat} : ((m.map fun s => (.bool s : Value)).set p (.bool false)) = (m.set p false).map fun s => .bool s := by
  rw [List.map_set]
theorem owns_bools_inv {w : World} : ∀ {m : List Bool} {us : List Value} {G : List Nat}, Owns w (m.flatMap cBools) us G → us = m.map (fun s => .bool s) ∧ G = []
  | [], _, _, h => ⟨h.1, h.2⟩
  | b :: m, _, _, ⟨u, us', F1, F2, e, f, h1, h2⟩ => by
    obtain ⟨rfl, rfl⟩ := owns_bools_inv h2
    obtain ⟨rfl, rfl⟩ : u = .bool b ∧ F1 = [] := h1
    exact ⟨e, f⟩
theorem Fresh.bools {w : World} {lo hi n c : Nat} {A : Option Addr} {m : List Bool} (h : Fresh w lo hi (encBools m) (.slice A n c)) (hn : 0 < m.length) :
    ∃ g, A = some ⟨g, 0, none⟩ ∧ lo ≤ g ∧ g < hi ∧ n = m.length ∧ w.ownsRow 0 4 1 (.slice (some ⟨g, 0, none⟩) n c) n (m.map fun s => .bool s) := by
  have hn' := Bools.n h.rep
  obtain ⟨F, ho, hnd, hk⟩ := h
  obtain ⟨us, G, hown, hF, ho2, hl, hc, hm, hA⟩ := Own.open_ ho
  obtain ⟨g, rfl⟩ := hA (by omega)
  obtain ⟨rfl, rfl⟩ := owns_bools_inv ho2
  have := hk g (by rw [hF]; simp [Value.ownBlock])
  exact ⟨g, rfl, this.1, this.2, hn', hown⟩

def ancNew (r : PRepo) (a b : Int) : List Int := if repoOk r && areIn r.commits.length [a, b] then (idxOf (ancs r.commits b.toNat)).filter fun y => !hasI (idxOf (ancs r.commits a.toNat)) y else []
theorem bnd_AncNew (r : PRepo) (a b : Int) : (ancNew r a b).length ≤ 16 := by
  unfold ancNew
  split
  · rename_i h
    simp only [Bool.and_eq_true] at h
    have := idxOf_len (ancs r.commits b.toNat)
    rw [ancs_len] at this
    have := (repoOk_iff.1 h.1).1
    have := List.length_filter_le (fun y => !hasI (idxOf (ancs r.commits a.toNat)) y) (idxOf (ancs r.commits b.toNat))
    omega
  · simp
theorem ancNew_no {r : PRepo} {a b : Int} (h : (repoOk r && areIn r.commits.length [a, b]) = false) : ancNew r a b = [] := by unfold ancNew; rw [h]; rfl
theorem ancNew_yes {r : PRepo} {a b : Nat} (h : (repoOk r && areIn r.commits.length [(a : Int), (b : Int)]) = true) : ancNew r a b = (idxOf (ancs r.commits b)).filter fun y => !hasI (idxOf (ancs r.commits a)) y := by
  unfold ancNew; rw [h]; rfl
theorem ancNew_clear {r : PRepo} {a b : Nat} (h : (repoOk r && areIn r.commits.length [(a : Int), (b : Int)]) = true) : ancNew r a b = idxOf (clearPs (ancs r.commits b) (idxOf (ancs r.commits a))) := by
  rw [ancNew_yes h, idxOf_clear _ _ (fun p hp => (idxOf_nonneg _ p hp).1)]

end Go.Proofs.YtifeflneodmmlaaDoor
