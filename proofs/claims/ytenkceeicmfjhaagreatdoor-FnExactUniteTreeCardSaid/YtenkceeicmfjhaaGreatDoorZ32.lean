/- Several of my texts in one: AncIs2, AncAll, AncNew, BasesPlain. -/
import Derived.Test.YtenkceeicmfjhaaGreatDoorZ31
import Derived.Test.YtenkceeicmfjhaaGreatDoorZ08
/- Walks: AncIs, AncAll: the program's and the reference's. -/
namespace Go.Proofs.YtenkceeicmfjhaaGreatDoor
open Go.RowKit

theorem ancIs_no {r : PRepo} {a b : Int} (h : (repoOk r && areIn r.commits.length [a, b]) = false) : ancIs r a b = false := by unfold ancIs; rw [← Bool.and_assoc, h]; rfl
theorem ancIs_yes {r : PRepo} {a b : Nat} {x : Bool} (h : (repoOk r && areIn r.commits.length [(a : Int), (b : Int)]) = true) (hx : (ancs r.commits b)[a]? = some x) : ancIs r a b = x := by
  unfold ancIs; rw [← Bool.and_assoc, h]; simp [List.getD, hx]
theorem are_two {r : PRepo} {a b : Int} (h : (repoOk r && areIn r.commits.length [a, b]) = true) : repoOk r = true ∧ (∃ k : Nat, a = k ∧ k < r.commits.length) ∧ ∃ k : Nat, b = k ∧ k < r.commits.length := by
  simp only [areIn, List.all_cons, List.all_nil, Bool.and_eq_true, and_true] at h
  exact ⟨h.1, inRange_nat h.2.1, inRange_nat h.2.2⟩


theorem ancIs_ok {r : PRepo} {a b : Int} (h : repoOk r = false) : ancIs r a b = false := by unfold ancIs; rw [h]; rfl
theorem ancIs_a {r : PRepo} {a b : Int} (h : inRange a 0 ((r.commits.length : Int) - 1) = false) : ancIs r a b = false := by unfold ancIs areIn; simp [h]
theorem ancIs_b {r : PRepo} {a b : Int} (h : inRange b 0 ((r.commits.length : Int) - 1) = false) : ancIs r a b = false := by unfold ancIs areIn; simp [h]
theorem ancIs_in {r : PRepo} {a b : Nat} (h : repoOk r = true) (ha : inRange a 0 ((r.commits.length : Int) - 1) = true) (hb : inRange b 0 ((r.commits.length : Int) - 1) = true) : ancIs r a b = hasI (idxOf (ancs r.commits b)) a := by
  unfold ancIs areIn; rw [hasI_idx]; simp [h, ha, hb]
theorem idxOf_len (m : List Bool) : (idxOf m).length ≤ m.length := idxTo_len m m.length

end Go.Proofs.YtenkceeicmfjhaaGreatDoor

/- Walks: AncAll: the program's and the reference's. -/
namespace Go.Proofs.YtenkceeicmfjhaaGreatDoor
open Go.RowKit

def ancAll (r : PRepo) (a : Int) : List Int := if repoOk r && areIn r.commits.length [a] then idxOf (ancs r.commits a.toNat) else []
theorem bnd_AncAll (r : PRepo) (a : Int) : (ancAll r a).length ≤ 16 := by
  unfold ancAll
  split
  · rename_i h
    simp only [Bool.and_eq_true] at h
    have := idxOf_len (ancs r.commits a.toNat)
    rw [ancs_len] at this
    have := (repoOk_iff.1 h.1).1
    omega
  · simp
theorem ancAll_no {r : PRepo} {a : Int} (h : (repoOk r && areIn r.commits.length [a]) = false) : ancAll r a = [] := by unfold ancAll; rw [h]; rfl
theorem ancAll_yes {r : PRepo} {a : Nat} (h : (repoOk r && areIn r.commits.length [(a : Int)]) = true) : ancAll r a = idxOf (ancs r.commits a) := by
  unfold ancAll; rw [h]; rfl
theorem are_one {r : PRepo} {a : Int} (h : (repoOk r && areIn r.commits.length [a]) = true) : repoOk r = true ∧ ∃ k : Nat, a = k ∧ k < r.commits.length := by
  simp only [areIn, List.all_cons, List.all_nil, Bool.and_eq_true, and_true] at h
  exact ⟨h.1, inRange_nat h.2⟩
theorem fresh_none (w w' : World) (h : w.heap.size ≤ w'.heap.size) : Fresh w' w.heap.size w'.heap.size (encInts []) (.slice none 0 0) := (Fresh.of_row (World.ownsRow_nil w' w'.heap.size _ _) (owns_ints w' [])).mono h (Nat.le_refl _)


theorem ancAll_ok {r : PRepo} {a : Int} (h : repoOk r = false) : ancAll r a = [] := ancAll_no (by rw [h]; rfl)
theorem ancAll_a {r : PRepo} {a : Int} (h : inRange a 0 ((r.commits.length : Int) - 1) = false) : ancAll r a = [] := ancAll_no (by unfold areIn; simp [h])
theorem ancAll_in {r : PRepo} {a : Nat} (h : repoOk r = true) (ha : inRange a 0 ((r.commits.length : Int) - 1) = true) : ancAll r a = idxOf (ancs r.commits a) := ancAll_yes (by unfold areIn; simp [h, ha])

end Go.Proofs.YtenkceeicmfjhaaGreatDoor

/- Walks: since (with one other), AncNew. -/
namespace Go.Proofs.YtenkceeicmfjhaaGreatDoor
open Go.RowKit

def clearPs (m : List Bool) (ps : List Int) : List Bool := ps.foldl (fun m p => m.set p.toNat false) m
theorem clearPs_snoc (m : List Bool) (ps : List Int) (p : Int) : clearPs m (ps ++ [p]) = (clearPs m ps).set p.toNat false := by unfold clearPs; rw [List.foldl_append]; rfl
theorem clearPs_len (ps : List Int) : ∀ m : List Bool, (clearPs m ps).length = m.length := by
  unfold clearPs
  induction ps with
  | nil => intro m; rfl
  | cons p ps ih => intro m; rw [List.foldl_cons, ih]; simp
theorem clearPs_getD (i : Nat) : ∀ (ps : List Int) (m : List Bool), (∀ p ∈ ps, 0 ≤ p) → (clearPs m ps).getD i false = (m.getD i false && !hasI ps (i : Int))
  | [], m, _ => by simp [clearPs, hasI]
  | p :: ps, m, h => by
    have ih := clearPs_getD i ps (m.set p.toNat false) (fun q hq => h q (by simp [hq]))
    have e : clearPs m (p :: ps) = clearPs (m.set p.toNat false) ps := rfl
    rw [e, ih]
    have hp := h p (by simp)
    by_cases hpi : p = i
    · subst hpi
      have e1 : (m.set ((i : Nat) : Int).toNat false).getD i false = false := by
        simp only [List.getD, Int.toNat_natCast]
        by_cases hi : i < m.length
        · rw [List.getElem?_set_self hi]; rfl
        · rw [List.getElem?_eq_none (by simp; omega)]; rfl
      rw [e1]; simp [hasI]
    · have e1 : (m.set p.toNat false).getD i false = m.getD i false := by
        simp only [List.getD]
        rw [List.getElem?_set_ne (by omega)]
      have e2 : hasI (p :: ps) (i : Int) = hasI ps (i : Int) := by simp [hasI, hpi]
      rw [e1, e2]
theorem idxOf_nonneg (m : List Bool) : ∀ p ∈ idxOf m, 0 ≤ p ∧ p < m.length := by
  intro p hp
  obtain ⟨k, hk, rfl⟩ := List.mem_map.1 hp
  have := List.mem_range.1 (List.mem_filter.1 hk).1
  omega
theorem idxOf_clear (m : List Bool) (ps : List Int) (h : ∀ p ∈ ps, 0 ≤ p) : idxOf (clearPs m ps) = (idxOf m).filter fun y => !hasI ps y := by
  unfold idxOf idxTo
  rw [clearPs_len, List.filter_map, List.filter_filter]
  congr 1
  refine List.filter_congr fun i _ => ?_
  rw [clearPs_getD i ps m h, Bool.and_comm]
  rfl
theorem row_set_f {m : List Bool} {p : Nat} : ((m.map fun s => (.bool s : Value)).set p (.bool false)) = (m.set p false).map fun s => .bool s := by
  rw [List.map_set]
theorem owns_bools_inv {w : World} : ∀ {m : List Bool} {us : List Value} {G : List Nat}, Owns w (m.flatMap cBools) us G → us = m.map (fun s => .bool s) ∧ G = []
  | [], _, _, h => ⟨h.1, h.2⟩
  | b :: m, _, _, ⟨u, us', F1, F2, e, f, h1, h2⟩ => by
    obtain ⟨rfl, rfl⟩ := owns_bools_inv h2
    obtain ⟨rfl, rfl⟩ : u = .bool b ∧ F1 = [] := h1
    exact ⟨e, f⟩
theorem Fresh.bools {w : World} {lo hi n c : Nat} {A : Option Addr} {m : List Bool} (h : Fresh w lo hi (encBools m) (.slice A n c)) (hn : 0 < m.length) :
    ∃ g, A = some ⟨g, 0, none⟩ ∧ lo ≤ g ∧ g < hi ∧ n = m.length ∧ w.ownsRow 0 4 1 (.slice (some ⟨g, 0, none⟩) n c) n (m.map fun s => .bool s) := by
  have hn' := Bools.n h.rep
  obtain ⟨F, ho, hnd, hk⟩ := h
  obtain ⟨us, G, hown, hF, ho2, hl, hc, hm, hA⟩ := Own.open_ ho
  obtain ⟨g, rfl⟩ := hA (by omega)
  obtain ⟨rfl, rfl⟩ := owns_bools_inv ho2
  have := hk g (by rw [hF]; simp [Value.ownBlock])
  exact ⟨g, rfl, this.1, this.2, hn', hown⟩

def ancNew (r : PRepo) (a b : Int) : List Int := if repoOk r && areIn r.commits.length [a, b] then (idxOf (ancs r.commits b.toNat)).filter fun y => !hasI (idxOf (ancs r.commits a.toNat)) y else []
theorem bnd_AncNew (r : PRepo) (a b : Int) : (ancNew r a b).length ≤ 16 := by
  unfold ancNew
  split
  · rename_i h
    simp only [Bool.and_eq_true] at h
    have := idxOf_len (ancs r.commits b.toNat)
    rw [ancs_len] at this
    have := (repoOk_iff.1 h.1).1
    have := List.length_filter_le (fun y => !hasI (idxOf (ancs r.commits a.toNat)) y) (idxOf (ancs r.commits b.toNat))
    omega
  · simp
theorem ancNew_no {r : PRepo} {a b : Int} (h : (repoOk r && areIn r.commits.length [a, b]) = false) : ancNew r a b = [] := by unfold ancNew; rw [h]; rfl
theorem ancNew_yes {r : PRepo} {a b : Nat} (h : (repoOk r && areIn r.commits.length [(a : Int), (b : Int)]) = true) : ancNew r a b = (idxOf (ancs r.commits b)).filter fun y => !hasI (idxOf (ancs r.commits a)) y := by
  unfold ancNew; rw [h]; rfl
theorem ancNew_clear {r : PRepo} {a b : Nat} (h : (repoOk r && areIn r.commits.length [(a : Int), (b : Int)]) = true) : ancNew r a b = idxOf (clearPs (ancs r.commits b) (idxOf (ancs r.commits a))) := by
  rw [ancNew_yes h, idxOf_clear _ _ (fun p hp => (idxOf_nonneg _ p hp).1)]

end Go.Proofs.YtenkceeicmfjhaaGreatDoor

/- The plain law of AncBases: the clearing of marks = the filter. And slices.Clone at []bool. -/
namespace Go.Proofs.YtenkceeicmfjhaaGreatDoor
open Go.RowKit

/-- The common ones. -/
def bothM (ma mb : List Bool) : List Bool := (List.range ma.length).map fun i => ma.getD i false && mb.getD i false
/-- From none of the list another than p, which is this one. -/
def best (cs : List PCommit) (both : List Int) (q : Int) : Bool := both.all fun p => p == q || !hasI (idxOf (ancs cs p.toNat)) q
/-- As the program clears. -/
def clearAll (cs : List PCommit) (m : List Bool) (ps : List Int) : List Bool := ps.foldl (fun m p => clearPs m ((idxOf (ancs cs p.toNat)).filter fun y => !(y == p))) m
theorem clearAll_len (cs : List PCommit) (ps : List Int) : ∀ m : List Bool, (clearAll cs m ps).length = m.length := by
  unfold clearAll
  induction ps with
  | nil => intro m; rfl
  | cons p ps ih => intro m; rw [List.foldl_cons, ih, clearPs_len]
theorem clearAll_snoc (cs : List PCommit) (m : List Bool) (ps : List Int) (p : Int) : clearAll cs m (ps ++ [p]) = clearPs (clearAll cs m ps) ((idxOf (ancs cs p.toNat)).filter fun y => !(y == p)) := by unfold clearAll; rw [List.foldl_append]; rfl
theorem hasI_filter (xs : List Int) (p q : Int) : hasI (xs.filter fun y => !(y == p)) q = (!(q == p) && hasI xs q) := by
  unfold hasI
  rw [List.any_filter]
  induction xs with
  | nil => simp
  | cons x xs ih =>
    simp only [List.any_cons, ih]
    by_cases h : x = q
    · subst h; cases h2 : (x == p) <;> simp
    · have : (x == q) = false := by simp [h]
      simp [this]
theorem clearAll_getD (cs : List PCommit) (i : Nat) : ∀ (ps : List Int) (m : List Bool), (clearAll cs m ps).getD i false = (m.getD i false && best cs ps (i : Int))
  | [], m => by simp [clearAll, best]
  | p :: ps, m => by
    have e : clearAll cs m (p :: ps) = clearAll cs (clearPs m ((idxOf (ancs cs p.toNat)).filter fun y => !(y == p))) ps := rfl
    rw [e, clearAll_getD cs i ps, clearPs_getD _ _ _ (fun q hq => (idxOf_nonneg _ q ((List.mem_filter.1 hq).1)).1), hasI_filter]
    unfold best
    simp only [List.all_cons]
    have hs : ((i : Int) == p) = (p == (i : Int)) := by
      rw [Bool.eq_iff_iff, beq_iff_eq, beq_iff_eq]; exact eq_comm
    rw [hs]
    cases (p == (i : Int)) <;> cases hasI (idxOf (ancs cs p.toNat)) (i : Int) <;> cases m.getD i false <;> simp
theorem idxOf_pick {m m' : List Bool} {f : Int → Bool} (hl : m'.length = m.length) (h : ∀ i : Nat, m'.getD i false = (m.getD i false && f i)) : idxOf m' = (idxOf m).filter f := by
  unfold idxOf idxTo
  rw [hl, List.filter_map, List.filter_filter]
  congr 1
  refine List.filter_congr fun i _ => ?_
  rw [h i, Bool.and_comm]
  rfl
theorem bases_law (cs : List PCommit) (m : List Bool) : idxOf (clearAll cs m (idxOf m)) = (idxOf m).filter (best cs (idxOf m)) :=
  idxOf_pick (clearAll_len _ _ _) fun i => clearAll_getD cs i _ _
theorem bothM_getD (ma mb : List Bool) (h : mb.length = ma.length) (i : Nat) : (bothM ma mb).getD i false = (ma.getD i false && mb.getD i false) := by
  unfold bothM
  by_cases hi : i < ma.length
  · simp [List.getD, hi]
  · simp [List.getD, List.getElem?_eq_none (show mb.length ≤ i by omega), hi]
theorem bothM_idx (ma mb : List Bool) (h : mb.length = ma.length) : idxOf (bothM ma mb) = (idxOf ma).filter (hasI (idxOf mb)) :=
  idxOf_pick (by simp [bothM]) fun i => by rw [bothM_getD _ _ h, hasI_idx]
/-- The reference looks by places: the list is without twins. -/
theorem idxOf_nodup (m : List Bool) : (idxOf m).Nodup := by
  unfold idxOf idxTo
  refine List.Pairwise.map _ (fun a b (h : a ≠ b) => by omega) ?_
  exact List.Nodup.sublist List.filter_sublist List.nodup_range
def bestAt (cs : List PCommit) (both : List Int) (i k : Nat) : Bool := (List.range k).all fun j => decide (j = i) || !hasI (idxOf (ancs cs (both.getD j 0).toNat)) (both.getD i 0)
theorem bestAt_succ (cs : List PCommit) (both : List Int) (i k : Nat) : bestAt cs both i (k + 1) = (bestAt cs both i k && (decide (k = i) || !hasI (idxOf (ancs cs (both.getD k 0).toNat)) (both.getD i 0))) := by
  unfold bestAt
  rw [List.range_succ, List.all_append]
  simp
theorem bestAt_all (cs : List PCommit) {both : List Int} (hn : both.Nodup) {i : Nat} {q : Int} (hi : both[i]? = some q) : bestAt cs both i both.length = best cs both q := by
  have hq : both.getD i 0 = q := by simp [List.getD, hi]
  have hil := (List.getElem?_eq_some_iff.1 hi).1
  unfold bestAt best
  rw [hq, Bool.eq_iff_iff, List.all_eq_true, List.all_eq_true]
  constructor
  · intro h p hp
    obtain ⟨j, hj⟩ := List.getElem?_of_mem hp
    have hjl := (List.getElem?_eq_some_iff.1 hj).1
    have := h j (List.mem_range.2 hjl)
    have hpj : both.getD j 0 = p := by simp [List.getD, hj]
    rw [hpj] at this
    by_cases hji : j = i
    · subst hji
      have : p = q := Option.some.inj (hj.symm.trans hi)
      simp [this]
    · simp only [hji, decide_false, Bool.false_or] at this
      simp only [this, Bool.or_true]
  · intro h j hj
    have hjl := List.mem_range.1 hj
    obtain ⟨p, hp⟩ : ∃ p, both[j]? = some p := ⟨_, List.getElem?_eq_getElem hjl⟩
    have hpj : both.getD j 0 = p := by simp [List.getD, hp]
    have := h p (List.mem_of_getElem? hp)
    rw [hpj]
    by_cases hpq : p = q
    · have : j = i := by
        subst hpq
        have e1 := (List.getElem?_eq_some_iff.1 hp).2
        have e2 := (List.getElem?_eq_some_iff.1 hi).2
        exact (List.getElem_inj hn).1 (e1.trans e2.symm)
      simp [this]
    · have hb : (p == q) = false := by simp [hpq]
      rw [hb, Bool.false_or] at this
      simp only [this, Bool.or_true]
theorem Bools.src {w : World} {lo hi e n c : Nat} {A : Option Addr} {xs : List Bool} (h : Rep w lo hi (encBoolsE e xs) (.slice A n c)) : Src w 1 A n (xs.map fun s => .bool s) := by
  refine ⟨by rw [Bools.n h]; simp, fun hn => ?_⟩
  obtain ⟨b, o, _, hA, _⟩ := Bools.at h hn
  refine ⟨b, o, hA, fun j u hu => ?_⟩
  have hj : j < n := by have := (List.getElem?_eq_some_iff.1 hu).1; rw [Bools.n h]; simpa using this
  obtain ⟨b', o', x, hA', _, _, hx, hc⟩ := Bools.at h hj
  rw [hA] at hA'
  simp only [Option.some.injEq, Addr.mk.injEq, and_true] at hA'
  obtain ⟨rfl, rfl⟩ := hA'
  rw [List.getElem?_map, hx] at hu
  simp at hu
  rw [← hu]; exact hc

set_option maxHeartbeats 800000 in
theorem clone_bools_any (b n c : Nat) (xs : List Bool) (w : World) (lo hi : Nat) (h : Rep w lo hi (encBools xs) (.slice (some ⟨b, 0, none⟩) n c)) (hh : hi ≤ w.heap.size) (hm8 : xs.length ≤ 1048576) :
    Calls Tryz.prog 71 #[.slice (some ⟨b, 0, none⟩) n c] w fun e w' => ∃ A n c, e = .returned (.slice A n c) ∧ Below w.heap.size w w' ∧ Fresh w' w.heap.size w'.heap.size (encBools xs) (.slice A n c) := by
  have hl := Bools.n h
  obtain ⟨hc, hm⟩ := Bools.cap h
  subst hl
  obtain ⟨i, hi0, hi1, hi2, hi3⟩ := info_parts Tryz.infoBool
  have hb : Below w.heap.size w (w.alloc (.cells #[] 4)) := (Below.refl _ _).alloc (Nat.le_refl _) _
  have hS := Bools.src (h.keep hb hh)
  have qe : ∀ (w : World) (a : Option Addr) (n c n' c' : Nat), (binOp .eql 108 (.slice a n c) (.slice none n' c')).run Tryz.prog w = .ok (.bool a.isNone) w := fun w a n c n' c' => Lib.run_eql_slice_nil w _ _ a n c n' c' Tryz.underlying108
  go_enter Tryz.func71, Tryz.ntmps71
  go_wp2_with (at_builtin; refine wpList_append_src _ rfl (.tmp 5) (.tmp 6) _ rfl w.heap.size 4 i _ 1 1 Tryz.underlying108 hi0 hi1 hi2 hi3 rfl (by omega) _ 0 _ rfl (World.ownsRow_made w #[] 0 (Nat.le_refl _) (Nat.zero_le _) rfl) _ xs.length c _ rfl hS ?e2 ?e3 ?e4 ?e5 ?_)
  case e2 => intro u hu; obtain ⟨s, _, rfl⟩ := List.mem_map.1 hu; rfl
  case e3 => unfold maxLen; omega
  case e4 => omega
  case e5 => simp
  intro A' c' w3 hown hg _
  have hb3 := hb.grown hg (by simp) (fun g hg => by simp [Value.ownBlock] at hg; omega)
  go_wp2
  go_ret
  exact ⟨_, _, _, rfl, hb3, Fresh.of_row hown (owns_bools _ _)⟩
end Go.Proofs.YtenkceeicmfjhaaGreatDoor
