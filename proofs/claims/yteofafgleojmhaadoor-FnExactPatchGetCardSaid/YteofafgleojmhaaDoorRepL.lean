/- Cells that read as plain data, element by element: for slices that share their parts with others. And what owns its blocks, split. Over any program. -/
import Derived.Test.YteofafgleojmhaaDoorLit
namespace Go.Proofs.YteofafgleojmhaaDoor
open Go.RowKit

/-- The values read as the data, one each. -/
def RepL (w : World) (lo hi : Nat) (ps : List PV) (us : List Value) : Prop := us.length = ps.length ∧ ∀ (j : Nat) (p : PV), ps[j]? = some p → ∃ u : Value, us[j]? = some u ∧ Rep w lo hi p u
section
variable {w w' : World} {lo hi lo' hi' B : Nat} {ps qs : List PV} {us vs : List Value}
theorem RepL.nil (w : World) (lo hi : Nat) : RepL w lo hi [] [] := ⟨rfl, fun j p h => by simp at h⟩
theorem RepL.same (h : RepL w lo hi ps us) (hs : Same lo hi w w') : RepL w' lo hi ps us := ⟨h.1, fun j p hj => let ⟨u, hu, hr⟩ := h.2 j p hj; ⟨u, hu, hr.same hs⟩⟩
theorem RepL.mono (h : RepL w lo hi ps us) (hl : lo' ≤ lo) (hh : hi ≤ hi') : RepL w lo' hi' ps us := ⟨h.1, fun j p hj => let ⟨u, hu, hr⟩ := h.2 j p hj; ⟨u, hu, hr.mono hl hh⟩⟩
theorem RepL.keep (h : RepL w lo hi ps us) (hb : Below B w w') (hh : hi ≤ B) : RepL w' lo hi ps us := h.same (.of_below hb hh)
theorem RepL.append (h : RepL w lo hi ps us) (h' : RepL w lo hi qs vs) : RepL w lo hi (ps ++ qs) (us ++ vs) := by
  refine ⟨by simp [h.1, h'.1], fun j p hj => ?_⟩
  by_cases hlt : j < ps.length
  · rw [List.getElem?_append_left hlt] at hj
    rw [List.getElem?_append_left (by rw [h.1]; exact hlt)]
    exact h.2 j p hj
  · rw [List.getElem?_append_right (by omega)] at hj
    rw [List.getElem?_append_right (by rw [h.1]; omega), h.1]
    exact h'.2 _ p hj
theorem RepL.cons {p : PV} {u : Value} (h : Rep w lo hi p u) (h' : RepL w lo hi ps us) : RepL w lo hi (p :: ps) (u :: us) :=
  RepL.append (ps := [p]) (us := [u]) ⟨rfl, fun j q hj => by
    cases j with
    | zero => simp at hj; subst hj; exact ⟨u, rfl, h⟩
    | succ j => simp at hj⟩ h'
/-- A row of the call's own, whose cells read so. -/
theorem RepL.row {e z n base : Nat} {v : Value} (h : w.ownsRow base e z v n us) (hl : RepL w lo hi ps us) (hb : lo ≤ base) (hh : w.heap.size ≤ hi) : Rep w lo hi (.sl e z ps) v := by
  have hn : ps.length = n * z := by rw [← hl.1]; exact h.1
  rcases h.2 with ⟨rfl, h0⟩ | ⟨g, cap, cur, rfl, hg, hblk, hnc, hcm, hcs, ht⟩
  · subst h0
    have : ps = [] := List.eq_nil_of_length_eq_zero (by rw [hn]; simp)
    subst this
    exact Rep.of_nil _ _ _ _ _
  · refine .sl (fun j => us.getD j undef) hn hnc hcm (fun h => by cases h) (fun _ => ⟨g, 0, rfl, by omega, ?_, fun j hj => ?_⟩) (fun j p hj => ?_)
    · have := (h.lt g rfl).2; omega
    · have hju : j < us.length := by rw [hl.1]; exact hj
      have := h.cells (g := g) rfl j us[j] (List.getElem?_eq_getElem hju)
      simp only [Addr.add_lit] at this
      rw [this]
      simp [hju]
    · obtain ⟨u, hu, hr⟩ := hl.2 j p hj
      rw [List.getD, hu]
      exact hr
theorem Rep.cells_ {e z n c : Nat} {A : Option Addr} (h : Rep w lo hi (.sl e z ps) (.slice A n c)) : ∃ us : List Value, Src w z A n us ∧ RepL w lo hi ps us := by
  obtain ⟨us, h1, h2, h3⟩ := h.src
  exact ⟨us, h1, h2, h3⟩
end

theorem Own.shape {w : World} {e z : Nat} {ps : List PV} {v : Value} {F : List Nat} (h : Own w (.sl e z ps) v F) : ∃ A n c, v = .slice A n c := by
  obtain ⟨n, us, G, hr, _⟩ := h
  rcases hr.2 with ⟨rfl, _⟩ | ⟨g, cap, cur, rfl, _⟩
  · exact ⟨_, _, _, rfl⟩
  · exact ⟨_, _, _, rfl⟩
/-- A row whose block lies above what its cells own. -/
theorem Fresh.row_above' {w : World} {lo mid e z n : Nat} {v : Value} {ps : List PV} {us : List Value} (h : w.ownsRow mid e z v n us) (hl : FreshL w lo mid ps us) (hm : lo ≤ mid) (hh : mid ≤ w.heap.size) : Fresh w lo w.heap.size (.sl e z ps) v := by
  obtain ⟨F, ho, hn, hk⟩ := hl
  refine ⟨v.ownBlock.toList ++ F, ⟨n, us, F, ⟨h.1, ?_⟩, rfl, ho⟩, List.nodup_append.2 ⟨by cases v.ownBlock <;> simp, hn, fun a ha b hb e => ?_⟩, fun k m => ?_⟩
  · rcases h.2 with h2 | ⟨g, cap, cur, r⟩
    · exact .inl h2
    · exact .inr ⟨g, cap, cur, r.1, Nat.zero_le _, r.2.2⟩
  · subst e
    have := h.lt a (by simpa using ha)
    have := hk a hb
    omega
  · rcases List.mem_append.1 m with m | m
    · have := h.lt k (by simpa using m); omega
    · have := hk k m; omega
theorem FreshL.reps1 {w : World} {lo hi : Nat} {p0 p1 : PV} {v0 v1 : Value} (h : FreshL w lo hi [p0, p1] [v0, v1]) : Rep w lo hi p1 v1 := by
  obtain ⟨F, ho, _, hk⟩ := h
  have := Owns.rep _ _ _ ho hk 1 p1 rfl
  simpa using this
theorem FreshL.reps2 {w : World} {lo hi : Nat} {p0 p1 : PV} {v0 v1 : Value} (h : FreshL w lo hi [p0, p1] [v0, v1]) : Rep w lo hi p0 v0 ∧ Rep w lo hi p1 v1 := by
  obtain ⟨F, ho, _, hk⟩ := h
  have h0 := Owns.rep _ _ _ ho hk 0 p0 rfl
  have h1 := Owns.rep _ _ _ ho hk 1 p1 rfl
  exact ⟨by simpa using h0, by simpa using h1⟩
theorem Owns.split {w : World} : ∀ {ps qs : List PV} {us : List Value} {F : List Nat}, Owns w (ps ++ qs) us F → ∃ us1 us2 F1 F2, us = us1 ++ us2 ∧ F = F1 ++ F2 ∧ Owns w ps us1 F1 ∧ Owns w qs us2 F2
  | [], _, us, F, h => ⟨[], us, [], F, rfl, rfl, ⟨rfl, rfl⟩, h⟩
  | p :: ps, qs, us, F, ⟨u, us', F1, F2, hu, hF, h1, h2⟩ => by
    obtain ⟨v1, v2, G1, G2, e1, e2, h3, h4⟩ := Owns.split (ps := ps) (qs := qs) h2
    refine ⟨u :: v1, v2, F1 ++ G1, G2, by rw [hu, e1]; rfl, by rw [hF, e2, List.append_assoc], ⟨u, v1, F1, G1, rfl, rfl, h1, h3⟩, h4⟩
end Go.Proofs.YteofafgleojmhaaDoor
