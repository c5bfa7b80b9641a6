/- The last piece of a patch in blocks of its own: one of its two rows of lines replaced. -/
import Derived.Test.YteofafgleojmhaaDoorOwnRep
import Derived.Test.YteofafgleojmhaaDoorPush
namespace Go.Proofs.YteofafgleojmhaaDoor
open Go.RowKit

theorem own_text_inv {w : World} {xs : List Str} {v : Value} {F : List Nat} (h : Own w (encText xs) v F) : F = v.ownBlock.toList ∧ w.ownsRow 0 9 1 v xs.length (xs.map fun s => .string ⟨s.toArray⟩) := by
  obtain ⟨n, us, G, hr, hF, ho⟩ := h
  obtain ⟨rfl, rfl⟩ := owns_strs_inv ho
  have : n = xs.length := by have := hr.1; simp at this; omega
  subst this
  exact ⟨by simpa using hF, hr⟩
theorem hunk_at (d : List PHunk) (x : PHunk) {j : Nat} (hj : j < 3) : ((d ++ [x]).flatMap cHunks)[d.length * 3 + j]? = (cHunks x)[j]? := by
  rw [flatMap_at cHunks_len (d ++ [x]) d.length j hj, List.getElem?_append_right (Nat.le_refl _), Nat.sub_self]
  rfl
/-- A row of the last piece, as it lies in memory. -/
theorem Hunks.cellAt {w : World} {B hi n c j : Nat} {A : Option Addr} {d : List PHunk} {x : PHunk} {l : List Str} (h : Fresh w B hi (encHunks (d ++ [x])) (.slice A n c)) (hj : j < 3) (hp : (cHunks x)[j]? = some (encText l)) :
    ∃ g A1 c1, A = some ⟨g, 0, none⟩ ∧ n = d.length + 1 ∧ B ≤ g ∧ g < w.heap.size ∧ w.cell? ⟨g, d.length * 3 + j, none⟩ = some (.slice A1 l.length c1) ∧ w.frozen? ⟨g, d.length * 3 + j, none⟩ = false ∧
      w.ownsRow 0 9 1 (.slice A1 l.length c1) l.length (l.map fun s => .string ⟨s.toArray⟩) ∧ (Value.slice A1 l.length c1).ownBlock ≠ some g := by
  obtain ⟨us, G, hrow, ho, hnd, hb⟩ := Fresh.row_of h
  have hul := Owns.length ho
  rw [length_flatMap_z cHunks_len] at hul
  have hn : n = d.length + 1 := by have := hrow.1; simp at hul; omega
  subst hn
  have e1 := (hunk_at d x hj).trans hp
  obtain ⟨u1, Fa, F1, Fb, hu1, hG, ho1, _⟩ := Owns.at ho e1
  obtain ⟨rfl, hr1⟩ := own_text_inv ho1
  rcases hrow.2 with ⟨e, h0⟩ | ⟨g, cap, cur, e, hBg, _⟩
  · omega
  cases e
  obtain ⟨A1, c1, rfl⟩ : ∃ A1 c1, u1 = .slice A1 l.length c1 := by
    rcases hr1.2 with ⟨rfl, h0⟩ | ⟨g1, cap1, cur1, rfl, _⟩
    · exact ⟨_, _, by rw [h0]⟩
    · exact ⟨_, _, rfl⟩
  have hju : d.length * 3 + j < us.length := (List.getElem?_eq_some_iff.1 hu1).1
  have c1' := hrow.cellAt (d.length * 3 + j) (by have := hrow.1; omega)
  rw [hu1] at c1'
  have hgl := (hrow.lt g rfl).2
  refine ⟨g, A1, c1, rfl, rfl, hBg, hgl, c1', hrow.frozenAt _, hr1, fun e => ?_⟩
  have hm : g ∈ G := by rw [hG]; simp [e]
  exact (List.nodup_append.1 hnd).2.2 g (by simp [Value.ownBlock]) g hm rfl
/-- .. another row in its place: the old one grown, or a new one. -/
theorem Hunks.moreAt {W w5 : World} {B n c g j m1 c1 m5 c5 : Nat} {A1 A5 : Option Addr} {d : List PHunk} {x x' : PHunk} {l l' : List Str} {us5 : List Value} (h : Fresh W B W.heap.size (encHunks (d ++ [x])) (.slice (some ⟨g, 0, none⟩) n c)) (hj : j < 3)
    (hcell : W.cell? ⟨g, d.length * 3 + j, none⟩ = some (.slice A1 m1 c1)) (hp : (cHunks x)[j]? = some (encText l)) (hx' : cHunks x' = (cHunks x).set j (encText l'))
    (h5 : w5.ownsRow 0 9 1 (.slice A5 m5 c5) m5 us5) (hu5 : us5 = l'.map fun s => .string ⟨s.toArray⟩) (hg5 : W.grownBy w5 (Value.slice A1 m1 c1).ownBlock)
    (hblk : (Value.slice A5 m5 c5).ownBlock = (Value.slice A1 m1 c1).ownBlock ∨ (Value.slice A5 m5 c5).ownBlock = some W.heap.size) (hB : B ≤ W.heap.size) :
    Fresh (w5.setCell ⟨g, d.length * 3 + j, none⟩ (.slice A5 m5 c5)) B (w5.setCell ⟨g, d.length * 3 + j, none⟩ (.slice A5 m5 c5)).heap.size (encHunks (d ++ [x'])) (.slice (some ⟨g, 0, none⟩) n c) ∧ Below B W (w5.setCell ⟨g, d.length * 3 + j, none⟩ (.slice A5 m5 c5)) := by
  obtain ⟨us, G, hrow, ho, hnd, hb⟩ := Fresh.row_of h
  have e1 := (hunk_at d x hj).trans hp
  obtain ⟨u1, Fa, F1, Fb, hu1, hG, ho1, _⟩ := Owns.at ho e1
  have hju : d.length * 3 + j < us.length := (List.getElem?_eq_some_iff.1 hu1).1
  have c1' := hrow.cellAt (d.length * 3 + j) (by have := hrow.1; omega)
  rw [hu1, hcell] at c1'
  have hv : u1 = .slice A1 m1 c1 := (Option.some.inj c1').symm
  subst hv
  have hy : (d ++ [x])[d.length]? = some x := by simp
  have hset : (d ++ [x]).set d.length x' = d ++ [x'] := by rw [List.set_append_right _ _ (Nat.le_refl _), Nat.sub_self]; rfl
  subst hu5
  obtain ⟨F', hO, hN, hF', hon⟩ := Own.replaced cHunks_len (ownsRow_zero hrow) ho hnd (fun k m => (hb k (List.mem_append_right _ m)).2) hy hj hp hu1 (fun F1 h1 => (own_text_inv h1).1) hx' h5 (fun w => owns_strs _ _) hg5 hblk
  rw [hset] at hO
  refine ⟨⟨F', hO, hN, fun k m => ⟨?_, Own.lt _ _ _ hO k m⟩⟩, hon.below (fun k m => (hb k m).1) hB⟩
  rcases hF' k m with h9 | h9
  · exact (hb k h9).1
  · omega
end Go.Proofs.YteofafgleojmhaaDoor
