/- A patch in blocks of its own, the blocks listed: a piece behind it; a row of the last piece replaced. -/
import Derived.Test.YteofafgleojmhaaDoorHunkOwn
namespace Go.Proofs.YteofafgleojmhaaDoor
open Go.RowKit

theorem Own.rowF {w : World} {d : List PHunk} {A : Option Addr} {n c : Nat} {F : List Nat} (h : Own w (encHunks d) (.slice A n c) F) :
    ∃ us G, w.ownsRow 0 32 3 (.slice A n c) n us ∧ Owns w (d.flatMap cHunks) us G ∧ F = (Value.slice A n c).ownBlock.toList ++ G := Own.row h (fun _ _ => Nat.zero_le _)
theorem Hunks.moreF {W w5 : World} {n c g j m1 c1 m5 c5 : Nat} {A1 A5 : Option Addr} {d : List PHunk} {x x' : PHunk} {l l' : List Str} {us5 : List Value} {F : List Nat} (h : Own W (encHunks (d ++ [x])) (.slice (some ⟨g, 0, none⟩) n c) F) (hN : F.Nodup) (hj : j < 3)
    (hcell : W.cell? ⟨g, d.length * 3 + j, none⟩ = some (.slice A1 m1 c1)) (hp : (cHunks x)[j]? = some (encText l)) (hx' : cHunks x' = (cHunks x).set j (encText l'))
    (h5 : w5.ownsRow 0 9 1 (.slice A5 m5 c5) m5 us5) (hu5 : us5 = l'.map fun s => .string ⟨s.toArray⟩) (hg5 : W.grownBy w5 (Value.slice A1 m1 c1).ownBlock)
    (hblk : (Value.slice A5 m5 c5).ownBlock = (Value.slice A1 m1 c1).ownBlock ∨ (Value.slice A5 m5 c5).ownBlock = some W.heap.size) :
    ∃ F', Own (w5.setCell ⟨g, d.length * 3 + j, none⟩ (.slice A5 m5 c5)) (encHunks (d ++ [x'])) (.slice (some ⟨g, 0, none⟩) n c) F' ∧ F'.Nodup ∧ (∀ k ∈ F', k ∈ F ∨ k = W.heap.size) ∧ Only F W (w5.setCell ⟨g, d.length * 3 + j, none⟩ (.slice A5 m5 c5)) := by
  have hlt := Own.lt _ _ _ h
  obtain ⟨us, G, hrow, ho, hF⟩ := Own.rowF h
  subst hF
  have e1 := (hunk_at d x hj).trans hp
  obtain ⟨u1, Fa, F1, Fb, hu1, hG, ho1, _⟩ := Owns.at ho e1
  have hju : d.length * 3 + j < us.length := (List.getElem?_eq_some_iff.1 hu1).1
  have c1' := hrow.cellAt (d.length * 3 + j) (by have := hrow.1; omega)
  rw [hu1, hcell] at c1'
  have hv : u1 = .slice A1 m1 c1 := (Option.some.inj c1').symm
  subst hv
  have hy : (d ++ [x])[d.length]? = some x := by simp
  have hset : (d ++ [x]).set d.length x' = d ++ [x'] := by rw [List.set_append_right _ _ (Nat.le_refl _), Nat.sub_self]; rfl
  subst hu5
  obtain ⟨F', hO, hNF', hF', hon⟩ := Own.replaced cHunks_len hrow ho hN (fun k m => hlt k (List.mem_append_right _ m)) hy hj hp hu1 (fun F1 h1 => (own_text_inv h1).1) hx' h5 (fun w => owns_strs _ _) hg5 hblk
  rw [hset] at hO
  exact ⟨F', hO, hNF', hF', hon⟩
theorem owns_hunk0 (w : World) (a : Int) : Owns w (cHunks ⟨a, [], []⟩) [.int .i64 a, .slice none 0 0, .slice none 0 0] [] := by
  have e : Own w (encText []) (.slice none 0 0) [] := ⟨0, [], [], World.ownsRow_nil w 0 _ _, rfl, rfl, rfl⟩
  exact ⟨_, _, [], [], rfl, rfl, ⟨rfl, rfl⟩, _, _, [], [], rfl, rfl, e, _, _, [], [], rfl, rfl, e, rfl, rfl⟩
/-- A piece behind the others. -/
theorem Hunks.snocF {w w7 : World} {d : List PHunk} {a : Int} {A A7 : Option Addr} {n c n7 c7 : Nat} {F G : List Nat} {us : List Value} {o : Obj} (hrow : w.ownsRow 0 32 3 (.slice A n c) n us) (ho : Owns w (d.flatMap cHunks) us G) (hFe : F = (Value.slice A n c).ownBlock.toList ++ G)
    (hnd : F.Nodup) (h7 : w7.ownsRow 0 32 3 (.slice A7 n7 c7) n7 (us ++ [.int .i64 a, .slice none 0 0, .slice none 0 0])) (hg : (w.alloc o).grownBy w7 (Value.slice A n c).ownBlock)
    (hat : (Value.slice A7 n7 c7).ownBlock = (Value.slice A n c).ownBlock ∨ (Value.slice A7 n7 c7).ownBlock = some (w.heap.size + 1)) :
    ∃ F1, Own w7 (encHunks (d ++ [⟨a, [], []⟩])) (.slice A7 n7 c7) F1 ∧ F1.Nodup ∧ (∀ k ∈ F1, k ∈ F ∨ k = w.heap.size + 1) ∧ Only F w w7 := by
  subst hFe
  have hlt : ∀ k ∈ (Value.slice A n c).ownBlock.toList ++ G, k < w.heap.size := fun k m => by
    rcases List.mem_append.1 m with m | m
    · exact (hrow.lt k (by simpa using m)).2
    · exact Owns.lt _ _ _ ho k m
  have hk : ∀ k, k < w.heap.size → (w.alloc o).heap[k]? = w.heap[k]? := fun k hk => Below.heap_alloc w o k (by omega)
  have hsz : (w.alloc o).heap.size = w.heap.size + 1 := by simp
  have := Own.grew (w := w.alloc o) (Owns.same _ _ _ ho fun k m => hk k (hlt k (List.mem_append_right _ m))) hnd (fun k m => by have := hlt k m; omega) (owns_hunk0 _ a) .nil (fun k m => by cases m) (fun k m => by cases m) h7 hg (by rw [hsz]; exact hat)
  refine ⟨_, ?_, this.2.1, fun k m => ?_, ?_⟩
  · have h1 := this.1
    rwa [show d.flatMap cHunks ++ cHunks (⟨a, [], []⟩ : PHunk) = (d ++ [(⟨a, [], []⟩ : PHunk)]).flatMap cHunks by simp] at h1
  · rcases this.2.2 k m with h | h | h
    · exact .inl h
    · cases h
    · exact .inr (by omega)
  · exact (Only.of_below ((Below.refl _ _).alloc (Nat.le_refl _) o)).trans (Only.of_grown hg fun g hg => by simp [hg])
/-- The blocks are g0 or lie from B on. -/
def HunksIn (w : World) (g0 B : Nat) (d : List PHunk) (v : Value) : Prop := ∃ F, Own w (encHunks d) v F ∧ F.Nodup ∧ ∀ k ∈ F, k = g0 ∨ B ≤ k
theorem HunksIn.fresh {w : World} {g0 B : Nat} {d : List PHunk} {v : Value} (h : HunksIn w g0 B d v) (hg : g0 ≤ B) : Fresh w g0 w.heap.size (encHunks d) v := by
  obtain ⟨F, hO, hN, hb⟩ := h
  exact ⟨F, hO, hN, fun k m => ⟨by rcases hb k m with e | e <;> omega, Own.lt _ _ _ hO k m⟩⟩
theorem HunksIn.keep {w w' : World} {g0 B : Nat} {d : List PHunk} {v : Value} (h : HunksIn w g0 B d v) (hb : Below w.heap.size w w') : HunksIn w' g0 B d v := by
  obtain ⟨F, hO, hN, hk⟩ := h
  exact ⟨F, Own.same _ _ _ hO (fun k m => hb.block k (Own.lt _ _ _ hO k m)), hN, hk⟩
theorem HunksIn.start (w w1 : World) (hb : Below (w.heap.size + 1) (w.alloc (.cells #[] 32)) w1) (B : Nat) : HunksIn w1 w.heap.size B [] (.slice (some ⟨w.heap.size, 0, none⟩) 0 0) := by
  have hrow : (w.alloc (.cells #[] 32)).ownsRow w.heap.size 32 3 (.slice (some ⟨w.heap.size, 0, none⟩) 0 0) 0 [] := World.ownsRow_made w #[] 0 (Nat.le_refl _) (Nat.zero_le _) rfl
  have hrow1 := ownsRow_same (w' := w1) hrow (fun k hk => hb.block k (by simp [Value.ownBlock] at hk; omega))
  exact ⟨[w.heap.size], ⟨0, [], [], ownsRow_zero hrow1, rfl, rfl, rfl⟩, by simp, fun k m => .inl (by simpa using m)⟩
end Go.Proofs.YteofafgleojmhaaDoor
