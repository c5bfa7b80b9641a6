/- A struct's own block that a drawn region makes and fills beside two fresh rows. -/
import Derived.Test.YtianpeokdojkbaaDoorBack2
import Derived.Deep.RegionHeld
namespace Go.Proofs.YtianpeokdojkbaaDoor
open Go.RowKit

theorem hl_new (w : World) (o : Obj) (k : Nat) (h : k = w.heap.size) : (w.alloc o).heap[k]? = some o := by subst h; show (w.heap.push o)[w.heap.size]? = some o; simp
theorem hl_old {w : World} {o : Obj} (o' : Obj) {k : Nat} (h : w.heap[k]? = some o) : (w.alloc o').heap[k]? = some o := (Below.heap_alloc w o' k (Array.getElem?_eq_some_iff.1 h).1).trans h
theorem hl_drew {w : World} {o : Obj} {k : Nat} (h : w.heap[k]? = some o) : w.drew.heap[k]? = some o := h
theorem blk_kept {w w' : World} {row : Option Nat} (h : w.grownBy w' row) : ∀ (k : Nat) (o : Obj), w.heap[k]? = some o → some k ≠ row → w'.heap[k]? = some o := fun k _ h1 h2 =>
  (h.block k (Array.getElem?_eq_some_iff.1 h1).1 h2).trans h1
theorem box_cells {w : World} {g t : Nat} {a b c : Value} (h : w.heap[g]? = some (.cells #[a, b, c] t (0, 0))) : w.cell? ⟨g, 0, none⟩ = some a ∧ w.cell? ⟨g, 1, none⟩ = some b ∧ w.cell? ⟨g, 2, none⟩ = some c ∧
    w.frozen? ⟨g, 0, none⟩ = false ∧ w.frozen? ⟨g, 1, none⟩ = false ∧ w.frozen? ⟨g, 2, none⟩ = false := by
  simp [World.cell?, World.frozen?, h]
theorem ownsRow_empty {w : World} {base e z g : Nat} (hg : base ≤ g) (h : w.heap[g]? = some (.cells #[] e (0, 0))) : w.ownsRow base e z (.slice (some ⟨g, 0, none⟩) 0 0) 0 [] :=
  ⟨by simp, .inr ⟨g, 0, #[], rfl, hg, h, Nat.zero_le _, Nat.zero_le _, by simp, by simp⟩⟩
theorem box_set {w : World} {g : Nat} {a b c u0 u1 u2 : Value} (h0 : w.cell? ⟨g, 0, none⟩ = some a) (h1 : w.cell? ⟨g, 1, none⟩ = some b) (h2 : w.cell? ⟨g, 2, none⟩ = some c) :
    (((w.setCell ⟨g, 0, none⟩ u0).setCell ⟨g, 1, none⟩ u1).setCell ⟨g, 2, none⟩ u2).cell? ⟨g, 0, none⟩ = some u0 ∧
    (((w.setCell ⟨g, 0, none⟩ u0).setCell ⟨g, 1, none⟩ u1).setCell ⟨g, 2, none⟩ u2).cell? ⟨g, 1, none⟩ = some u1 ∧
    (((w.setCell ⟨g, 0, none⟩ u0).setCell ⟨g, 1, none⟩ u1).setCell ⟨g, 2, none⟩ u2).cell? ⟨g, 2, none⟩ = some u2 := by
  have n01 : (⟨g, 0, none⟩ : Addr) ≠ ⟨g, 1, none⟩ := by simp
  have n02 : (⟨g, 0, none⟩ : Addr) ≠ ⟨g, 2, none⟩ := by simp
  have n12 : (⟨g, 1, none⟩ : Addr) ≠ ⟨g, 2, none⟩ := by simp
  refine ⟨?_, ?_, ?_⟩
  · rw [World.cell?_setCell_other _ _ _ _ (by simp), World.cell?_setCell_other _ _ _ _ (by simp)]
    exact World.cell?_setCell_same _ _ _ h0
  · rw [World.cell?_setCell_other _ _ _ _ (by simp)]
    refine World.cell?_setCell_same _ _ _ (?_ : _ = some b)
    rw [World.cell?_setCell_other _ _ _ _ (by simp)]
    exact h1
  · refine World.cell?_setCell_same _ _ _ (?_ : _ = some c)
    rw [World.cell?_setCell_other _ _ _ _ (by simp), World.cell?_setCell_other _ _ _ _ (by simp)]
    exact h2
theorem keep3 {wr W : World} {b o : Nat} {u0 u1 u2 : Value} (hb : Below wr.heap.size wr W) (hl : b < wr.heap.size) (h0 : wr.cell? ⟨b, o, none⟩ = some u0) (h1 : wr.cell? ⟨b, o + 1, none⟩ = some u1) (h2 : wr.cell? ⟨b, o + 2, none⟩ = some u2) :
    W.cell? ⟨b, o, none⟩ = some u0 ∧ W.cell? ⟨b, o + 1, none⟩ = some u1 ∧ W.cell? ⟨b, o + 2, none⟩ = some u2 :=
  ⟨(hb.cell (p := ⟨b, o, none⟩) hl).trans h0, (hb.cell (p := ⟨b, o + 1, none⟩) hl).trans h1, (hb.cell (p := ⟨b, o + 2, none⟩) hl).trans h2⟩
theorem box_rel {wr w6 WF : World} {h c5 c6 : Nat} {x : PHunk} {A5 A6 : Option Addr}
    (hX5 : w6.ownsRow wr.heap.size 9 1 (.slice A5 x.less.length c5) x.less.length (x.less.map fun s => .string ⟨s.toArray⟩))
    (hX6 : w6.ownsRow wr.heap.size 9 1 (.slice A6 x.more.length c6) x.more.length (x.more.map fun s => .string ⟨s.toArray⟩))
    (hne : ∀ g, (Value.slice A5 x.less.length c5).ownBlock = some g → (Value.slice A6 x.more.length c6).ownBlock ≠ some g)
    (h5 : ∀ g, (Value.slice A5 x.less.length c5).ownBlock = some g → g ≠ h) (h6 : ∀ g, (Value.slice A6 x.more.length c6).ownBlock = some g → g ≠ h)
    (hkeep : ∀ q, q < w6.heap.size → q ≠ h → WF.heap[q]? = w6.heap[q]?) (hsz : w6.heap.size ≤ WF.heap.size) (hh0 : wr.heap.size ≤ h) (hh1 : h < WF.heap.size) (hb : Below wr.heap.size wr WF) (kz : WF.frozen? ⟨h, 0, none⟩ = false)
    (k0 : WF.cell? ⟨h, 0, none⟩ = some (.int .i64 x.at_)) (k1 : WF.cell? ⟨h, 1, none⟩ = some (.slice A5 x.less.length c5)) (k2 : WF.cell? ⟨h, 2, none⟩ = some (.slice A6 x.more.length c6)) :
    ∃ (g : Nat) (F : List Nat) (A5 A6 : Option Addr) (c5 c6 : Nat), Value.pointer (some ⟨h, 0, none⟩) = .pointer (some ⟨g, 0, none⟩) ∧ wr.heap.size ≤ g ∧ g < WF.heap.size ∧ g ∉ F ∧ F.Nodup ∧ (∀ q ∈ F, wr.heap.size ≤ q ∧ q < WF.heap.size) ∧ Below wr.heap.size wr WF ∧ WF.frozen? ⟨g, 0, none⟩ = false ∧
        WF.cell? ⟨g, 0, none⟩ = some (.int .i64 x.at_) ∧ WF.cell? ⟨g, 1, none⟩ = some (.slice A5 x.less.length c5) ∧ WF.cell? ⟨g, 2, none⟩ = some (.slice A6 x.more.length c6) ∧ Owns WF (cHunks x) [.int .i64 x.at_, .slice A5 x.less.length c5, .slice A6 x.more.length c6] F := by
  have hF : ∀ q ∈ (Value.slice A5 x.less.length c5).ownBlock.toList ++ (Value.slice A6 x.more.length c6).ownBlock.toList, wr.heap.size ≤ q ∧ q < w6.heap.size ∧ q ≠ h := fun q hq => by
    rcases List.mem_append.1 hq with m | m
    · have := hX5.lt q (by simpa using m); exact ⟨this.1, this.2, h5 q (by simpa using m)⟩
    · have := hX6.lt q (by simpa using m); exact ⟨this.1, this.2, h6 q (by simpa using m)⟩
  refine ⟨h, (Value.slice A5 x.less.length c5).ownBlock.toList ++ (Value.slice A6 x.more.length c6).ownBlock.toList, A5, A6, c5, c6, rfl, hh0, hh1, fun m => (hF h m).2.2 rfl, ?_, fun q hq => ⟨(hF q hq).1, Nat.lt_of_lt_of_le (hF q hq).2.1 hsz⟩, hb, kz, k0, k1, k2, ?_⟩
  · refine List.nodup_append.2 ⟨by cases (Value.slice A5 x.less.length c5).ownBlock <;> simp, by cases (Value.slice A6 x.more.length c6).ownBlock <;> simp, fun a ha b hb e => ?_⟩
    subst e
    exact hne a (by simpa using ha) (by simpa using hb)
  · refine Owns.same (w := w6) _ _ _ ?_ (fun q hq => hkeep q (hF q hq).2.1 (hF q hq).2.2)
    exact ⟨_, _, [], _, rfl, rfl, ⟨rfl, rfl⟩, ⟨_, _, _, _, rfl, rfl, own_text hX5, ⟨_, _, _, [], rfl, by simp, own_text hX6, rfl, rfl⟩⟩⟩
end Go.Proofs.YtianpeokdojkbaaDoor
