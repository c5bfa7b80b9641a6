/- A change in a block of its own, that a drawn region makes and fills beside a fresh row, and what its stores leave. -/
import Derived.Test.YtianpeokdojkbaaDoorChangeBackPlain
import Derived.Test.YtianpeokdojkbaaDoorBox
namespace Go.Proofs.YtianpeokdojkbaaDoor
open Go.RowKit

structure BoxC (wo wx : World) (g : Nat) (c : PChange) (A3 : Option Addr) (c3 : Nat) (A4 : Option Addr) (c4 : Nat) (F : List Nat) : Prop where
  lo : wo.heap.size ≤ g
  hi : g < wx.heap.size
  notF : g ∉ F
  nodup : F.Nodup
  bd : ∀ q ∈ F, wo.heap.size ≤ q ∧ q < wx.heap.size
  below : Below wo.heap.size wo wx
  z : ∀ j, j < 5 → wx.frozen? ⟨g, j, none⟩ = false
  k0 : wx.cell? ⟨g, 0, none⟩ = some (.int .i64 c.kind)
  k1 : wx.cell? ⟨g, 1, none⟩ = some (.string ⟨c.path.toArray⟩)
  k2 : wx.cell? ⟨g, 2, none⟩ = some (.string ⟨c.dest.toArray⟩)
  k3 : wx.cell? ⟨g, 3, none⟩ = some (.slice A3 c.text.length c3)
  k4 : wx.cell? ⟨g, 4, none⟩ = some (.slice A4 c.patch.length c4)
  own : Owns wx (cChanges c) [.int .i64 c.kind, .string ⟨c.path.toArray⟩, .string ⟨c.dest.toArray⟩, .slice A3 c.text.length c3, .slice A4 c.patch.length c4] F

section
variable {wo wx : World} {g : Nat} {c : PChange} {A3 A4 : Option Addr} {c3 c4 : Nat} {F : List Nat}
theorem BoxC.set (h : BoxC wo wx g c A3 c3 A4 c4 F) (p : Addr) (hp : p.block = g) (u : Value) : (∀ q ∈ F, (wx.setCell p u).heap[q]? = wx.heap[q]?) ∧ Below wo.heap.size wo (wx.setCell p u) ∧ ∀ j, j < 5 → (wx.setCell p u).frozen? ⟨g, j, none⟩ = false :=
  ⟨fun q hq => Below.heap_setCell wx p u q (fun e => h.notF (by rw [hp] at e; rw [← e]; exact hq)), Below.setCell h.below (by rw [hp]; exact h.lo) _, fun j hj => by simpa [go_sem] using h.z j hj⟩
theorem BoxC.kind (h : BoxC wo wx g c A3 c3 A4 c4 F) (k : Int) : BoxC wo (wx.setCell ⟨g, 0, none⟩ (.int .i64 k)) g ⟨k, c.path, c.dest, c.text, c.patch⟩ A3 c3 A4 c4 F := by
  obtain ⟨hF, hb, hz⟩ := h.set ⟨g, 0, none⟩ rfl (.int .i64 k)
  refine ⟨h.lo, by simpa using h.hi, h.notF, h.nodup, fun q hq => by simpa using h.bd q hq, hb, hz, World.cell?_setCell_same _ _ _ h.k0, ?_, ?_, ?_, ?_, ?_⟩
  · rw [World.cell?_setCell_other _ _ _ _ (by simp)]; exact h.k1
  · rw [World.cell?_setCell_other _ _ _ _ (by simp)]; exact h.k2
  · rw [World.cell?_setCell_other _ _ _ _ (by simp)]; exact h.k3
  · rw [World.cell?_setCell_other _ _ _ _ (by simp)]; exact h.k4
  · refine Owns.same (w := wx) _ _ _ ?_ hF
    obtain ⟨_, _, F1, F2, hu, hFe, h1, h2⟩ := h.own
    obtain ⟨rfl, rfl⟩ := List.cons.inj hu
    exact ⟨_, _, F1, F2, rfl, hFe, ⟨rfl, h1.2⟩, h2⟩
theorem BoxC.path (h : BoxC wo wx g c A3 c3 A4 c4 F) (s : Str) : BoxC wo (wx.setCell ⟨g, 1, none⟩ (.string ⟨s.toArray⟩)) g ⟨c.kind, s, c.dest, c.text, c.patch⟩ A3 c3 A4 c4 F := by
  obtain ⟨hF, hb, hz⟩ := h.set ⟨g, 1, none⟩ rfl (.string ⟨s.toArray⟩)
  refine ⟨h.lo, by simpa using h.hi, h.notF, h.nodup, fun q hq => by simpa using h.bd q hq, hb, hz, ?_, World.cell?_setCell_same _ _ _ h.k1, ?_, ?_, ?_, ?_⟩
  · rw [World.cell?_setCell_other _ _ _ _ (by simp)]; exact h.k0
  · rw [World.cell?_setCell_other _ _ _ _ (by simp)]; exact h.k2
  · rw [World.cell?_setCell_other _ _ _ _ (by simp)]; exact h.k3
  · rw [World.cell?_setCell_other _ _ _ _ (by simp)]; exact h.k4
  · refine Owns.same (w := wx) _ _ _ ?_ hF
    obtain ⟨_, _, F1, F2, hu, hFe, h1, h2⟩ := h.own
    obtain ⟨rfl, rfl⟩ := List.cons.inj hu
    obtain ⟨_, _, F3, F4, hu, hFe2, h3, h4⟩ := h2
    obtain ⟨rfl, rfl⟩ := List.cons.inj hu
    exact ⟨_, _, F1, F2, rfl, hFe, h1, _, _, F3, F4, rfl, hFe2, ⟨rfl, h3.2⟩, h4⟩
theorem BoxC.dest (h : BoxC wo wx g c A3 c3 A4 c4 F) (s : Str) : BoxC wo (wx.setCell ⟨g, 2, none⟩ (.string ⟨s.toArray⟩)) g ⟨c.kind, c.path, s, c.text, c.patch⟩ A3 c3 A4 c4 F := by
  obtain ⟨hF, hb, hz⟩ := h.set ⟨g, 2, none⟩ rfl (.string ⟨s.toArray⟩)
  refine ⟨h.lo, by simpa using h.hi, h.notF, h.nodup, fun q hq => by simpa using h.bd q hq, hb, hz, ?_, ?_, World.cell?_setCell_same _ _ _ h.k2, ?_, ?_, ?_⟩
  · rw [World.cell?_setCell_other _ _ _ _ (by simp)]; exact h.k0
  · rw [World.cell?_setCell_other _ _ _ _ (by simp)]; exact h.k1
  · rw [World.cell?_setCell_other _ _ _ _ (by simp)]; exact h.k3
  · rw [World.cell?_setCell_other _ _ _ _ (by simp)]; exact h.k4
  · refine Owns.same (w := wx) _ _ _ ?_ hF
    obtain ⟨_, _, F1, F2, hu, hFe, h1, h2⟩ := h.own
    obtain ⟨rfl, rfl⟩ := List.cons.inj hu
    obtain ⟨_, _, F3, F4, hu, hFe2, h3, h4⟩ := h2
    obtain ⟨rfl, rfl⟩ := List.cons.inj hu
    obtain ⟨_, _, F5, F6, hu, hFe3, h5, h6⟩ := h4
    obtain ⟨rfl, rfl⟩ := List.cons.inj hu
    exact ⟨_, _, F1, F2, rfl, hFe, h1, _, _, F3, F4, rfl, hFe2, h3, _, _, F5, F6, rfl, hFe3, ⟨rfl, h5.2⟩, h6⟩
theorem BoxC.patch {w5 : World} {d : List PHunk} {A : Option Addr} {n5 c5 : Nat} (h : BoxC wo wx g c A3 c3 none 0 F) (h0 : c.patch = []) (hb : Below wx.heap.size wx w5) (hf : Fresh w5 wx.heap.size w5.heap.size (encHunks d) (.slice A n5 c5)) :
    ∃ F', BoxC wo (w5.setCell ⟨g, 4, none⟩ (.slice A n5 c5)) g ⟨c.kind, c.path, c.dest, c.text, d⟩ A3 c3 A c5 F' := by
  have hn := Hunks.n hf.rep
  subst hn
  obtain ⟨F', hO, hN, hB⟩ := hf
  have hlt : ∀ q ∈ F, q < wx.heap.size := fun q hq => (h.bd q hq).2
  have hs := hb.size
  have hgF : g ∉ F ++ F' := fun m => by
    rcases List.mem_append.1 m with m | m
    · exact h.notF m
    · have := (hB g m).1; have := h.hi; omega
  have hkF : ∀ q ∈ F, (w5.setCell ⟨g, 4, none⟩ (.slice A d.length c5)).heap[q]? = wx.heap[q]? := fun q hq =>
    (Below.heap_setCell w5 _ _ q (fun e => h.notF (by rw [← show q = g from e]; exact hq))).trans (hb.block q (hlt q hq))
  have hkF' : ∀ q ∈ F', (w5.setCell ⟨g, 4, none⟩ (.slice A d.length c5)).heap[q]? = w5.heap[q]? := fun q hq =>
    Below.heap_setCell w5 _ _ q (fun e => hgF (List.mem_append_right _ (by rw [← show q = g from e]; exact hq)))
  have hc : ∀ j, w5.cell? ⟨g, j, none⟩ = wx.cell? ⟨g, j, none⟩ := fun j => hb.cell (p := ⟨g, j, none⟩) h.hi
  refine ⟨F ++ F', h.lo, by have := h.hi; simp; omega, hgF, ?_, ?_, ?_, ?_, ?_, ?_, ?_, ?_, ?_, ?_⟩
  · refine List.nodup_append.2 ⟨h.nodup, hN, fun a ha b hb' e => ?_⟩
    have := hlt a ha
    have := (hB b hb').1
    omega
  · intro q hq
    have := h.lo
    have := h.hi
    rcases List.mem_append.1 hq with m | m
    · have := h.bd q m; simp; omega
    · have := hB q m; simp; omega
  · exact Below.setCell (h.below.trans (hb.mono (by have := h.lo; have := h.hi; omega))) h.lo _
  · intro j hj
    have h9 := (hb.frozen (p := ⟨g, j, none⟩) h.hi).trans (h.z j hj)
    simpa [go_sem] using h9
  · rw [World.cell?_setCell_other _ _ _ _ (by simp)]; exact (hc 0).trans h.k0
  · rw [World.cell?_setCell_other _ _ _ _ (by simp)]; exact (hc 1).trans h.k1
  · rw [World.cell?_setCell_other _ _ _ _ (by simp)]; exact (hc 2).trans h.k2
  · rw [World.cell?_setCell_other _ _ _ _ (by simp)]; exact (hc 3).trans h.k3
  · exact World.cell?_setCell_same _ _ _ ((hc 4).trans h.k4)
  · obtain ⟨_, _, F1, F2, hu, hFe, h1, h2⟩ := h.own
    obtain ⟨rfl, rfl⟩ := List.cons.inj hu
    obtain ⟨_, _, F3, F4, hu, hFe2, h3, h4⟩ := h2
    obtain ⟨rfl, rfl⟩ := List.cons.inj hu
    obtain ⟨_, _, F5, F6, hu, hFe3, h5, h6⟩ := h4
    obtain ⟨rfl, rfl⟩ := List.cons.inj hu
    obtain ⟨_, _, F7, F8, hu, hFe4, h7, h8⟩ := h6
    obtain ⟨rfl, rfl⟩ := List.cons.inj hu
    obtain ⟨_, _, F9, Fa, hu, hFe5, h9, ha⟩ := h8
    obtain ⟨rfl, rfl⟩ := List.cons.inj hu
    have e1 : F1 = [] := h1.2
    have e3 : F3 = [] := h3.2
    have e5 : F5 = [] := h5.2
    have ea : Fa = [] := ha.2
    have e9 : F9 = [] := by
      rw [h0] at h9
      obtain ⟨_, _, G, _, hG, hg⟩ := h9
      have : G = [] := hg.2
      rw [hG, this]
      rfl
    subst e1 e3 e5 ea e9
    simp only [List.append_nil, List.nil_append] at hFe5 hFe4 hFe3 hFe2 hFe
    subst hFe5
    simp only [List.append_nil] at hFe4
    subst hFe4 hFe3 hFe2 hFe
    exact ⟨_, _, [], F ++ F', rfl, rfl, ⟨rfl, rfl⟩, _, _, [], F ++ F', rfl, rfl, ⟨rfl, rfl⟩, _, _, [], F ++ F', rfl, rfl, ⟨rfl, rfl⟩, _, _, F, F', rfl, rfl, Own.same _ _ _ h7 hkF, _, _, F', [], rfl, by simp, Own.same _ _ _ hO hkF', rfl, rfl⟩
end

theorem boxC_made {wo w5 WF : World} {h n c5 : Nat} {x : PChange} {A5 : Option Addr} (hn : n = x.text.length) (hp : x.patch = [])
    (hX5 : w5.ownsRow wo.heap.size 9 1 (.slice A5 n c5) n (x.text.map fun s => .string ⟨s.toArray⟩))
    (h5 : ∀ g, (Value.slice A5 n c5).ownBlock = some g → g ≠ h)
    (hkeep : ∀ q, q < w5.heap.size → q ≠ h → WF.heap[q]? = w5.heap[q]?) (hsz : w5.heap.size ≤ WF.heap.size) (hh0 : wo.heap.size ≤ h) (hh1 : h < WF.heap.size) (hb : Below wo.heap.size wo WF)
    (hH : WF.heap[h]? = some (.cells #[.int .i64 x.kind, .string ⟨x.path.toArray⟩, .string ⟨x.dest.toArray⟩, .slice A5 n c5, .slice none 0 0] 51 (0, 0))) :
    BoxC wo WF h x A5 c5 none 0 (Value.slice A5 n c5).ownBlock.toList := by
  subst hn
  obtain ⟨kind, path, dest, text, patch⟩ := x
  dsimp only at hp hX5 h5 hH ⊢
  subst hp
  have hF : ∀ q ∈ (Value.slice A5 text.length c5).ownBlock.toList, wo.heap.size ≤ q ∧ q < w5.heap.size ∧ q ≠ h := fun q hq => by
    have := hX5.lt q (by simpa using hq); exact ⟨this.1, this.2, h5 q (by simpa using hq)⟩
  refine ⟨hh0, hh1, fun m => (hF h m).2.2 rfl, by cases (Value.slice A5 text.length c5).ownBlock <;> simp, fun q hq => ⟨(hF q hq).1, Nat.lt_of_lt_of_le (hF q hq).2.1 hsz⟩, hb, ?_, ?_, ?_, ?_, ?_, ?_, ?_⟩
  · intro j hj
    simp [World.frozen?, hH]
  · simp [World.cell?, hH]
  · simp [World.cell?, hH]
  · simp [World.cell?, hH]
  · simp [World.cell?, hH]
  · simp [World.cell?, hH]
  · refine Owns.same (w := w5) _ _ _ ?_ (fun q hq => hkeep q (hF q hq).2.1 (hF q hq).2.2)
    exact ⟨_, _, [], _, rfl, rfl, ⟨rfl, rfl⟩, _, _, [], _, rfl, rfl, ⟨rfl, rfl⟩, _, _, [], _, rfl, rfl, ⟨rfl, rfl⟩, _, _, _, [], rfl, (List.append_nil _).symm, own_text hX5, _, _, [], [], rfl, rfl, ⟨0, [], [], World.ownsRow_nil _ _ _ _, rfl, rfl, rfl⟩, rfl, rfl⟩
/-- Five stores into a block of five cells. -/
theorem set5 {w : World} {g t : Nat} {a0 a1 a2 a3 a4 u0 u1 u2 u3 u4 : Value} (h : w.heap[g]? = some (.cells #[a0, a1, a2, a3, a4] t (0, 0))) :
    (((((w.setCell ⟨g, 0, none⟩ u0).setCell ⟨g, 1, none⟩ u1).setCell ⟨g, 2, none⟩ u2).setCell ⟨g, 3, none⟩ u3).setCell ⟨g, 4, none⟩ u4).heap[g]? = some (.cells #[u0, u1, u2, u3, u4] t (0, 0)) := by
  have hstep : ∀ (w : World) (cs : Array Value) (j : Nat) (u : Value), w.heap[g]? = some (.cells cs t (0, 0)) → j < cs.size → (w.setCell ⟨g, j, none⟩ u).heap[g]? = some (.cells (cs.set! j u) t (0, 0)) := by
    intro w cs j u h hj
    simp only [World.setCell, Array.getElem?_modify, h, if_true, Option.map_some]
    simp
  have s0 := hstep w _ 0 u0 h (by simp)
  have s1 := hstep _ _ 1 u1 s0 (by simp)
  have s2 := hstep _ _ 2 u2 s1 (by simp)
  have s3 := hstep _ _ 3 u3 s2 (by simp)
  have s4 := hstep _ _ 4 u4 s3 (by simp)
  simpa using s4
theorem box5_cells {w : World} {g t : Nat} {a b c d e : Value} (h : w.heap[g]? = some (.cells #[a, b, c, d, e] t (0, 0))) : w.cell? ⟨g, 0, none⟩ = some a ∧ w.cell? ⟨g, 1, none⟩ = some b ∧ w.cell? ⟨g, 2, none⟩ = some c ∧ w.cell? ⟨g, 3, none⟩ = some d ∧ w.cell? ⟨g, 4, none⟩ = some e ∧
    w.frozen? ⟨g, 0, none⟩ = false ∧ w.frozen? ⟨g, 1, none⟩ = false ∧ w.frozen? ⟨g, 2, none⟩ = false ∧ w.frozen? ⟨g, 3, none⟩ = false ∧ w.frozen? ⟨g, 4, none⟩ = false := by
  simp [World.cell?, World.frozen?, h]

theorem BoxC.keep {wo wx wy : World} {g : Nat} {c : PChange} {A3 A4 : Option Addr} {c3 c4 : Nat} {F : List Nat} (h : BoxC wo wx g c A3 c3 A4 c4 F) (hb : Below wx.heap.size wx wy) : BoxC wo wy g c A3 c3 A4 c4 F := by
  have hs := hb.size
  have hc : ∀ j, wy.cell? ⟨g, j, none⟩ = wx.cell? ⟨g, j, none⟩ := fun j => hb.cell (p := ⟨g, j, none⟩) h.hi
  exact ⟨h.lo, Nat.lt_of_lt_of_le h.hi hs, h.notF, h.nodup, fun q hq => ⟨(h.bd q hq).1, Nat.lt_of_lt_of_le (h.bd q hq).2 hs⟩, h.below.trans (hb.mono h.below.size), fun j hj => (hb.frozen (p := ⟨g, j, none⟩) h.hi).trans (h.z j hj),
    (hc 0).trans h.k0, (hc 1).trans h.k1, (hc 2).trans h.k2, (hc 3).trans h.k3, (hc 4).trans h.k4, Owns.same _ _ _ h.own (fun q hq => hb.block q (h.bd q hq).2)⟩
theorem BoxC.fresh {wo wx : World} {g : Nat} {c : PChange} {A3 A4 : Option Addr} {c3 c4 : Nat} {F : List Nat} (h : BoxC wo wx g c A3 c3 A4 c4 F) : FreshL wx wo.heap.size wx.heap.size (cChanges c) [.int .i64 c.kind, .string ⟨c.path.toArray⟩, .string ⟨c.dest.toArray⟩, .slice A3 c.text.length c3, .slice A4 c.patch.length c4] :=
  ⟨F, h.own, h.nodup, h.bd⟩
/-- Five stores make a move of it. -/
theorem BoxC.move {wo wx : World} {g : Nat} {c : PChange} {A3 A4 : Option Addr} {c3 c4 : Nat} {F : List Nat} (h : BoxC wo wx g c A3 c3 A4 c4 F) (p q : Str) :
    BoxC wo (((((wx.setCell ⟨g, 0, none⟩ (.int .i64 4)).setCell ⟨g, 1, none⟩ (.string ⟨p.toArray⟩)).setCell ⟨g, 2, none⟩ (.string ⟨q.toArray⟩)).setCell ⟨g, 3, none⟩ (.slice none 0 0)).setCell ⟨g, 4, none⟩ (.slice none 0 0)) g ⟨4, p, q, [], []⟩ none 0 none 0 [] := by
  have hl := h.lo
  have hh := h.hi
  refine ⟨hl, by simpa using hh, by simp, List.nodup_nil, (by simp), ?_, ?_, ?_, ?_, ?_, ?_, ?_, ?_⟩
  · exact ((((h.below.setCell hl _).setCell hl _).setCell hl _).setCell hl _).setCell hl _
  · intro j hj
    simpa [go_sem] using h.z j hj
  · rw [World.cell?_setCell_other _ _ _ _ (by simp), World.cell?_setCell_other _ _ _ _ (by simp), World.cell?_setCell_other _ _ _ _ (by simp), World.cell?_setCell_other _ _ _ _ (by simp)]
    exact World.cell?_setCell_same _ _ _ h.k0
  · rw [World.cell?_setCell_other _ _ _ _ (by simp), World.cell?_setCell_other _ _ _ _ (by simp), World.cell?_setCell_other _ _ _ _ (by simp)]
    refine World.cell?_setCell_same _ _ _ (?_ : _ = some (Value.string ⟨c.path.toArray⟩))
    rw [World.cell?_setCell_other _ _ _ _ (by simp)]
    exact h.k1
  · rw [World.cell?_setCell_other _ _ _ _ (by simp), World.cell?_setCell_other _ _ _ _ (by simp)]
    refine World.cell?_setCell_same _ _ _ (?_ : _ = some (Value.string ⟨c.dest.toArray⟩))
    rw [World.cell?_setCell_other _ _ _ _ (by simp), World.cell?_setCell_other _ _ _ _ (by simp)]
    exact h.k2
  · rw [World.cell?_setCell_other _ _ _ _ (by simp)]
    refine World.cell?_setCell_same _ _ _ (?_ : _ = some (Value.slice A3 c.text.length c3))
    rw [World.cell?_setCell_other _ _ _ _ (by simp), World.cell?_setCell_other _ _ _ _ (by simp), World.cell?_setCell_other _ _ _ _ (by simp)]
    exact h.k3
  · refine World.cell?_setCell_same _ _ _ (?_ : _ = some (Value.slice A4 c.patch.length c4))
    rw [World.cell?_setCell_other _ _ _ _ (by simp), World.cell?_setCell_other _ _ _ _ (by simp), World.cell?_setCell_other _ _ _ _ (by simp), World.cell?_setCell_other _ _ _ _ (by simp)]
    exact h.k4
  · exact ⟨_, _, [], [], rfl, rfl, ⟨rfl, rfl⟩, _, _, [], [], rfl, rfl, ⟨rfl, rfl⟩, _, _, [], [], rfl, rfl, ⟨rfl, rfl⟩, _, _, [], [], rfl, rfl, ⟨0, [], [], World.ownsRow_nil _ _ _ _, rfl, rfl, rfl⟩, _, _, [], [], rfl, rfl, ⟨0, [], [], World.ownsRow_nil _ _ _ _, rfl, rfl, rfl⟩, rfl, rfl⟩
/-- A change with a text that was made anew, in a block of its own. -/
theorem boxC_fresh {wo w5 WF : World} {h lo n5 c5 : Nat} {x : PChange} {A5 : Option Addr} (hp : x.patch = [])
    (hf : Fresh w5 lo w5.heap.size (encText x.text) (.slice A5 n5 c5)) (hlo : wo.heap.size ≤ lo) (hap : h < lo ∨ w5.heap.size ≤ h)
    (hkeep : ∀ q, q < w5.heap.size → q ≠ h → WF.heap[q]? = w5.heap[q]?) (hsz : w5.heap.size ≤ WF.heap.size) (hh0 : wo.heap.size ≤ h) (hh1 : h < WF.heap.size) (hb : Below wo.heap.size wo WF)
    (hH : WF.heap[h]? = some (.cells #[.int .i64 x.kind, .string ⟨x.path.toArray⟩, .string ⟨x.dest.toArray⟩, .slice A5 n5 c5, .slice none 0 0] 51 (0, 0))) :
    ∃ F, BoxC wo WF h x A5 c5 none 0 F := by
  have hn := Text.n hf.rep
  subst hn
  obtain ⟨kind, path, dest, text, patch⟩ := x
  dsimp only at hp hf hH ⊢
  subst hp
  obtain ⟨F, hO, hN, hB⟩ := hf
  have hF : ∀ q ∈ F, wo.heap.size ≤ q ∧ q < w5.heap.size ∧ q ≠ h := fun q hq => by have := hB q hq; omega
  refine ⟨F, hh0, hh1, fun m => (hF h m).2.2 rfl, hN, fun q hq => ⟨(hF q hq).1, Nat.lt_of_lt_of_le (hF q hq).2.1 hsz⟩, hb, ?_, ?_, ?_, ?_, ?_, ?_, ?_⟩
  · intro j hj
    simp [World.frozen?, hH]
  · simp [World.cell?, hH]
  · simp [World.cell?, hH]
  · simp [World.cell?, hH]
  · simp [World.cell?, hH]
  · simp [World.cell?, hH]
  · refine Owns.same (w := w5) _ _ _ ?_ (fun q hq => hkeep q (hF q hq).2.1 (hF q hq).2.2)
    exact ⟨_, _, [], _, rfl, rfl, ⟨rfl, rfl⟩, _, _, [], _, rfl, rfl, ⟨rfl, rfl⟩, _, _, [], _, rfl, rfl, ⟨rfl, rfl⟩, _, _, _, [], rfl, (List.append_nil _).symm, hO, _, _, [], [], rfl, rfl, ⟨0, [], [], World.ownsRow_nil _ _ _ _, rfl, rfl, rfl⟩, rfl, rfl⟩

/-! ### Changes as new elements -/
theorem Changes.snoc (e : Nat) (done : List PChange) (c : PChange) : PV.sl e 5 (done.flatMap cChanges ++ cChanges c) = encChangesE e (done ++ [c]) := by simp [encChangesE]
theorem FreshL.textC {w : World} {lo hi n c : Nat} {A : Option Addr} {t : List Str} (k : Int) (p q : Str) (h : Fresh w lo hi (encText t) (.slice A n c)) (hl : lo ≤ hi) : FreshL w lo hi (cChanges ⟨k, p, q, t, []⟩) [.int .i64 k, .string ⟨p.toArray⟩, .string ⟨q.toArray⟩, .slice A n c, .slice none 0 0] :=
  FreshL.plain ⟨rfl, rfl⟩ (FreshL.plain ⟨rfl, rfl⟩ (FreshL.plain ⟨rfl, rfl⟩ (FreshL.cons h (Fresh.one (Fresh.nil _ hi hi _ _)) hl (Nat.le_refl _))))
theorem FreshL.editC {w : World} {lo hi n c : Nat} {A : Option Addr} {d : List PHunk} (k : Int) (p q : Str) (h : Fresh w lo hi (encHunks d) (.slice A n c)) (hl : lo ≤ hi) : FreshL w lo hi (cChanges ⟨k, p, q, [], d⟩) [.int .i64 k, .string ⟨p.toArray⟩, .string ⟨q.toArray⟩, .slice none 0 0, .slice A n c] :=
  FreshL.plain ⟨rfl, rfl⟩ (FreshL.plain ⟨rfl, rfl⟩ (FreshL.plain ⟨rfl, rfl⟩ (FreshL.cons (Fresh.nil _ lo lo _ _) (Fresh.one h) (Nat.le_refl _) hl)))
theorem FreshL.bareC {w : World} {lo hi : Nat} (k : Int) (p q : Str) (hl : lo ≤ hi) : FreshL w lo hi (cChanges ⟨k, p, q, [], []⟩) [.int .i64 k, .string ⟨p.toArray⟩, .string ⟨q.toArray⟩, .slice none 0 0, .slice none 0 0] :=
  FreshL.textC k p q (Fresh.nil _ _ _ _ _) hl
end Go.Proofs.YtianpeokdojkbaaDoor
