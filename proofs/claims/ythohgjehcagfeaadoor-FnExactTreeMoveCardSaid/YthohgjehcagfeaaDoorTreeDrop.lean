/- Walks: the program's isAt; a tree without what is at a path, and the paths at it: TreeDrop, TreeUnder, the program's and the reference's. -/
import Derived.Test.YthohgjehcagfeaaDoorTreeGet
import Derived.Test.YthohgjehcagfeaaDoorRepL
import Derived.Test.YthohgjehcagfeaaDoorTree
import Derived.Test.YthohgjehcagfeaaDoorTree2
namespace Go.Proofs.YthohgjehcagfeaaDoor
open Go.RowKit

/-- Is a file of the path f at the path p, or below it? -/
def atOr (f p : Str) : Bool := decide (f = p) || below p f

set_option maxHeartbeats 400000 in
theorem impl_isAt_any (f p : Str) (A : Option Addr) (n c : Nat) (w : World) (hf : f.length ≤ 1073741824) (hp : p.length ≤ 1073741824) :
    Calls Tryd.prog 33 #[.agg #[.string ⟨f.toArray⟩, .slice A n c], .string ⟨p.toArray⟩] w fun e w' => e = .returned (.bool (atOr f p)) ∧ Below w.heap.size w w' := by
  by_cases he : f = p
  · have hb : (f == p) = true := by simp [he]
    have hv : atOr f p = true := by simp [atOr, he]
    rw [hv]
    clear he hv
    go_enter Tryd.func33, Tryd.ntmps33
    go_wp2
    go_ret
    exact ⟨rfl, by (repeat' (first | with_reducible exact Below.refl _ _ | with_reducible assumption | (with_reducible refine Below.setCell ?_ ?_ _) | (with_reducible refine Below.alloc ?_ ?_ _) | (with_reducible refine below_drewN ?_ _) | (with_reducible refine Below.drew ?_) | omega | (simp; done) | (simp; omega)))⟩
  · have hb : (f == p) = false := by simp [he]
    have hv : atOr f p = (p ++ [47]).isPrefixOf f := by unfold atOr below; rw [decide_eq_false he]; simp
    rw [hv]
    have happ : (⟨p.toArray⟩ : ByteArray) ++ ⟨#[47]⟩ = ⟨(p ++ [47]).toArray⟩ := bytes_app p [47]
    have hc := fun w => strings_HasPrefix_any f (p ++ [47]) w (by omega) (by simp; omega)
    obtain ⟨v, ev⟩ : ∃ v, v = (p ++ [47]).isPrefixOf f := ⟨_, rfl⟩
    rw [← ev] at hc ⊢
    clear he hv ev
    go_enter Tryd.func33, Tryd.ntmps33
    go_wp2_with fail
    refine Calls.mono (hc _) ?_
    rintro e w' ⟨rfl, rfl⟩
    go_wp2
    go_ret
    exact ⟨rfl, by (repeat' (first | with_reducible exact Below.refl _ _ | with_reducible assumption | (with_reducible refine Below.setCell ?_ ?_ _) | (with_reducible refine Below.alloc ?_ ?_ _) | (with_reducible refine below_drewN ?_ _) | (with_reducible refine Below.drew ?_) | omega | (simp; done) | (simp; omega)))⟩

/-- Of the first k files some are taken; what they own is among what those own. -/
def Taken (w : World) (xs done : List PFile) (us : List Value) (G : List Nat) (k : Nat) (us' : List Value) : Prop :=
  ∃ us1 us2 G1 G2 G', us = us1 ++ us2 ∧ G = G1 ++ G2 ∧ us1.length = k * 2 ∧ Owns w ((xs.drop k).flatMap cFiles) us2 G2 ∧ G'.Sublist G1 ∧ Owns w (done.flatMap cFiles) us' G'
theorem Taken.start {w : World} {xs : List PFile} {us : List Value} {G : List Nat} (h : Owns w (xs.flatMap cFiles) us G) : Taken w xs [] us G 0 [] :=
  ⟨[], us, [], G, [], rfl, rfl, rfl, by simpa using h, List.Sublist.refl _, ⟨rfl, rfl⟩⟩
theorem Taken.open_ {w : World} {xs done : List PFile} {us us' : List Value} {G : List Nat} {k : Nat} {x : PFile} (h : Taken w xs done us G k us') (hx : xs[k]? = some x) :
    ∃ A n c, us[k * 2]? = some (.string ⟨x.path.toArray⟩) ∧ us[k * 2 + 1]? = some (.slice A n c) ∧ Taken w xs done us G (k + 1) us' ∧ Taken w xs (done ++ [x]) us G (k + 1) (us' ++ [.string ⟨x.path.toArray⟩, .slice A n c]) := by
  obtain ⟨us1, us2, G1, G2, G', rfl, rfl, hl, ho, hs, hd⟩ := h
  have hk := (List.getElem?_eq_some_iff.1 hx).1
  have hdrop : xs.drop k = x :: xs.drop (k + 1) := by
    rw [List.drop_eq_getElem_cons hk]
    rw [List.getElem?_eq_getElem hk] at hx
    rw [Option.some.inj hx]
  rw [hdrop] at ho
  obtain ⟨u0, v1, F0, H1, e1, e2, h0, u1, v2, F1, H2, e3, e4, h1, ho2⟩ := ho
  obtain ⟨rfl, rfl⟩ := h0
  obtain ⟨A, n, c, rfl⟩ := Own.shape h1
  subst e3 e4 e1 e2
  refine ⟨A, n, c, ?_, ?_, ⟨us1 ++ [.string ⟨x.path.toArray⟩, .slice A n c], v2, G1 ++ F1, H2, G', by simp, by simp, by simp [hl]; omega, ho2, hs.trans (List.sublist_append_left _ _), hd⟩,
    ⟨us1 ++ [.string ⟨x.path.toArray⟩, .slice A n c], v2, G1 ++ F1, H2, G' ++ F1, by simp, by simp, by simp [hl]; omega, ho2, hs.append (List.Sublist.refl _), ?_⟩⟩
  · rw [List.getElem?_append_right (by omega), show k * 2 - us1.length = 0 by omega]; rfl
  · rw [List.getElem?_append_right (by omega), show k * 2 + 1 - us1.length = 1 by omega]; rfl
  · rw [List.flatMap_append]
    exact hd.append ⟨_, _, [], F1, rfl, rfl, ⟨rfl, rfl⟩, _, [], F1, [], rfl, by simp, h1, rfl, rfl⟩
/-- Two cells of a row of the call's own. -/
theorem own_two {w : World} {lo e n k c : Nat} {A : Option Addr} {us : List Value} {u0 u1 : Value} (h : w.ownsRow lo e 2 (.slice A n c) n us) (h0 : us[k * 2]? = some u0) (h1 : us[k * 2 + 1]? = some u1) :
    ∃ g, A = some ⟨g, 0, none⟩ ∧ lo ≤ g ∧ g < w.heap.size ∧ w.cell? ⟨g, k * 2, none⟩ = some u0 ∧ w.cell? ⟨g, k * 2 + 1, none⟩ = some u1 := by
  have hl := h.1
  have hk := (List.getElem?_eq_some_iff.1 h1).1
  rcases h.2 with ⟨e1, e2⟩ | ⟨g, cap, cur, e1, hg, _⟩
  · subst e2; omega
  · cases e1
    have c0 := h.cells (g := g) rfl _ _ h0
    have c1 := h.cells (g := g) rfl _ _ h1
    simp only [Addr.add_lit, Nat.zero_add] at c0 c1
    exact ⟨g, rfl, hg, (h.lt g rfl).2, c0, c1⟩
/-- What is taken, in a row of the call's own. -/
theorem Taken.fresh {w w' : World} {xs done : List PFile} {us us' : List Value} {G : List Nat} {k lo n : Nat} {v : Value} (h : Taken w xs done us G k us') (hnd : G.Nodup) (hG : ∀ q ∈ G, lo ≤ q ∧ q < w.heap.size)
    (hrow : w'.ownsRow w.heap.size 32 2 v n us') (hb : Below w.heap.size w w') (hlo : lo ≤ w.heap.size) : Fresh w' lo w'.heap.size (encFiles done) v := by
  obtain ⟨us1, us2, G1, G2, G', e1, e2, hl, ho, hs, hd⟩ := h
  have hsub : ∀ q ∈ G', q ∈ G := fun q hq => by rw [e2]; exact List.mem_append_left _ (hs.subset hq)
  have hlt : ∀ q ∈ G', lo ≤ q ∧ q < w.heap.size := fun q hq => hG q (hsub q hq)
  have hnd' : G'.Nodup := (List.nodup_append.1 (e2 ▸ hnd)).1.sublist hs
  have hd' := Owns.same _ _ _ hd (w' := w') (fun q hq => hb.block q (hlt q hq).2)
  refine Fresh.row_above' hrow ⟨G', hd', hnd', hlt⟩ hlo hb.size

def treeDrop (t : List PFile) (p : Str) : List PFile := if treeOk t then t.filter (fun f => !atOr f.path p) else []
def treeUnder (t : List PFile) (p : Str) : List Str := if treeOk t then (t.filter (fun f => atOr f.path p)).map PFile.path else []
theorem filter_next {α : Type} {q : α → Bool} {xs : List α} {k : Nat} {x : α} (hx : xs[k]? = some x) : (xs.take (k + 1)).filter q = (xs.take k).filter q ++ (if q x then [x] else []) := by
  rw [List.take_add_one, hx, List.filter_append]
  congr 1
  cases hq : q x <;> simp [hq]
theorem filter_len_take {α : Type} (q : α → Bool) (xs : List α) (k : Nat) : ((xs.take k).filter q).length ≤ k := Nat.le_trans (List.length_filter_le _ _) (List.length_take_le _ _)

end Go.Proofs.YthohgjehcagfeaaDoor
