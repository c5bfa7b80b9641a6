import Derived.Test.YtmickenajhppoaaGreatDoorSortPlain
import Derived.Test.YtmickenajhppoaaGreatDoorShelf
import Derived.Test.YtmickenajhppoaaGreatDoorZ10
import Derived.Shelf.Sort.Plain
import Derived.Shelf.Slices.In.SortNone
import Derived.Shelf.Slices.CompactS
import Derived.Shelf.Slices.Clone
import Derived.Sort.OwnSorted
/- The library's Sort, Compact and Clone of texts, at a row of the call's own. -/
namespace Go.Proofs.YtmickenajhppoaaGreatDoor
open Go.RowKit

def encS (l : List Str) : List Value := l.map fun s => .string ⟨s.toArray⟩
theorem own_cut {w : World} {B e n c m : Nat} {A : Option Addr} {xs : List Value} (h : w.ownsRow B e 1 (.slice A n c) n xs) (hm : m ≤ n) (hA : A ≠ none) : w.ownsRow B e 1 (.slice A m c) m (xs.take m) := by
  have hl := h.1
  refine ⟨by rw [List.length_take, hl]; omega, ?_⟩
  rcases h.2 with ⟨e1, _⟩ | ⟨g, cap, cur, e1, hg, hh, hn, hc, hs, ht⟩
  · cases e1; exact absurd rfl hA
  · cases e1
    refine .inr ⟨g, c, cur, rfl, hg, hh, by omega, hc, hs, ?_⟩
    rw [← ht, List.take_take]
    congr 1
    omega
theorem sort_any (A : Option Addr) (n c B : Nat) (ss : List Str) (w : World) (hown : w.ownsRow B 9 1 (.slice A n c) n (encS ss)) (hn : ss.length ≤ 1000000) :
    Calls Tryz.prog 75 #[.slice A n c] w fun e w' => e = .returned (.tuple #[]) ∧ w'.ownsRow B 9 1 (.slice A n c) n (encS (sortS ss)) ∧ w.grownBy w' (Value.slice A n c).ownBlock := by
  have hl := hown.1
  unfold encS at hl
  rw [List.length_map, Nat.mul_one] at hl
  subst hl
  rcases hown.2 with ⟨e1, h0⟩ | ⟨g, cap, cur, e1, hB, hg, hnc, hcm, hcs, hcu⟩
  · obtain rfl : ss = [] := List.eq_nil_of_length_eq_zero h0
    injection e1 with e2 _ e4
    subst e2 e4
    have hcon := Any.slices_Sort_string_none Tryz.lays190 none 0 w
    refine Calls.mono hcon ?_
    rintro e w' ⟨rfl, rfl⟩
    exact ⟨rfl, by simpa [sortS, encS] using hown, ⟨rfl, rfl, rfl, Nat.le_refl _, fun _ _ _ => rfl⟩⟩
  · cases e1
    have hcon := Any.slices_Sort_string Tryz.lays190 g 0 c ss w (holds_of_block hg (by rw [Nat.mul_one] at hcu; exact hcu)) (Array.getElem?_eq_some_iff.1 hg).1 (by omega)
    refine Calls.mono hcon ?_
    rintro e w' ⟨rfl, k, os, rfl⟩
    refine ⟨rfl, ?_, grownBy_sorted _⟩
    exact ownsRow_sorted (ss := ss) (ts := sortS ss) (sortS_perm ss).length_eq hB hg hnc hcm hcs
theorem compact_any (A : Option Addr) (n c B : Nat) (ss : List Str) (w : World) (hown : w.ownsRow B 9 1 (.slice A n c) n (encS ss)) (hn : ss.length ≤ 1000000) :
    Calls Tryz.prog 56 #[.slice A n c] w fun e w' => ∃ A' c', e = .returned (.slice A' (Lib.compact ss).length c') ∧ w'.ownsRow B 9 1 (.slice A' (Lib.compact ss).length c') (Lib.compact ss).length (encS (Lib.compact ss)) ∧ w.grownBy w' (Value.slice A n c).ownBlock ∧ (Value.slice A' (Lib.compact ss).length c').ownBlock = (Value.slice A n c).ownBlock := by
  have hl := hown.1
  unfold encS at hl
  rw [List.length_map, Nat.mul_one] at hl
  subst hl
  rcases hown.2 with ⟨e1, h0⟩ | ⟨g, cap, cur, e1, hB, hg, hnc, hcm, hcs, hcu⟩
  · obtain rfl : ss = [] := List.eq_nil_of_length_eq_zero h0
    injection e1 with e2 _ e4
    subst e2 e4
    have hcon := Any.slices_Compact_string_empty Tryz.lays194 none 0 w
    refine Calls.mono hcon ?_
    rintro e w' ⟨rfl, rfl⟩
    exact ⟨none, 0, rfl, hown, ⟨rfl, rfl, rfl, Nat.le_refl _, fun _ _ _ => rfl⟩, rfl⟩
  · cases e1
    have hcon := Any.slices_Compact_string Tryz.lays194 g 0 c ss w (holds_of_block hg (by rw [Nat.mul_one] at hcu; exact hcu)) (by omega) hnc
    have hle : (Lib.compact ss).length ≤ ss.length := by
      have h1 : (Lib.compact ss).length = ((List.range ss.length).filter (Lib.keeps ss.toArray)).length := by simp [Lib.compact, Lib.compactUpTo]
      rw [h1]
      exact Nat.le_trans (List.length_filter_le _ _) (by simp)
    refine Calls.mono hcon ?_
    rintro e w' ⟨rfl, q, rfl⟩
    have hr := ownsRow_sorted (w := w) (os := #[]) (n := q) (ss := ss) (ts := Lib.compact ss ++ List.replicate (ss.length - (Lib.compact ss).length) []) (by simp; omega) hB hg hnc hcm hcs
    have hgr := grownBy_sorted (w := w) (g := g) (n := q) (os := #[]) (Lib.compact ss ++ List.replicate (ss.length - (Lib.compact ss).length) []).toArray
    rw [Sort.grow_empty] at hr hgr
    refine ⟨_, _, rfl, ?_, hgr, rfl⟩
    have := own_cut hr hle (by simp)
    rw [List.map_append, List.take_left' (by simp)] at this
    exact this
theorem clone_any (A : Option Addr) (n c B : Nat) (ss : List Str) (w : World) (hown : w.ownsRow B 9 1 (.slice A n c) n (encS ss)) (hn : ss.length ≤ 1000000) :
    Calls Tryz.prog 57 #[.slice A n c] w fun e w' => ∃ A' c', e = .returned (.slice A' n c') ∧ w'.ownsRow w.heap.size 9 1 (.slice A' n c') n (encS ss) ∧ Below w.heap.size w w' := by
  have hl := hown.1
  unfold encS at hl
  rw [List.length_map, Nat.mul_one] at hl
  subst hl
  rcases hown.2 with ⟨e1, h0⟩ | ⟨g, cap, cur, e1, hB, hg, hnc, hcm, hcs, hcu⟩
  · obtain rfl : ss = [] := List.eq_nil_of_length_eq_zero h0
    injection e1 with e2 _ e4
    subst e2 e4
    have hcon := Any.slices_Clone_string_nil Tryz.lays2n16 0 0 w
    refine Calls.mono hcon ?_
    rintro e w' ⟨rfl, rfl⟩
    exact ⟨none, 0, rfl, World.ownsRow_nil _ _ _ _, Below.refl _ _⟩
  · cases e1
    have hcon := Any.slices_Clone_string Tryz.lays2n16 g 0 ss.length c (ss.map fun s => ⟨s.toArray⟩) w (by simp) (by omega) (fun j hj => by
      have hj' : j < ss.length := by simpa using hj
      have h1 := (hown.cellAt j (by omega))
      rw [Nat.zero_add, h1]
      simp [encS, List.getElem?_eq_getElem hj', List.getD])
    refine Calls.mono hcon ?_
    rintro e w' ⟨v', rfl, hr, hne, hb⟩
    rw [List.take_of_length_le (by simp)] at hr
    have hsh : ∃ A' c', v' = .slice A' ss.length c' := by
      rcases hr.2 with ⟨e1, _⟩ | ⟨g', cap', cur', e1, _⟩
      · exact absurd e1 hne
      · exact ⟨_, _, e1⟩
    obtain ⟨A', c', rfl⟩ := hsh
    refine ⟨A', c', rfl, ?_, hb⟩
    have hr' : w'.ownsRow w.heap.size 9 1 (.slice A' ss.length c') ss.length ((ss.map fun s => (⟨s.toArray⟩ : ByteArray)).map .string) := hr
    rw [List.map_map] at hr'
    exact hr'
end Go.Proofs.YtmickenajhppoaaGreatDoor
