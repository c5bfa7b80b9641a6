/- Walks: the reference's part of three pieces. -/
import Derived.Test.YtfigfpoklppkgaaMergePut
import Derived.Laws.Rows
namespace Go.Proofs.Ytfigfpoklppkgaa
open Go.RowKit

def partOf (old one two : List Str) : PPart := if one = old ∨ one = two then newPart two else if two = old then newPart one else clashPart old one two
theorem partOf_two {old one two : List Str} (h : one = old ∨ one = two) : partOf old one two = newPart two := by unfold partOf; rw [if_pos h]
theorem partOf_one {old one two : List Str} (h : ¬ (one = old ∨ one = two)) (h2 : two = old) : partOf old one two = newPart one := by unfold partOf; rw [if_neg h, if_pos h2]
theorem partOf_clash {old one two : List Str} (h : ¬ (one = old ∨ one = two)) (h2 : ¬ two = old) : partOf old one two = clashPart old one two := by unfold partOf; rw [if_neg h, if_neg h2]
def five (w : World) (g : Nat) (b0 b1 b2 b3 b4 : Value) : World := ((((w.setCell ⟨g, 0, none⟩ b0).setCell ⟨g, 1, none⟩ b1).setCell ⟨g, 2, none⟩ b2).setCell ⟨g, 3, none⟩ b3).setCell ⟨g, 4, none⟩ b4
theorem five_row {w : World} {g : Nat} {t : TypeId} {a0 a1 a2 a3 a4 : Value} (b0 b1 b2 b3 b4 : Value) (h : w.heap[g]? = some (.cells #[a0, a1, a2, a3, a4] t (0, 0))) : (five w g b0 b1 b2 b3 b4).heap[g]? = some (.cells #[b0, b1, b2, b3, b4] t (0, 0)) := by
  have e1 := heap_setCell_same w g 0 _ t b0 h
  have e2 := heap_setCell_same _ g 1 _ t b1 e1
  have e3 := heap_setCell_same _ g 2 _ t b2 e2
  have e4 := heap_setCell_same _ g 3 _ t b3 e3
  have e5 := heap_setCell_same _ g 4 _ t b4 e4
  exact e5
theorem five_same {w : World} {g lo hi : Nat} (b0 b1 b2 b3 b4 : Value) (h : g < lo ∨ hi ≤ g) : Same lo hi w (five w g b0 b1 b2 b3 b4) :=
  (((((Same.refl lo hi w).setCell h b0).setCell h b1).setCell h b2).setCell h b3).setCell h b4
theorem five_below {w w' : World} {g B : Nat} (b0 b1 b2 b3 b4 : Value) (hb : Below B w w') (h : B ≤ g) : Below B w (five w' g b0 b1 b2 b3 b4) :=
  ((((hb.setCell h b0).setCell h b1).setCell h b2).setCell h b3).setCell h b4
theorem five_size (w : World) (g : Nat) (b0 b1 b2 b3 b4 : Value) : (five w g b0 b1 b2 b3 b4).heap.size = w.heap.size := by simp [five]
theorem own_noText' (w : World) : Own w (encText []) (.slice none 0 0) [] := ⟨0, [], [], World.ownsRow_nil w 0 _ _, rfl, rfl, rfl⟩

set_option maxRecDepth 100000 in
set_option maxHeartbeats 3200000 in
theorem spec_l3Part_any (A1 A2 A3 : Option Addr) (n1 c1 n2 c2 n3 c3 : Nat) (xs ys zs : List Str) (w : World) (lo hi : Nat) (h1 : Rep w lo hi (encText xs) (.slice A1 n1 c1)) (h2 : Rep w lo hi (encText ys) (.slice A2 n2 c2)) (h3 : Rep w lo hi (encText zs) (.slice A3 n3 c3))
    (hh : hi ≤ w.heap.size) (hx : xs.length ≤ 1048576) (hy : ys.length ≤ 1048576) (hz : zs.length ≤ 1048576) :
    Calls Try.prog 21 #[.slice A1 n1 c1, .slice A2 n2 c2, .slice A3 n3 c3] w fun e w' => ∃ us : List Value, e = .returned (.agg us.toArray) ∧ Below w.heap.size w w' ∧ FreshL w' w.heap.size w'.heap.size (cParts (partOf xs ys zs)) us := by
  have hl1 := Text.n h1
  have hl2 := Text.n h2
  have hl3 := Text.n h3
  obtain ⟨hc1, hm1⟩ := Text.cap h1
  obtain ⟨hc2, hm2⟩ := Text.cap h2
  obtain ⟨hc3, hm3⟩ := Text.cap h3
  subst hl1 hl2 hl3
  obtain ⟨is, si0, si1, si2, si3⟩ := info_parts Try.infoStr
  have hbx := fun o => (Below.refl w.heap.size w).alloc (Nat.le_refl _) o
  have hW : ∀ k, Below w.heap.size w (((w.alloc (Obj.cells #[.bool false, .slice none 0 0, .slice none 0 0, .slice none 0 0, .slice none 0 0] 31)).drewN k).alloc (.cells #[] 9)) := fun k => (below_drewN (hbx _) k).alloc (by show w.heap.size ≤ (w.alloc _).heap.size; simp) _
  have hE : ∀ k, ((w.alloc (Obj.cells #[.bool false, .slice none 0 0, .slice none 0 0, .slice none 0 0, .slice none 0 0] 31)).drewN k).heap.size = w.heap.size + 1 := fun k => by show (w.alloc _).heap.size = _; simp
  have hZ : ∀ k, w.heap.size + 1 ≤ (((w.alloc (Obj.cells #[.bool false, .slice none 0 0, .slice none 0 0, .slice none 0 0, .slice none 0 0] 31)).drewN k).alloc (.cells #[] 9)).heap.size := fun k => by have := ((Below.refl 0 ((w.alloc (Obj.cells #[.bool false, .slice none 0 0, .slice none 0 0, .slice none 0 0, .slice none 0 0] 31)).drewN k)).alloc (Nat.zero_le _) (.cells #[] 9)).size; rwa [hE k] at this
  have hC : ∀ k, (((w.alloc (Obj.cells #[.bool false, .slice none 0 0, .slice none 0 0, .slice none 0 0, .slice none 0 0] 31)).drewN k).alloc (.cells #[] 9)).heap[w.heap.size]? = some (Obj.cells #[.bool false, .slice none 0 0, .slice none 0 0, .slice none 0 0, .slice none 0 0] 31) := fun k => (Below.heap_alloc _ _ _ (by rw [hE k]; omega)).trans (heap_new' w _)
  have hM : ∀ k, (((w.alloc (Obj.cells #[.bool false, .slice none 0 0, .slice none 0 0, .slice none 0 0, .slice none 0 0] 31)).drewN k).alloc (.cells #[] 9)).ownsRow (w.heap.size + 1) 9 1 (.slice (some ⟨w.heap.size + 1, 0, none⟩) 0 0) 0 [] := fun k => by
    have := World.ownsRow_made ((w.alloc (Obj.cells #[.bool false, .slice none 0 0, .slice none 0 0, .slice none 0 0, .slice none 0 0] 31)).drewN k) #[] (e := 9) (size := 1) (base := w.heap.size + 1) 0 (by rw [hE k]; exact Nat.le_refl _) (Nat.zero_le _) rfl
    rwa [hE k] at this
  by_cases e1 : ys = xs
  · have H1 := Lib.hid (partOf_two (Or.inl e1 : ys = xs ∨ ys = zs))
    have E1 := Lib.hid e1
    clear e1
    go_enter Try.func21, Try.ntmps21
    go_wp2_with fail
    refine Calls.mono (spec_l1Same_any _ _ _ _ _ _ ys xs _ lo hi lo hi ((h2.keep (hbx _) hh).same (fun _ _ _ => rfl)) ((h1.keep (hbx _) hh).same (fun _ _ _ => rfl))) ?_
    rw [decide_eq_true E1.out]
    rintro e _ ⟨rfl, _, rfl⟩
    go_wp2_with (at_builtin; refine wpList_append_src _ rfl (.tmp 14) (.tmp 15) _ rfl (w.heap.size + 1) 9 is _ 1 16 Try.underlying22 si0 si1 si2 si3 rfl (by omega) _ 0 _ rfl (hM _) _ zs.length c3 _ rfl (Text.src (h3.keep (hW _) hh)) ?e2 ?e3 ?e4 ?e5 ?_)
    case e2 => exact texts_one _
    case e3 => unfold maxLen; omega
    case e4 => omega
    case e5 => exact hZ _
    intro A5 c5 w5 hown5 hg5 hat5
    have hb5 : Below w.heap.size w w5 := (hW _).grown hg5 (hW _).size (fun g hg => by simp [Value.ownBlock] at hg; omega)
    have hs5 : w.heap.size + 1 ≤ w5.heap.size := Nat.le_trans (hZ _) hg5.size
    have hr5 : w5.heap[w.heap.size]? = some (Obj.cells #[.bool false, .slice none 0 0, .slice none 0 0, .slice none 0 0, .slice none 0 0] 31) := (hg5.block w.heap.size (Nat.lt_of_lt_of_le (Nat.lt_succ_self _) (hZ _)) (by simp [Value.ownBlock])).trans (hC _)
    have hF5 := Fresh.of_row hown5 (owns_strs w5 zs)
    have cR : ∀ j v, (#[Value.bool false, .slice none 0 0, .slice none 0 0, .slice none 0 0, .slice none 0 0] : Array Value)[j]? = some v → w5.cell? ⟨w.heap.size, j, none⟩ = some v := fun j v hj => by simp only [World.cell?, hr5]; exact hj
    have c0 := cR 0 _ rfl
    have c1' := cR 1 _ rfl
    have c2' := cR 2 _ rfl
    have c3' := cR 3 _ rfl
    have c4' := cR 4 _ rfl
    have fR : ∀ j, w5.frozen? ⟨w.heap.size, j, none⟩ = false := fun j => by simp [World.frozen?, hr5]
    go_wp2
    have h9 := five_row (.bool false) (.slice A5 zs.length c5) (.slice none 0 0) (.slice none 0 0) (.slice none 0 0) hr5
    refine bodyPost_ret (results_cell_row rfl _ (five w5 w.heap.size (.bool false) (.slice A5 zs.length c5) (.slice none 0 0) (.slice none 0 0) (.slice none 0 0)) w.heap.size _ #[.bool false, .slice A5 zs.length c5, .slice none 0 0, .slice none 0 0, .slice none 0 0] (0, 0) _ rfl h9 Try.underlying31 rfl (by kernel_rfl)) rfl ?_
    have hfr : FreshL (five w5 w.heap.size (.bool false) (.slice A5 zs.length c5) (.slice none 0 0) (.slice none 0 0) (.slice none 0 0)) w.heap.size (five w5 w.heap.size (.bool false) (.slice A5 zs.length c5) (.slice none 0 0) (.slice none 0 0) (.slice none 0 0)).heap.size (cParts (newPart zs)) [.bool false, .slice A5 zs.length c5, .slice none 0 0, .slice none 0 0, .slice none 0 0] := by
      rw [five_size]
      exact FreshL.plain ⟨rfl, rfl⟩ ((FreshL.cons (hF5.same (five_same _ _ _ _ _ (.inl (Nat.lt_succ_self _)))) (FreshL.plain (own_noText' _) (FreshL.plain (own_noText' _) (FreshL.plain (own_noText' _) (FreshL.nil _ w5.heap.size w5.heap.size)))) hs5 (Nat.le_refl _)).mono (Nat.le_succ _) (Nat.le_refl _))
    exact ⟨[.bool false, .slice A5 zs.length c5, .slice none 0 0, .slice none 0 0, .slice none 0 0], rfl, five_below _ _ _ _ _ hb5 (Nat.le_refl _), by rw [H1.out]; exact hfr⟩
  by_cases e2 : ys = zs
  · have H1 := Lib.hid (partOf_two (Or.inr e2 : ys = xs ∨ ys = zs))
    have E1 := Lib.hid e1
    have E2 := Lib.hid e2
    clear e1 e2
    go_enter Try.func21, Try.ntmps21
    go_wp2_with fail
    refine Calls.mono (spec_l1Same_any _ _ _ _ _ _ ys xs _ lo hi lo hi ((h2.keep (hbx _) hh).same (fun _ _ _ => rfl)) ((h1.keep (hbx _) hh).same (fun _ _ _ => rfl))) ?_
    rw [decide_eq_false E1.out]
    rintro e _ ⟨rfl, _, rfl⟩
    go_wp2_with fail
    refine Calls.mono (spec_l1Same_any _ _ _ _ _ _ ys zs _ lo hi lo hi ((h2.keep (hbx _) hh).same (fun _ _ _ => rfl)) ((h3.keep (hbx _) hh).same (fun _ _ _ => rfl))) ?_
    rw [decide_eq_true E2.out]
    rintro e _ ⟨rfl, _, rfl⟩
    go_wp2_with (at_builtin; refine wpList_append_src _ rfl (.tmp 14) (.tmp 15) _ rfl (w.heap.size + 1) 9 is _ 1 16 Try.underlying22 si0 si1 si2 si3 rfl (by omega) _ 0 _ rfl (hM _) _ zs.length c3 _ rfl (Text.src (h3.keep (hW _) hh)) ?e2 ?e3 ?e4 ?e5 ?_)
    case e2 => exact texts_one _
    case e3 => unfold maxLen; omega
    case e4 => omega
    case e5 => exact hZ _
    intro A5 c5 w5 hown5 hg5 hat5
    have hb5 : Below w.heap.size w w5 := (hW _).grown hg5 (hW _).size (fun g hg => by simp [Value.ownBlock] at hg; omega)
    have hs5 : w.heap.size + 1 ≤ w5.heap.size := Nat.le_trans (hZ _) hg5.size
    have hr5 : w5.heap[w.heap.size]? = some (Obj.cells #[.bool false, .slice none 0 0, .slice none 0 0, .slice none 0 0, .slice none 0 0] 31) := (hg5.block w.heap.size (Nat.lt_of_lt_of_le (Nat.lt_succ_self _) (hZ _)) (by simp [Value.ownBlock])).trans (hC _)
    have hF5 := Fresh.of_row hown5 (owns_strs w5 zs)
    have cR : ∀ j v, (#[Value.bool false, .slice none 0 0, .slice none 0 0, .slice none 0 0, .slice none 0 0] : Array Value)[j]? = some v → w5.cell? ⟨w.heap.size, j, none⟩ = some v := fun j v hj => by simp only [World.cell?, hr5]; exact hj
    have c0 := cR 0 _ rfl
    have c1' := cR 1 _ rfl
    have c2' := cR 2 _ rfl
    have c3' := cR 3 _ rfl
    have c4' := cR 4 _ rfl
    have fR : ∀ j, w5.frozen? ⟨w.heap.size, j, none⟩ = false := fun j => by simp [World.frozen?, hr5]
    go_wp2
    have h9 := five_row (.bool false) (.slice A5 zs.length c5) (.slice none 0 0) (.slice none 0 0) (.slice none 0 0) hr5
    refine bodyPost_ret (results_cell_row rfl _ (five w5 w.heap.size (.bool false) (.slice A5 zs.length c5) (.slice none 0 0) (.slice none 0 0) (.slice none 0 0)) w.heap.size _ #[.bool false, .slice A5 zs.length c5, .slice none 0 0, .slice none 0 0, .slice none 0 0] (0, 0) _ rfl h9 Try.underlying31 rfl (by kernel_rfl)) rfl ?_
    have hfr : FreshL (five w5 w.heap.size (.bool false) (.slice A5 zs.length c5) (.slice none 0 0) (.slice none 0 0) (.slice none 0 0)) w.heap.size (five w5 w.heap.size (.bool false) (.slice A5 zs.length c5) (.slice none 0 0) (.slice none 0 0) (.slice none 0 0)).heap.size (cParts (newPart zs)) [.bool false, .slice A5 zs.length c5, .slice none 0 0, .slice none 0 0, .slice none 0 0] := by
      rw [five_size]
      exact FreshL.plain ⟨rfl, rfl⟩ ((FreshL.cons (hF5.same (five_same _ _ _ _ _ (.inl (Nat.lt_succ_self _)))) (FreshL.plain (own_noText' _) (FreshL.plain (own_noText' _) (FreshL.plain (own_noText' _) (FreshL.nil _ w5.heap.size w5.heap.size)))) hs5 (Nat.le_refl _)).mono (Nat.le_succ _) (Nat.le_refl _))
    exact ⟨[.bool false, .slice A5 zs.length c5, .slice none 0 0, .slice none 0 0, .slice none 0 0], rfl, five_below _ _ _ _ _ hb5 (Nat.le_refl _), by rw [H1.out]; exact hfr⟩
  by_cases e3 : zs = xs
  · have H1 := Lib.hid (partOf_one (fun h => h.elim e1 e2) e3)
    have E1 := Lib.hid e1
    have E2 := Lib.hid e2
    have E3 := Lib.hid e3
    clear e1 e2 e3
    go_enter Try.func21, Try.ntmps21
    go_wp2_with fail
    refine Calls.mono (spec_l1Same_any _ _ _ _ _ _ ys xs _ lo hi lo hi ((h2.keep (hbx _) hh).same (fun _ _ _ => rfl)) ((h1.keep (hbx _) hh).same (fun _ _ _ => rfl))) ?_
    rw [decide_eq_false E1.out]
    rintro e _ ⟨rfl, _, rfl⟩
    go_wp2_with fail
    refine Calls.mono (spec_l1Same_any _ _ _ _ _ _ ys zs _ lo hi lo hi ((h2.keep (hbx _) hh).same (fun _ _ _ => rfl)) ((h3.keep (hbx _) hh).same (fun _ _ _ => rfl))) ?_
    rw [decide_eq_false E2.out]
    rintro e _ ⟨rfl, _, rfl⟩
    go_wp2_with fail
    refine Calls.mono (spec_l1Same_any _ _ _ _ _ _ zs xs _ lo hi lo hi ((h3.keep (hbx _) hh).same (fun _ _ _ => rfl)) ((h1.keep (hbx _) hh).same (fun _ _ _ => rfl))) ?_
    rw [decide_eq_true E3.out]
    rintro e _ ⟨rfl, _, rfl⟩
    go_wp2_with (at_builtin; refine wpList_append_src _ rfl (.tmp 22) (.tmp 23) _ rfl (w.heap.size + 1) 9 is _ 1 16 Try.underlying22 si0 si1 si2 si3 rfl (by omega) _ 0 _ rfl (hM _) _ ys.length c2 _ rfl (Text.src (h2.keep (hW _) hh)) ?e2 ?e3 ?e4 ?e5 ?_)
    case e2 => exact texts_one _
    case e3 => unfold maxLen; omega
    case e4 => omega
    case e5 => exact hZ _
    intro A5 c5 w5 hown5 hg5 hat5
    have hb5 : Below w.heap.size w w5 := (hW _).grown hg5 (hW _).size (fun g hg => by simp [Value.ownBlock] at hg; omega)
    have hs5 : w.heap.size + 1 ≤ w5.heap.size := Nat.le_trans (hZ _) hg5.size
    have hr5 : w5.heap[w.heap.size]? = some (Obj.cells #[.bool false, .slice none 0 0, .slice none 0 0, .slice none 0 0, .slice none 0 0] 31) := (hg5.block w.heap.size (Nat.lt_of_lt_of_le (Nat.lt_succ_self _) (hZ _)) (by simp [Value.ownBlock])).trans (hC _)
    have hF5 := Fresh.of_row hown5 (owns_strs w5 ys)
    have cR : ∀ j v, (#[Value.bool false, .slice none 0 0, .slice none 0 0, .slice none 0 0, .slice none 0 0] : Array Value)[j]? = some v → w5.cell? ⟨w.heap.size, j, none⟩ = some v := fun j v hj => by simp only [World.cell?, hr5]; exact hj
    have c0 := cR 0 _ rfl
    have c1' := cR 1 _ rfl
    have c2' := cR 2 _ rfl
    have c3' := cR 3 _ rfl
    have c4' := cR 4 _ rfl
    have fR : ∀ j, w5.frozen? ⟨w.heap.size, j, none⟩ = false := fun j => by simp [World.frozen?, hr5]
    go_wp2
    have h9 := five_row (.bool false) (.slice A5 ys.length c5) (.slice none 0 0) (.slice none 0 0) (.slice none 0 0) hr5
    refine bodyPost_ret (results_cell_row rfl _ (five w5 w.heap.size (.bool false) (.slice A5 ys.length c5) (.slice none 0 0) (.slice none 0 0) (.slice none 0 0)) w.heap.size _ #[.bool false, .slice A5 ys.length c5, .slice none 0 0, .slice none 0 0, .slice none 0 0] (0, 0) _ rfl h9 Try.underlying31 rfl (by kernel_rfl)) rfl ?_
    have hfr : FreshL (five w5 w.heap.size (.bool false) (.slice A5 ys.length c5) (.slice none 0 0) (.slice none 0 0) (.slice none 0 0)) w.heap.size (five w5 w.heap.size (.bool false) (.slice A5 ys.length c5) (.slice none 0 0) (.slice none 0 0) (.slice none 0 0)).heap.size (cParts (newPart ys)) [.bool false, .slice A5 ys.length c5, .slice none 0 0, .slice none 0 0, .slice none 0 0] := by
      rw [five_size]
      exact FreshL.plain ⟨rfl, rfl⟩ ((FreshL.cons (hF5.same (five_same _ _ _ _ _ (.inl (Nat.lt_succ_self _)))) (FreshL.plain (own_noText' _) (FreshL.plain (own_noText' _) (FreshL.plain (own_noText' _) (FreshL.nil _ w5.heap.size w5.heap.size)))) hs5 (Nat.le_refl _)).mono (Nat.le_succ _) (Nat.le_refl _))
    exact ⟨[.bool false, .slice A5 ys.length c5, .slice none 0 0, .slice none 0 0, .slice none 0 0], rfl, five_below _ _ _ _ _ hb5 (Nat.le_refl _), by rw [H1.out]; exact hfr⟩
  · have H1 := Lib.hid (partOf_clash (fun h => h.elim e1 e2) e3)
    have E1 := Lib.hid e1
    have E2 := Lib.hid e2
    have E3 := Lib.hid e3
    clear e1 e2 e3
    go_enter Try.func21, Try.ntmps21
    go_wp2_with fail
    refine Calls.mono (spec_l1Same_any _ _ _ _ _ _ ys xs _ lo hi lo hi ((h2.keep (hbx _) hh).same (fun _ _ _ => rfl)) ((h1.keep (hbx _) hh).same (fun _ _ _ => rfl))) ?_
    rw [decide_eq_false E1.out]
    rintro e _ ⟨rfl, _, rfl⟩
    go_wp2_with fail
    refine Calls.mono (spec_l1Same_any _ _ _ _ _ _ ys zs _ lo hi lo hi ((h2.keep (hbx _) hh).same (fun _ _ _ => rfl)) ((h3.keep (hbx _) hh).same (fun _ _ _ => rfl))) ?_
    rw [decide_eq_false E2.out]
    rintro e _ ⟨rfl, _, rfl⟩
    go_wp2_with fail
    refine Calls.mono (spec_l1Same_any _ _ _ _ _ _ zs xs _ lo hi lo hi ((h3.keep (hbx _) hh).same (fun _ _ _ => rfl)) ((h1.keep (hbx _) hh).same (fun _ _ _ => rfl))) ?_
    rw [decide_eq_false E3.out]
    rintro e _ ⟨rfl, _, rfl⟩
    go_wp2_with (at_builtin; refine wpList_append_src _ rfl (.tmp 26) (.tmp 27) _ rfl (w.heap.size + 1) 9 is _ 1 16 Try.underlying22 si0 si1 si2 si3 rfl (by omega) _ 0 _ rfl (hM _) _ xs.length c1 _ rfl (Text.src (h1.keep (hW _) hh)) ?e2 ?e3 ?e4 ?e5 ?_)
    case e2 => exact texts_one _
    case e3 => unfold maxLen; omega
    case e4 => omega
    case e5 => exact hZ _
    intro A5 c5 w5 hown5 hg5 hat5
    have hb5 : Below w.heap.size w w5 := (hW _).grown hg5 (hW _).size (fun g hg => by simp [Value.ownBlock] at hg; omega)
    have hs5 : w.heap.size + 1 ≤ w5.heap.size := Nat.le_trans (hZ _) hg5.size
    have hr5 : w5.heap[w.heap.size]? = some (Obj.cells #[.bool false, .slice none 0 0, .slice none 0 0, .slice none 0 0, .slice none 0 0] 31) := (hg5.block w.heap.size (Nat.lt_of_lt_of_le (Nat.lt_succ_self _) (hZ _)) (by simp [Value.ownBlock])).trans (hC _)
    have hF5 := Fresh.of_row hown5 (owns_strs w5 xs)
    go_wp2_with (at_builtin; refine wpList_append_src _ rfl (.tmp 29) (.tmp 30) _ rfl w5.heap.size 9 is _ 1 16 Try.underlying22 si0 si1 si2 si3 rfl (by omega) _ 0 _ rfl (World.ownsRow_made w5 #[] 0 (Nat.le_refl _) (Nat.zero_le _) rfl) _ ys.length c2 _ rfl (Text.src (h2.keep (hb5.alloc (by omega) _) hh)) ?e2 ?e3 ?e4 ?e5 ?_)
    case e2 => exact texts_one _
    case e3 => unfold maxLen; omega
    case e4 => omega
    case e5 => simp
    intro A6 c6 w6 hown6 hg6 hat6
    have hbi6 : Below w5.heap.size w5 w6 := ((Below.refl _ _).alloc (Nat.le_refl _) _).grown hg6 (by simp) (fun g hg => by simp [Value.ownBlock] at hg; omega)
    have hb6 : Below w.heap.size w w6 := hb5.trans (hbi6.mono (by omega))
    have hs6 : w.heap.size + 1 ≤ w6.heap.size := Nat.le_trans hs5 hbi6.size
    have hr6 : w6.heap[w.heap.size]? = some (Obj.cells #[.bool false, .slice none 0 0, .slice none 0 0, .slice none 0 0, .slice none 0 0] 31) := (hbi6.block _ (by omega)).trans hr5
    have hF6 := Fresh.of_row hown6 (owns_strs w6 ys)
    go_wp2_with (at_builtin; refine wpList_append_src _ rfl (.tmp 32) (.tmp 33) _ rfl w6.heap.size 9 is _ 1 16 Try.underlying22 si0 si1 si2 si3 rfl (by omega) _ 0 _ rfl (World.ownsRow_made w6 #[] 0 (Nat.le_refl _) (Nat.zero_le _) rfl) _ zs.length c3 _ rfl (Text.src (h3.keep (hb6.alloc (by omega) _) hh)) ?e2 ?e3 ?e4 ?e5 ?_)
    case e2 => exact texts_one _
    case e3 => unfold maxLen; omega
    case e4 => omega
    case e5 => simp
    intro A7 c7 w7 hown7 hg7 hat7
    have hbi7 : Below w6.heap.size w6 w7 := ((Below.refl _ _).alloc (Nat.le_refl _) _).grown hg7 (by simp) (fun g hg => by simp [Value.ownBlock] at hg; omega)
    have hb7 : Below w.heap.size w w7 := hb6.trans (hbi7.mono (by omega))
    have hs7 : w.heap.size + 1 ≤ w7.heap.size := Nat.le_trans hs6 hbi7.size
    have hr7 : w7.heap[w.heap.size]? = some (Obj.cells #[.bool false, .slice none 0 0, .slice none 0 0, .slice none 0 0, .slice none 0 0] 31) := (hbi7.block _ (by omega)).trans hr6
    have hF7 := Fresh.of_row hown7 (owns_strs w7 zs)
    have cR : ∀ j v, (#[Value.bool false, .slice none 0 0, .slice none 0 0, .slice none 0 0, .slice none 0 0] : Array Value)[j]? = some v → w7.cell? ⟨w.heap.size, j, none⟩ = some v := fun j v hj => by simp only [World.cell?, hr7]; exact hj
    have c0 := cR 0 _ rfl
    have c1' := cR 1 _ rfl
    have c2' := cR 2 _ rfl
    have c3' := cR 3 _ rfl
    have c4' := cR 4 _ rfl
    have fR : ∀ j, w7.frozen? ⟨w.heap.size, j, none⟩ = false := fun j => by simp [World.frozen?, hr7]
    go_wp2
    have h9 := five_row (.bool true) (.slice none 0 0) (.slice A5 xs.length c5) (.slice A6 ys.length c6) (.slice A7 zs.length c7) hr7
    refine bodyPost_ret (results_cell_row rfl _ (five w7 w.heap.size (.bool true) (.slice none 0 0) (.slice A5 xs.length c5) (.slice A6 ys.length c6) (.slice A7 zs.length c7)) w.heap.size _ #[.bool true, .slice none 0 0, .slice A5 xs.length c5, .slice A6 ys.length c6, .slice A7 zs.length c7] (0, 0) _ rfl h9 Try.underlying31 rfl (by kernel_rfl)) rfl ?_
    have hl5 : Fresh w7 (w.heap.size + 1) w5.heap.size (encText xs) (.slice A5 xs.length c5) := (hF5.keep hbi6 (Nat.le_refl _)).keep hbi7 hbi6.size
    have hl6 : Fresh w7 w5.heap.size w6.heap.size (encText ys) (.slice A6 ys.length c6) := hF6.keep hbi7 (Nat.le_refl _)
    have hfr : FreshL (five w7 w.heap.size (.bool true) (.slice none 0 0) (.slice A5 xs.length c5) (.slice A6 ys.length c6) (.slice A7 zs.length c7)) w.heap.size (five w7 w.heap.size (.bool true) (.slice none 0 0) (.slice A5 xs.length c5) (.slice A6 ys.length c6) (.slice A7 zs.length c7)).heap.size (cParts (clashPart xs ys zs)) [.bool true, .slice none 0 0, .slice A5 xs.length c5, .slice A6 ys.length c6, .slice A7 zs.length c7] := by
      rw [five_size]
      have := FreshL.cons hl5 (FreshL.cons hl6 hF7.one hbi6.size hbi7.size) hs5 (Nat.le_trans hbi6.size hbi7.size)
      exact FreshL.plain ⟨rfl, rfl⟩ (FreshL.plain (own_noText' _) ((this.same (five_same _ _ _ _ _ (.inl (Nat.lt_succ_self _)))).mono (Nat.le_succ _) (Nat.le_refl _)))
    exact ⟨[.bool true, .slice none 0 0, .slice A5 xs.length c5, .slice A6 ys.length c6, .slice A7 zs.length c7], rfl, five_below _ _ _ _ _ hb7 (Nat.le_refl _), by rw [H1.out]; exact hfr⟩
end Go.Proofs.Ytfigfpoklppkgaa
