import Derived.Test.YtmickenajhppoaaGreatDoorZ28
/- Walks: the copy of a tree, and a tree without what is at a path: the reference's. -/
namespace Go.Proofs.YtmickenajhppoaaGreatDoor
open Go.RowKit

set_option maxRecDepth 100000 in
set_option maxHeartbeats 1600000 in
theorem spec_l4Copy_any (A : Option Addr) (n c : Nat) (xs : List PFile) (w : World) (lo hi : Nat) (h : Rep w lo hi (encFiles xs) (.slice A n c)) (hh : hi ≤ w.heap.size) (hsm : smallTree xs) :
    Calls Tryz.prog 20 #[.slice A n c] w fun e w' => ∃ A n c, e = .returned (.slice A n c) ∧ Below w.heap.size w w' ∧ Fresh w' w.heap.size w'.heap.size (encFiles xs) (.slice A n c) := by
  have hl := Files.n h
  obtain ⟨hc, hm⟩ := Files.cap h
  subst hl
  obtain ⟨hx8, hxt⟩ := hsm
  have Hxt := Lib.hid hxt
  clear hxt
  obtain ⟨ih, gi0, gi1, gi2, gi3⟩ := info_parts Tryz.infoFile
  obtain ⟨is, si0, si1, si2, si3⟩ := info_parts Tryz.infoStr
  go_enter Tryz.func20, Tryz.ntmps20
  go_wp2
  go_loopw [3, 4] (fun t i wr => ∃ (k : Nat) (done : List PFile) (A' : Option Addr) (n' c' : Nat), k ≤ xs.length ∧ t = .slice A' n' c' ∧ i = .int .i64 k ∧ done.length = k ∧
      Hid (done = xs.take k) ∧ Fresh wr w.heap.size wr.heap.size (encFiles done) (.slice A' n' c') ∧ Below w.heap.size w wr) (fun _ i _ => xs.length - (intOf i).toNat)
  case atStart => exact ⟨0, [], _, _, _, Nat.zero_le _, rfl, rfl, rfl, Lib.hid (by simp), (Fresh.of_row (World.ownsRow_made w #[] 0 (Nat.le_refl _) (Nat.zero_le _) rfl) ⟨rfl, rfl⟩ : Fresh _ _ _ (.sl 48 2 []) _), (Below.refl _ _).alloc (Nat.le_refl _) _⟩
  case round =>
    obtain ⟨k, done, A', n', c', hk, rfl, rfl, hdk, ht, hf, hb⟩ := hrel
    by_cases hkn : k < xs.length
    · have hkn' : (k : Int) < (xs.length : Int) := by omega
      have hsz := hb.size
      obtain ⟨b1, o1, x, rfl, hblo, hbhi, hxk, B1, m1, e1, d0, d1, r1⟩ := Files.at (h.keep hb hh) hkn
      have hxl := Hxt.out x (List.mem_of_getElem? hxk)
      have hn1 := Text.n r1
      subst hn1
      have ht2 : done ++ [x] = xs.take (k + 1) := by rw [List.take_add_one, hxk, ht.out]; rfl
      have Ht := Lib.hid ht2
      have hhr : hi ≤ wr.heap.size := Nat.le_trans hh hsz
      have hb1r : b1 < wr.heap.size := Nat.lt_of_lt_of_le hbhi hhr
      clear ht2 hxk
      have hnd := Files.n hf.rep
      subst hnd
      obtain ⟨us, G, hown, ho, hnodup, hbd0⟩ := hf.row_of
      have hrowne : some b1 ≠ (Value.slice A' done.length c').ownBlock := fun e => by
        have := (hbd0 b1 (List.mem_append_left _ (by rw [← e]; simp))).1
        omega
      have hdl : done.length ≤ 1000000 := by omega
      have Hdk := Lib.hid hdk
      clear hdk hf
      have M1 : ((wr.alloc (Obj.cells #[] 9)).drew).ownsRow wr.heap.size 9 1 (.slice (some ⟨wr.heap.size, 0, none⟩) 0 0) 0 [] := World.ownsRow_made wr #[] 0 (Nat.le_refl _) (Nat.zero_le _) rfl
      go_wp2
      go_region_held3 (fun w' => w'.cell? ⟨b1, o1 + k * 2, none⟩ = some (.string ⟨x.path.toArray⟩) ∧ w'.cell? ⟨b1, o1 + k * 2 + 1, none⟩ = some (.slice B1 x.text.length e1)) (first | trivial | exact ⟨cy0, cy1⟩ | exact ⟨cw0, cw1⟩ | go_keep) (first
        | (
           refine step_append_src _ (by rfl) (.tmp 18) (.tmp 23) _ (by rfl) wr.heap.size 9 is _ 1 16 Tryz.underlying38 si0 si1 si2 si3 (by rfl) (by omega) _ 0 [] (by rfl) M1 B1 x.text.length e1 _ (by rfl) (Text.src (r1.keep (B := wr.heap.size) (by (repeat' (first | with_reducible exact Below.refl _ _ | with_reducible assumption | (with_reducible refine Below.setCell ?_ ?_ _) | (with_reducible refine Below.alloc ?_ ?_ _) | (with_reducible refine below_drewN ?_ _) | (with_reducible refine Below.drew ?_) | omega | (simp; done) | (simp; omega)))) hhr)) (texts_one _) (by unfold maxLen; omega) (by omega) (by first | omega | (simp; done) | (simp; omega)) ?_
           intro A5 c5 w5 hown5 hg5 hat5
           change World.grownBy _ w5 (Value.slice (some ⟨wr.heap.size, 0, none⟩) 0 0).ownBlock at hg5
           rw [Nat.zero_add] at hown5
           have hb5 : Below wr.heap.size wr w5 := Below.grown (by (repeat' (first | with_reducible exact Below.refl _ _ | with_reducible assumption | (with_reducible refine Below.setCell ?_ ?_ _) | (with_reducible refine Below.alloc ?_ ?_ _) | (with_reducible refine below_drewN ?_ _) | (with_reducible refine Below.drew ?_) | omega | (simp; done) | (simp; omega)))) hg5 (by first | omega | (simp; done) | (simp; omega)) (fun g hg => by simp [Value.ownBlock] at hg; omega)
           have cw0 : w5.cell? ⟨b1, o1 + k * 2, none⟩ = some (.string ⟨x.path.toArray⟩) := (hb5.cell (p := ⟨b1, o1 + k * 2, none⟩) hb1r).trans d0
           have cw1 : w5.cell? ⟨b1, o1 + k * 2 + 1, none⟩ = some (.slice B1 x.text.length e1) := (hb5.cell (p := ⟨b1, o1 + k * 2 + 1, none⟩) hb1r).trans d1)
        | (
           have hown7 := ownsRow_same (w' := w5) hown (fun q hq => hb5.block q (hown.lt q (by simpa using hq)).2)
           refine step_append_src _ (by rfl) (.tmp 12) (.tmp 26) _ (by rfl) w.heap.size 48 ih _ 2 40 Tryz.underlying26 gi0 gi1 gi2 gi3 (by rfl) (by omega) _ (done.length) us (by rfl) (hown7.alloc _) _ 1 1 [.string ⟨x.path.toArray⟩, .slice A5 x.text.length c5] (by rfl) (Src.lit w5 48 [.string ⟨x.path.toArray⟩, .slice A5 x.text.length c5] 2 1 rfl) (by intro u hu; simp at hu; rcases hu with rfl | rfl <;> rfl) (by unfold maxLen; omega) (by omega) (by have := hb5.size; simp at *; omega) ?_
           clear hown7
           intro A7 c7 w7 hown7 hg7 hat7
           change World.grownBy _ w7 (Value.slice A' (done.length) c').ownBlock at hg7
           change _ = (Value.slice A' (done.length) c').ownBlock ∨ _ at hat7
           have cy0 : w7.cell? ⟨b1, o1 + k * 2, none⟩ = some (.string ⟨x.path.toArray⟩) := (World.cell?_of_block ((hg7.block _ (by simp; have := hb5.size; simp at *; omega) hrowne).trans (Below.heap_alloc w5 _ _ (by have := hb5.size; simp at *; omega)))).trans cw0
           have cy1 : w7.cell? ⟨b1, o1 + k * 2 + 1, none⟩ = some (.slice B1 x.text.length e1) := (World.cell?_of_block ((hg7.block _ (by simp; have := hb5.size; simp at *; omega) hrowne).trans (Below.heap_alloc w5 _ _ (by have := hb5.size; simp at *; omega)))).trans cw1))
      have hs5 := hb5.size
      have hf5 : Fresh w5 wr.heap.size w5.heap.size (encText x.text) (.slice A5 x.text.length c5) := Fresh.of_row hown5 (owns_strs _ _)
      have hbV := hb.trans (hb5.mono hsz)
      have hs36 := hbV.size
      have hbX := hbV.alloc hs36 (Obj.cells #[.string ⟨x.path.toArray⟩, .slice A5 x.text.length c5] 48)
      have hb7 := hbX.grown hg7 (by simp; omega) (fun g hg => (hown.lt g hg).1)
      have hr5 : Fresh (w5.alloc (Obj.cells #[.string ⟨x.path.toArray⟩, .slice A5 x.text.length c5] 48)) wr.heap.size w5.heap.size (encText x.text) (.slice A5 x.text.length c5) := hf5.same ((Same.refl _ _ _).alloc (Nat.le_refl _) _)
      have hnew : FreshL (w5.alloc (Obj.cells #[.string ⟨x.path.toArray⟩, .slice A5 x.text.length c5] 48)) wr.heap.size w5.heap.size (cFiles x) [.string ⟨x.path.toArray⟩, .slice A5 x.text.length c5] :=
        FreshL.plain ⟨rfl, rfl⟩ (Fresh.one hr5)
      have hk6' : ∀ zz ∈ G, (w5.alloc (Obj.cells #[.string ⟨x.path.toArray⟩, .slice A5 x.text.length c5] 48)).heap[zz]? = wr.heap[zz]? := fun zz hq => by
        have := hbd0 zz (List.mem_append_right _ hq)
        exact (Below.heap_alloc w5 _ zz (by omega)).trans (hb5.block zz (by omega))
      have ho7 := Owns.same _ _ _ ho hk6'
      have hfin := Fresh.grew ho7 hnodup hbd0 hnew hown7 hg7 hat7 hs5 (by simp) hsz
      have hcons : done.flatMap cFiles ++ cFiles x = (done ++ [x]).flatMap cFiles := by simp
      rw [hcons] at hfin
      have Hf := Lib.hid hfin
      clear hfin hcons hnew hr5 hk6' hown7 hg7 hat7 hbX hbV hf5 hb5 ho7 ho hown hown5 hg5 hat5 M1
      go_wp2
      go_roundw
      case rel => exact ⟨k + 1, done ++ [x], _, _, _, by omega, rfl, by go_num, by simp [Hdk.out], Ht, Hf.out, hb7⟩
      case measure => simp [intOf]; omega
    · obtain rfl : k = xs.length := by omega
      go_wp2
      go_ret
      have ht := ht.out
      rw [List.take_length] at ht
      subst ht
      exact ⟨_, _, _, rfl, hb, hf⟩


end Go.Proofs.YtmickenajhppoaaGreatDoor
