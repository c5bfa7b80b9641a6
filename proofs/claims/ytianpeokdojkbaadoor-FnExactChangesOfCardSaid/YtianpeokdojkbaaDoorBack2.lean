/- Walk: a patch taken back: the reference's. -/
import Derived.Test.YtianpeokdojkbaaDoorBack
namespace Go.Proofs.YtianpeokdojkbaaDoor
open Go.RowKit

set_option maxRecDepth 100000 in
set_option maxHeartbeats 1600000 in
theorem spec_l2Back_any (A : Option Addr) (n c : Nat) (xs : List PHunk) (w : World) (lo hi : Nat) (h : Rep w lo hi (encHunks xs) (.slice A n c)) (hh : hi ≤ w.heap.size) (hx : ∀ x ∈ xs, hunkOk x = true) (hl8 : xs.length ≤ 8) :
    Calls Tryd.prog 37 #[.slice A n c] w fun e w' => ∃ A n c, e = .returned (.slice A n c) ∧ Below w.heap.size w w' ∧ Fresh w' w.heap.size w'.heap.size (encHunks (backFrom xs 0)) (.slice A n c) := by
  have hl := Hunks.n h
  obtain ⟨hc, hm⟩ := Hunks.cap h
  subst hl
  obtain ⟨ih, gi0, gi1, gi2, gi3⟩ := info_parts Tryd.infoHunk
  obtain ⟨is, si0, si1, si2, si3⟩ := info_parts Tryd.infoStr
  have hb0 : Below w.heap.size w (w.alloc (.cells #[] 73)) := (Below.refl _ _).alloc (Nat.le_refl _) _
  have hmade : (w.alloc (.cells #[] 73)).ownsRow w.heap.size 73 3 (.slice (some ⟨w.heap.size, 0, none⟩) 0 0) 0 [] := World.ownsRow_made w #[] 0 (Nat.le_refl _) (Nat.zero_le _) rfl
  have hout0 : Fresh (w.alloc (.cells #[] 73)) w.heap.size (w.alloc (.cells #[] 73)).heap.size (encHunks []) (.slice (some ⟨w.heap.size, 0, none⟩) 0 0) := Fresh.of_row hmade (ps := []) ⟨rfl, rfl⟩
  clear hmade
  go_enter Tryd.func37, Tryd.ntmps37
  go_wp2
  go_loopw [3, 4, 5] (fun t b i wr => ∃ (k : Nat) (s : Int) (done : List PHunk) (A' : Option Addr) (n' c' : Nat), k ≤ xs.length ∧ t = .slice A' n' c' ∧ b = .int .i64 s ∧ i = .int .i64 k ∧ -(10 * (k : Int)) ≤ s ∧ s ≤ 10 * k ∧ done.length = k ∧
      Hid (done ++ backFrom (xs.drop k) s = backFrom xs 0) ∧ Fresh wr w.heap.size wr.heap.size (encHunks done) (.slice A' n' c') ∧ Below w.heap.size w wr) (fun _ _ i _ => xs.length - (intOf i).toNat)
  case atStart => exact ⟨0, 0, [], _, _, _, Nat.zero_le _, rfl, rfl, rfl, by omega, by omega, rfl, Lib.hid (by simp), hout0, hb0⟩
  case round =>
    clear hout0 hb0
    obtain ⟨k, s, done, A', n', c', hk, rfl, rfl, rfl, hs0, hs1, hdk, ht, hf, hb⟩ := hrel
    by_cases hkn : k < xs.length
    · have hkn' : (k : Int) < (xs.length : Int) := by omega
      have hsb := hb.size
      obtain ⟨b1, o1, x, rfl, hblo, hbhi, hxk, B1, m1, e1, B2, m2, e2, d0, d1, r1, d2, r2⟩ := Hunks.at (h.keep hb hh) hkn
      obtain ⟨x1, x2, _, _, x3, x4, _⟩ := hunkOk_facts (hx x (List.mem_of_getElem? hxk))
      have hst := drop_cons hxk
      have ht2 := ht.out
      rw [hst, backFrom] at ht2
      have Ht := Lib.hid ht2
      have hn1 := Text.n r1
      have hn2 := Text.n r2
      subst hn1 hn2
      have hwr : IntKind.i64.wrap (x.at_ + s) = x.at_ + s := by rw [IntKind.wrap_i64]; omega
      have hb1lt : b1 < wr.heap.size := by omega
      have hhr : hi ≤ wr.heap.size := by omega
      have hnd := Hunks.n hf.rep
      subst hnd
      obtain ⟨us, G, hown, ho, hnodup, hbd⟩ := hf.row_of
      have hdl : done.length ≤ 8 := by omega
      have Hdk := Lib.hid hdk
      clear hdk
      have hkk0 : (0 : Int) ≤ (k : Int) := by omega
      clear hst ht2 hxk hf
      go_wp2
      have M1 : (wr.alloc (Obj.cells #[] 9)).drew.ownsRow wr.heap.size 9 1 (.slice (some ⟨wr.heap.size, 0, none⟩) 0 0) 0 [] := World.ownsRow_made wr #[] 0 (Nat.le_refl _) (Nat.zero_le _) rfl
      have M2 : ((wr.alloc (Obj.cells #[] 9)).alloc (Obj.cells #[] 9)).drew.ownsRow wr.heap.size 9 1 (.slice (some ⟨wr.heap.size, 0, none⟩) 0 0) 0 [] := (World.ownsRow_made wr #[] 0 (Nat.le_refl _) (Nat.zero_le _) rfl).alloc _
      have M3 : ((wr.alloc (Obj.cells #[] 9)).alloc (Obj.cells #[] 9)).drew.ownsRow wr.heap.size 9 1 (.slice (some ⟨wr.heap.size + 1, 0, none⟩) 0 0) 0 [] := by
        have := World.ownsRow_made (wr.alloc (Obj.cells #[] 9)) #[] (e := 9) (size := 1) (base := wr.heap.size) 0 (by simp) (Nat.zero_le _) rfl
        simp at this
        exact this
      go_region_held3 (fun w' => w'.cell? ⟨b1, o1 + k * 3, none⟩ = some (.int .i64 x.at_) ∧ w'.cell? ⟨b1, o1 + k * 3 + 1, none⟩ = some (.slice B1 x.less.length e1) ∧ w'.cell? ⟨b1, o1 + k * 3 + 2, none⟩ = some (.slice B2 x.more.length e2)) ((first | trivial | (refine ⟨?_, ?_, ?_⟩ <;> assumption) | go_keep)) (first
        | (
        refine step_append_src _ (by rfl) (.tmp 21) (.tmp 26) _ (by rfl) wr.heap.size 9 is _ 1 16 Tryd.underlying39 si0 si1 si2 si3 (by rfl) (by omega) _ 0 [] (by rfl) (by first | exact M1 | exact M2 | exact M3) B2 x.more.length e2 _ (by rfl) (Text.src (r2.keep (B := wr.heap.size) (by (repeat' (first | with_reducible exact Below.refl _ _ | with_reducible assumption | (with_reducible refine Below.setCell ?_ ?_ _) | (with_reducible refine Below.alloc ?_ ?_ _) | (with_reducible refine below_drewN ?_ _) | (with_reducible refine Below.drew ?_) | omega | (simp; done) | (simp; omega)))) hhr)) (texts_one _) (by unfold maxLen; omega) (by omega) (by first | omega | (simp; done) | (simp; omega)) ?_
        intro A5 c5 w5 hown5 hg5 hat5
        first
        | (change World.grownBy _ w5 (Value.slice (some ⟨wr.heap.size, 0, none⟩) 0 0).ownBlock at hg5; change _ = (Value.slice (some ⟨wr.heap.size, 0, none⟩) 0 0).ownBlock ∨ _ at hat5)
        | (change World.grownBy _ w5 (Value.slice (some ⟨wr.heap.size + 1, 0, none⟩) 0 0).ownBlock at hg5; change _ = (Value.slice (some ⟨wr.heap.size + 1, 0, none⟩) 0 0).ownBlock ∨ _ at hat5)
        rw [Nat.zero_add] at hown5 hat5
        have hb5 : Below wr.heap.size wr w5 := Below.grown (by (repeat' (first | with_reducible exact Below.refl _ _ | with_reducible assumption | (with_reducible refine Below.setCell ?_ ?_ _) | (with_reducible refine Below.alloc ?_ ?_ _) | (with_reducible refine below_drewN ?_ _) | (with_reducible refine Below.drew ?_) | omega | (simp; done) | (simp; omega)))) hg5 (by first | omega | (simp; done) | (simp; omega)) (fun g hg => by simp [Value.ownBlock] at hg; omega)
        have hs5 : wr.heap.size ≤ w5.heap.size := hb5.size
        have hlt5 := hown5.lt
        have cc0w5 : w5.cell? ⟨b1, o1 + k * 3, none⟩ = some (.int .i64 x.at_) := (hb5.cell (p := ⟨b1, o1 + k * 3, none⟩) hb1lt).trans d0
        have cc1w5 : w5.cell? ⟨b1, o1 + k * 3 + 1, none⟩ = some (.slice B1 x.less.length e1) := (hb5.cell (p := ⟨b1, o1 + k * 3 + 1, none⟩) hb1lt).trans d1
        have cc2w5 : w5.cell? ⟨b1, o1 + k * 3 + 2, none⟩ = some (.slice B2 x.more.length e2) := (hb5.cell (p := ⟨b1, o1 + k * 3 + 2, none⟩) hb1lt).trans d2)
        | (
        refine step_append_src _ (by rfl) (.tmp 28) (.tmp 33) _ (by rfl) wr.heap.size 9 is _ 1 16 Tryd.underlying39 si0 si1 si2 si3 (by rfl) (by omega) _ 0 [] (by rfl) (by first | exact World.ownsRow_made w5 #[] 0 hs5 (Nat.zero_le _) rfl | exact M3.kept hg5 (.inr (by simp [Value.ownBlock])) | exact M2.kept hg5 (.inr (by simp [Value.ownBlock]))) B1 x.less.length e1 _ (by rfl) (Text.src (r1.keep (B := wr.heap.size) (by (repeat' (first | with_reducible exact Below.refl _ _ | with_reducible assumption | (with_reducible refine Below.setCell ?_ ?_ _) | (with_reducible refine Below.alloc ?_ ?_ _) | (with_reducible refine below_drewN ?_ _) | (with_reducible refine Below.drew ?_) | omega | (simp; done) | (simp; omega)))) hhr)) (texts_one _) (by unfold maxLen; omega) (by omega) (by first | omega | (simp; done) | (simp; omega)) ?_
        intro A6 c6 w6 hown6 hg6 hat6
        first
        | (change World.grownBy _ w6 (Value.slice (some ⟨w5.heap.size, 0, none⟩) 0 0).ownBlock at hg6; change _ = (Value.slice (some ⟨w5.heap.size, 0, none⟩) 0 0).ownBlock ∨ _ at hat6)
        | (change World.grownBy _ w6 (Value.slice (some ⟨wr.heap.size, 0, none⟩) 0 0).ownBlock at hg6; change _ = (Value.slice (some ⟨wr.heap.size, 0, none⟩) 0 0).ownBlock ∨ _ at hat6)
        | (change World.grownBy _ w6 (Value.slice (some ⟨wr.heap.size + 1, 0, none⟩) 0 0).ownBlock at hg6; change _ = (Value.slice (some ⟨wr.heap.size + 1, 0, none⟩) 0 0).ownBlock ∨ _ at hat6)
        rw [Nat.zero_add] at hown6 hat6
        have hb6 : Below wr.heap.size wr w6 := Below.grown (by (repeat' (first | with_reducible exact Below.refl _ _ | with_reducible assumption | (with_reducible refine Below.setCell ?_ ?_ _) | (with_reducible refine Below.alloc ?_ ?_ _) | (with_reducible refine below_drewN ?_ _) | (with_reducible refine Below.drew ?_) | omega | (simp; done) | (simp; omega)))) hg6 (by first | omega | (simp; done) | (simp; omega)) (fun g hg => by simp [Value.ownBlock] at hg; omega)
        have hs6 : wr.heap.size ≤ w6.heap.size := hb6.size
        have hn56 : ∀ g, (Value.slice A5 x.more.length c5).ownBlock = some g → (Value.slice A6 x.less.length c6).ownBlock ≠ some g := by
          intro g hg hg'
          have hl := (hlt5 g hg).2
          rw [hg] at hat5
          rw [hg'] at hat6
          simp [Value.ownBlock] at hat5 hat6
          omega
        have hX5 : w6.ownsRow wr.heap.size 9 1 (.slice A5 x.more.length c5) x.more.length (x.more.map fun s => .string ⟨s.toArray⟩) := by
          first
          | exact (hown5.alloc _).kept hg6 (apart_row (fun g hg e => by
              have hl := (hlt5 g hg).2
              rw [hg] at hat5
              simp [Value.ownBlock] at hat5 e
              omega))
          | exact hown5.kept hg6 (apart_row (fun g hg e => by
              have hl := (hlt5 g hg).2
              rw [hg] at hat5
              simp [Value.ownBlock] at hat5 e
              omega))
        have cc0w6 : w6.cell? ⟨b1, o1 + k * 3, none⟩ = some (.int .i64 x.at_) := (hb6.cell (p := ⟨b1, o1 + k * 3, none⟩) hb1lt).trans d0
        have cc1w6 : w6.cell? ⟨b1, o1 + k * 3 + 1, none⟩ = some (.slice B1 x.less.length e1) := (hb6.cell (p := ⟨b1, o1 + k * 3 + 1, none⟩) hb1lt).trans d1
        have cc2w6 : w6.cell? ⟨b1, o1 + k * 3 + 2, none⟩ = some (.slice B2 x.more.length e2) := (hb6.cell (p := ⟨b1, o1 + k * 3 + 2, none⟩) hb1lt).trans d2)
        | (
        have hown7 := ownsRow_same (w' := w6) hown (fun q hq => hb6.block q (hown.lt q (by simpa using hq)).2)
        refine step_append_src _ (by rfl) (.tmp 13) (.tmp 36) _ (by rfl) w.heap.size 73 ih _ 3 56 Tryd.underlying48 gi0 gi1 gi2 gi3 (by rfl) (by omega) _ (done.length) us (by rfl) (hown7.alloc _) _ 1 1 [.int .i64 (x.at_ + s), .slice A5 x.more.length c5, .slice A6 x.less.length c6] (by rfl) (Src.lit w6 73 [.int .i64 (x.at_ + s), .slice A5 x.more.length c5, .slice A6 x.less.length c6] 3 1 rfl) (by intro u hu; simp at hu; rcases hu with rfl | rfl | rfl <;> rfl) (by unfold maxLen; omega) (by omega) (by first | omega | (simp; done) | (simp; omega)) ?_
        clear hown7
        intro A7 c7 w7 hown7 hg7 hat7
        change World.grownBy _ w7 (Value.slice A' (done.length) c').ownBlock at hg7
        change _ = (Value.slice A' (done.length) c').ownBlock ∨ _ at hat7
        have cy0 : w7.cell? ⟨b1, o1 + k * 3, none⟩ = some (.int .i64 x.at_) := (World.cell?_of_block ((hg7.block b1 (by simp; omega) (fun e => by have := (hown.lt b1 e.symm).1; omega)).trans (Below.heap_alloc w6 _ b1 (by omega)))).trans cc0w6
        have cy1 : w7.cell? ⟨b1, o1 + k * 3 + 1, none⟩ = some (.slice B1 x.less.length e1) := (World.cell?_of_block ((hg7.block b1 (by simp; omega) (fun e => by have := (hown.lt b1 e.symm).1; omega)).trans (Below.heap_alloc w6 _ b1 (by omega)))).trans cc1w6
        have cy2 : w7.cell? ⟨b1, o1 + k * 3 + 2, none⟩ = some (.slice B2 x.more.length e2) := (World.cell?_of_block ((hg7.block b1 (by simp; omega) (fun e => by have := (hown.lt b1 e.symm).1; omega)).trans (Below.heap_alloc w6 _ b1 (by omega)))).trans cc2w6))
      all_goals
        have hbV := hb.trans (hb6.mono hsb)
        have hs36 := hbV.size
        have hbX := hbV.alloc hs36 (Obj.cells #[.int .i64 (x.at_ + s), .slice A5 x.more.length c5, .slice A6 x.less.length c6] 73)
        have hb7 := hbX.grown hg7 (by first | omega | (simp; done) | (simp; omega)) (fun g hg => (hown.lt g hg).1)
        have hnew : FreshL (w6.alloc (Obj.cells #[.int .i64 (x.at_ + s), .slice A5 x.more.length c5, .slice A6 x.less.length c6] 73)) wr.heap.size w6.heap.size (cHunks (⟨x.at_ + s, x.more, x.less⟩ : PHunk)) [.int .i64 (x.at_ + s), .slice A5 x.more.length c5, .slice A6 x.less.length c6] :=
          FreshL.same (FreshL.two (p0 := .int .i64 (x.at_ + s)) ⟨rfl, rfl⟩ hX5 hown6 hn56 (Nat.le_refl _)) ((Same.refl _ _ _).alloc (Nat.le_refl _) _)
        have hk6' : ∀ zz ∈ G, (w6.alloc (Obj.cells #[.int .i64 (x.at_ + s), .slice A5 x.more.length c5, .slice A6 x.less.length c6] 73)).heap[zz]? = wr.heap[zz]? := fun zz hq => by
          have := hbd zz (List.mem_append_right _ hq)
          exact (Below.heap_alloc w6 _ zz (by omega)).trans (hb6.block zz this.2)
        have ho7 := Owns.same _ _ _ ho hk6'
        have hfin := Fresh.grew ho7 hnodup hbd hnew hown7 hg7 hat7 hs6 (by simp) hsb
        have hcons : done.flatMap cHunks ++ cHunks (⟨x.at_ + s, x.more, x.less⟩ : PHunk) = (done ++ [(⟨x.at_ + s, x.more, x.less⟩ : PHunk)]).flatMap cHunks := by simp
        rw [hcons] at hfin
        have Hf := Lib.hid hfin
        clear hfin hcons hnew hk6' hown7 hg7 hat7 hbX hbV hb6 hb5 hX5 hown5 hown6 hg5 hg6 hat5 hat6 hn56 ho hown M1 M2 M3
        go_wp2
        go_quiet (fail)
        go_wp2
        go_roundw
        case rel => exact ⟨k + 1, _, done ++ [(⟨x.at_ + s, x.more, x.less⟩ : PHunk)], _, _, _, by omega, rfl, rfl, by go_num, by omega, by omega, by simp [Hdk.out], Lib.hid (by rw [List.append_assoc, Int.add_sub_assoc]; exact Ht.out), Fresh.drewN Hf.out _, below_drewN hb7 _⟩
        case measure => simp [intOf]; omega
    · obtain rfl : k = xs.length := by omega
      go_wp2
      go_ret
      have ht := ht.out
      rw [List.drop_of_length_le (Nat.le_refl _), backFrom, List.append_nil] at ht
      subst ht
      exact ⟨_, _, _, rfl, hb, hf⟩
end Go.Proofs.YtianpeokdojkbaaDoor
