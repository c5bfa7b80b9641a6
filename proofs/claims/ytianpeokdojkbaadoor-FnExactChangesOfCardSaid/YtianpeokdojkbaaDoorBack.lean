import Derived.Test.YtianpeokdojkbaaDoorZ02
import Derived.Test.YtianpeokdojkbaaDoorCopy
import Derived.Test.YtianpeokdojkbaaDoorZ13
import Derived.Deep.RegionHeld3
/- Walks: a patch taken back: the program's. -/
namespace Go.Proofs.YtianpeokdojkbaaDoor
open Go.RowKit

def backFrom : List PHunk → Int → List PHunk
  | [], _ => []
  | h :: d, s => ⟨h.at_ + s, h.more, h.less⟩ :: backFrom d (s + ((h.more.length : Int) - (h.less.length : Int)))
def patchBack (d : List PHunk) : List PHunk := if patchOk d then backFrom d 0 else []

set_option maxRecDepth 100000 in
set_option maxHeartbeats 1600000 in
theorem impl_back_any (A : Option Addr) (n c : Nat) (xs : List PHunk) (w : World) (lo hi : Nat) (h : Rep w lo hi (encHunks xs) (.slice A n c)) (hh : hi ≤ w.heap.size) (hx : ∀ x ∈ xs, hunkOk x = true) (hl8 : xs.length ≤ 8) :
    Calls Tryd.prog 40 #[.slice A n c] w fun e w' => ∃ A n c, e = .returned (.slice A n c) ∧ Below w.heap.size w w' ∧ Fresh w' w.heap.size w'.heap.size (encHunks (backFrom xs 0)) (.slice A n c) := by
  have hl := Hunks.n h
  obtain ⟨hc, hm⟩ := Hunks.cap h
  subst hl
  obtain ⟨ih, gi0, gi1, gi2, gi3⟩ := info_parts Tryd.infoHunk
  go_enter Tryd.func40, Tryd.ntmps40
  go_wp2
  go_loopw [3, 4, 9] (fun t b i wr => ∃ (k : Nat) (s : Int) (done : List PHunk) (A' : Option Addr) (n' c' : Nat), k ≤ xs.length ∧ t = .slice A' n' c' ∧ b = .int .i64 s ∧ i = .int .i64 k ∧ -(10 * (k : Int)) ≤ s ∧ s ≤ 10 * k ∧ done.length = k ∧
      Hid (done ++ backFrom (xs.drop k) s = backFrom xs 0) ∧ Fresh wr w.heap.size wr.heap.size (encHunks done) (.slice A' n' c') ∧ Below w.heap.size w wr) (fun _ _ i _ => xs.length - (intOf i).toNat)
  case atStart => exact ⟨0, 0, [], _, _, _, Nat.zero_le _, rfl, rfl, rfl, by omega, by omega, rfl, Lib.hid (by simp), Fresh.nil _ _ _ _ _, Below.refl _ _⟩
  case round =>
    obtain ⟨k, s, done, A', n', c', hk, rfl, rfl, rfl, hs0, hs1, hdk, ht, hf, hb⟩ := hrel
    by_cases hkn : k < xs.length
    · have hkn' : (k : Int) < (xs.length : Int) := by omega
      have hsz := hb.size
      obtain ⟨b1, o1, x, rfl, hblo, hbhi, hxk, B1, m1, e1, B2, m2, e2, d0, d1, r1, d2, r2⟩ := Hunks.at (h.keep hb hh) hkn
      obtain ⟨x1, x2, _, _, x3, x4, _⟩ := hunkOk_facts (hx x (List.mem_of_getElem? hxk))
      have hst := drop_cons hxk
      have ht2 := ht.out
      rw [hst, backFrom] at ht2
      have Ht := Lib.hid ht2
      have hn1 := Text.n r1
      have hn2 := Text.n r2
      subst hn1 hn2
      have hwr : IntKind.i64.wrap (x.at_ + s) = x.at_ + s := by rw [IntKind.wrap_i64]; omega
      clear hst ht2 hxk
      go_wp2
      refine name_world ?_
      intro W hW
      have hbr : Below wr.heap.size wr W := by rw [hW]; exact (Below.refl _ _).alloc (Nat.le_refl _) _
      have hbW : Below w.heap.size w W := hb.trans (hbr.mono hsz)
      have hWlt : wr.heap.size < W.heap.size := by rw [hW]; simp [go_sem]
      have p0 : W.cell? ⟨wr.heap.size, 0, none⟩ = some (.int .i64 x.at_) := by rw [hW]; simp [go_sem]
      have p1 : W.cell? ⟨wr.heap.size, 1, none⟩ = some (.slice B1 x.less.length e1) := by rw [hW]; simp [go_sem]
      have p2 : W.cell? ⟨wr.heap.size, 2, none⟩ = some (.slice B2 x.more.length e2) := by rw [hW]; simp [go_sem]
      have R1 := r1.keep hbr (Nat.le_trans hh hsz)
      have R2 := r2.keep hbr (Nat.le_trans hh hsz)
      have hhW : hi ≤ W.heap.size := by omega
      have hnd := Hunks.n hf.rep
      subst hnd
      obtain ⟨us, G, hown, ho, hnodup, hbd0⟩ := hf.row_of
      have hbd : ∀ q ∈ (Value.slice A' done.length c').ownBlock.toList ++ G, w.heap.size ≤ q ∧ q < W.heap.size := fun q hq => by have := hbd0 q hq; omega
      have hrowne : some wr.heap.size ≠ (Value.slice A' done.length c').ownBlock := fun e => by
        have := (hbd0 wr.heap.size (List.mem_append_left _ (by rw [← e]; simp))).2
        omega
      have hownW := ownsRow_same (w' := W) hown (fun q hq => hbr.block q (hown.lt q (by simpa using hq)).2)
      have hoW := Owns.same _ _ _ ho (w' := W) (fun q hq => hbr.block q (hbd0 q (List.mem_append_right _ hq)).2)
      have hsW : w.heap.size ≤ W.heap.size := by omega
      have hdl : done.length ≤ 8 := by omega
      have Hdk := Lib.hid hdk
      clear hdk
      clear hW d0 d1 d2 r1 r2 hf hown ho hbd0
      go_region_held3 (fun w' => w'.cell? ⟨wr.heap.size, 0, none⟩ = some (.int .i64 x.at_) ∧ w'.cell? ⟨wr.heap.size, 1, none⟩ = some (.slice B1 x.less.length e1) ∧ w'.cell? ⟨wr.heap.size, 2, none⟩ = some (.slice B2 x.more.length e2)) (first | trivial | exact ⟨cy0, cy1, cy2⟩ | exact ⟨cx0, cx1, cx2⟩ | exact ⟨cw0, cw1, cw2⟩ | go_keep) (first
        | (go_at_call 26; refine (impl_copyText_any _ _ _ _ _ lo hi (show Rep W.drew lo hi _ (.slice B2 x.more.length e2) from R2.drewN 1) (by simpa using hhW) (by omega)).mono ?_
           rintro e w5 ⟨A5, n5, c5, rfl, hb5, hf5⟩
           have cw0 : w5.cell? ⟨wr.heap.size, 0, none⟩ = some (.int .i64 x.at_) := (hb5.cell (p := ⟨wr.heap.size, 0, none⟩) hWlt).trans p0
           have cw1 : w5.cell? ⟨wr.heap.size, 1, none⟩ = some (.slice B1 x.less.length e1) := (hb5.cell (p := ⟨wr.heap.size, 1, none⟩) hWlt).trans p1
           have cw2 : w5.cell? ⟨wr.heap.size, 2, none⟩ = some (.slice B2 x.more.length e2) := (hb5.cell (p := ⟨wr.heap.size, 2, none⟩) hWlt).trans p2)
        | (go_at_call 26; refine (impl_copyText_any _ _ _ _ _ lo hi ((show Rep W.drew lo hi _ (.slice B1 x.less.length e1) from R1.drewN 1).keep hb5 (by simpa using hhW)) (Nat.le_trans (by simpa using hhW) hb5.size) (by omega)).mono ?_
           rintro e w6 ⟨A6, n6, c6, rfl, hb6, hf6⟩
           have cx0 : w6.cell? ⟨wr.heap.size, 0, none⟩ = some (.int .i64 x.at_) := (hb6.cell (p := ⟨wr.heap.size, 0, none⟩) (Nat.lt_of_lt_of_le hWlt hb5.size)).trans cw0
           have cx1 : w6.cell? ⟨wr.heap.size, 1, none⟩ = some (.slice B1 x.less.length e1) := (hb6.cell (p := ⟨wr.heap.size, 1, none⟩) (Nat.lt_of_lt_of_le hWlt hb5.size)).trans cw1
           have cx2 : w6.cell? ⟨wr.heap.size, 2, none⟩ = some (.slice B2 x.more.length e2) := (hb6.cell (p := ⟨wr.heap.size, 2, none⟩) (Nat.lt_of_lt_of_le hWlt hb5.size)).trans cw2)
        | (
           have hown7 := ownsRow_same (w' := w6) hownW (fun q hq => (hb6.block q (by have := (hownW.lt q (by simpa using hq)).2; have := hb5.size; simp at *; omega)).trans (hb5.block q (hownW.lt q (by simpa using hq)).2))
           refine step_append_src _ (by rfl) (.tmp 13) (.tmp 25) _ (by rfl) w.heap.size 73 ih _ 3 56 Tryd.underlying48 gi0 gi1 gi2 gi3 (by rfl) (by omega) _ (done.length) us (by rfl) (hown7.alloc _) _ 1 1 [.int .i64 (x.at_ + s), .slice A5 n5 c5, .slice A6 n6 c6] (by rfl) (Src.lit w6 73 [.int .i64 (x.at_ + s), .slice A5 n5 c5, .slice A6 n6 c6] 3 1 rfl) (by intro u hu; simp at hu; rcases hu with rfl | rfl | rfl <;> rfl) (by unfold maxLen; omega) (by omega) (by have := hb5.size; have := hb6.size; simp at *; omega) ?_
           clear hown7
           intro A7 c7 w7 hown7 hg7 hat7
           change World.grownBy _ w7 (Value.slice A' (done.length) c').ownBlock at hg7
           change _ = (Value.slice A' (done.length) c').ownBlock ∨ _ at hat7
           have cy0 : w7.cell? ⟨wr.heap.size, 0, none⟩ = some (.int .i64 x.at_) := (World.cell?_of_block ((hg7.block _ (by simp; have := hb5.size; have := hb6.size; simp at *; omega) hrowne).trans (Below.heap_alloc w6 _ _ (by have := hb5.size; have := hb6.size; simp at *; omega)))).trans cx0
           have cy1 : w7.cell? ⟨wr.heap.size, 1, none⟩ = some (.slice B1 x.less.length e1) := (World.cell?_of_block ((hg7.block _ (by simp; have := hb5.size; have := hb6.size; simp at *; omega) hrowne).trans (Below.heap_alloc w6 _ _ (by have := hb5.size; have := hb6.size; simp at *; omega)))).trans cx1
           have cy2 : w7.cell? ⟨wr.heap.size, 2, none⟩ = some (.slice B2 x.more.length e2) := (World.cell?_of_block ((hg7.block _ (by simp; have := hb5.size; have := hb6.size; simp at *; omega) hrowne).trans (Below.heap_alloc w6 _ _ (by have := hb5.size; have := hb6.size; simp at *; omega)))).trans cx2))
      have hb5 : Below W.heap.size W w5 := ⟨hb5.os, hb5.tape, hb5.output, hb5.size, hb5.block⟩
      have hs5 := hb5.size
      have hs6 := hb6.size
      have hf5 : Fresh w5 W.heap.size w5.heap.size (encText x.more) (.slice A5 n5 c5) := hf5
      have hbV := hbW.trans ((hb5.trans (hb6.mono hs5)).mono hsW)
      have hs36 := hbV.size
      have hbX := hbV.alloc hs36 (Obj.cells #[.int .i64 (x.at_ + s), .slice A5 n5 c5, .slice A6 n6 c6] 73)
      have hb7 := hbX.grown hg7 (by simp; omega) (fun g hg => (hownW.lt g hg).1)
      have hr5 : Fresh (w6.alloc (Obj.cells #[.int .i64 (x.at_ + s), .slice A5 n5 c5, .slice A6 n6 c6] 73)) W.heap.size w5.heap.size (encText x.more) (.slice A5 n5 c5) := hf5.same (((Same.of_below hb6 (Nat.le_refl _)).alloc hs6 _).mono (Nat.zero_le _) (Nat.le_refl _))
      have hr6 : Fresh (w6.alloc (Obj.cells #[.int .i64 (x.at_ + s), .slice A5 n5 c5, .slice A6 n6 c6] 73)) w5.heap.size w6.heap.size (encText x.less) (.slice A6 n6 c6) := hf6.same ((Same.refl _ _ _).alloc (Nat.le_refl _) _)
      have hnew : FreshL (w6.alloc (Obj.cells #[.int .i64 (x.at_ + s), .slice A5 n5 c5, .slice A6 n6 c6] 73)) W.heap.size w6.heap.size (cHunks (⟨x.at_ + s, x.more, x.less⟩ : PHunk)) [.int .i64 (x.at_ + s), .slice A5 n5 c5, .slice A6 n6 c6] :=
        FreshL.plain ⟨rfl, rfl⟩ (FreshL.cons hr5 (Fresh.one hr6) hs5 hs6)
      have hk6' : ∀ zz ∈ G, (w6.alloc (Obj.cells #[.int .i64 (x.at_ + s), .slice A5 n5 c5, .slice A6 n6 c6] 73)).heap[zz]? = W.heap[zz]? := fun zz hq => by
        have := hbd zz (List.mem_append_right _ hq)
        exact (Below.heap_alloc w6 _ zz (by omega)).trans ((hb6.block zz (by omega)).trans (hb5.block zz (by omega)))
      have ho7 := Owns.same _ _ _ hoW hk6'
      have hfin := Fresh.grew ho7 hnodup hbd hnew hown7 hg7 hat7 (Nat.le_trans hs5 hs6) (by simp) hsW
      have hcons : done.flatMap cHunks ++ cHunks (⟨x.at_ + s, x.more, x.less⟩ : PHunk) = (done ++ [(⟨x.at_ + s, x.more, x.less⟩ : PHunk)]).flatMap cHunks := by simp
      rw [hcons] at hfin
      have Hf := Lib.hid hfin
      clear hfin hcons hnew hr5 hr6 hk6' hown7 hg7 hat7 hbX hbV hf5 hf6 hb5 hb6 ho7 hoW hownW
      go_wp2
      go_roundw
      case rel => exact ⟨k + 1, _, done ++ [(⟨x.at_ + s, x.more, x.less⟩ : PHunk)], _, _, _, by omega, rfl, rfl, by go_num, by omega, by omega, by simp [Hdk.out], Lib.hid (by rw [List.append_assoc]; exact Ht.out), Hf.out, hb7⟩
      case measure => simp [intOf]; omega
    · obtain rfl : k = xs.length := by omega
      go_wp2
      go_ret
      have ht := ht.out
      rw [List.drop_of_length_le (Nat.le_refl _), backFrom, List.append_nil] at ht
      subst ht
      exact ⟨_, _, _, rfl, hb, hf⟩
end Go.Proofs.YtianpeokdojkbaaDoor
