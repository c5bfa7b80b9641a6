/- Several of my texts in one: TreeCopy, TreeGet. -/
import Derived.Test.YtmickenajhppoaaGreatDoorTreePlain
import Derived.Test.YtmickenajhppoaaGreatDoorZ12
import Derived.Deep.RegionHeld3
/- Walks: the copy of a tree, the program's. -/
namespace Go.Proofs.YtmickenajhppoaaGreatDoor
open Go.RowKit

def smallTree (xs : List PFile) : Prop := xs.length ≤ 1000000 ∧ ∀ x ∈ xs, x.text.length ≤ 1048576
theorem smallTree_ok {xs : List PFile} (h : treeOk xs = true) : smallTree xs := by
  obtain ⟨h1, h2⟩ := treeOk_iff.1 h
  refine ⟨by omega, fun x hx => ?_⟩
  obtain ⟨k, hk⟩ := List.getElem?_of_mem hx
  have hkl := (List.getElem?_eq_some_iff.1 hk).1
  have := textOk_len (treeAt_parts hk (h2 k hkl)).1
  omega
theorem smallTree_sz {xs : List PFile} (h : szFiles xs ≤ 1048576) (h8 : xs.length ≤ 1000000) : smallTree xs := by
  refine ⟨h8, fun x hx => ?_⟩
  have := szFile_le hx
  unfold szFile total at this
  omega

set_option maxRecDepth 100000 in
set_option maxHeartbeats 1600000 in
theorem impl_copyTree_any (A : Option Addr) (n c : Nat) (xs : List PFile) (w : World) (lo hi : Nat) (h : Rep w lo hi (encFiles xs) (.slice A n c)) (hh : hi ≤ w.heap.size) (hsm : smallTree xs) :
    Calls Tryz.prog 25 #[.slice A n c] w fun e w' => ∃ A n c, e = .returned (.slice A n c) ∧ Below w.heap.size w w' ∧ Fresh w' w.heap.size w'.heap.size (encFiles xs) (.slice A n c) := by
  have hl := Files.n h
  obtain ⟨hc, hm⟩ := Files.cap h
  subst hl
  obtain ⟨hx8, hxt⟩ := hsm
  have Hxt := Lib.hid hxt
  clear hxt
  obtain ⟨ih, gi0, gi1, gi2, gi3⟩ := info_parts Tryz.infoFile
  go_enter Tryz.func25, Tryz.ntmps25
  go_wp2
  go_loopw [3, 8] (fun t i wr => ∃ (k : Nat) (done : List PFile) (A' : Option Addr) (n' c' : Nat), k ≤ xs.length ∧ t = .slice A' n' c' ∧ i = .int .i64 k ∧ done.length = k ∧
      Hid (done = xs.take k) ∧ Fresh wr w.heap.size wr.heap.size (encFiles done) (.slice A' n' c') ∧ Below w.heap.size w wr) (fun _ i _ => xs.length - (intOf i).toNat)
  case atStart => exact ⟨0, [], _, _, _, Nat.zero_le _, rfl, rfl, rfl, Lib.hid (by simp), Fresh.nil _ _ _ _ _, Below.refl _ _⟩
  case round =>
    obtain ⟨k, done, A', n', c', hk, rfl, rfl, hdk, ht, hf, hb⟩ := hrel
    by_cases hkn : k < xs.length
    · have hkn' : (k : Int) < (xs.length : Int) := by omega
      have hsz := hb.size
      obtain ⟨b1, o1, x, rfl, hblo, hbhi, hxk, B1, m1, e1, d0, d1, r1⟩ := Files.at (h.keep hb hh) hkn
      have hxl := Hxt.out x (List.mem_of_getElem? hxk)
      have hn1 := Text.n r1
      subst hn1
      have ht2 : done ++ [x] = xs.take (k + 1) := by rw [List.take_add_one, hxk, ht.out]; rfl
      have Ht := Lib.hid ht2
      clear ht2 hxk
      go_wp2
      refine name_world ?_
      intro W hW
      have hbr : Below wr.heap.size wr W := by rw [hW]; exact (Below.refl _ _).alloc (Nat.le_refl _) _
      have hbW : Below w.heap.size w W := hb.trans (hbr.mono hsz)
      have hWlt : wr.heap.size < W.heap.size := by rw [hW]; simp [go_sem]
      have p0 : W.cell? ⟨wr.heap.size, 0, none⟩ = some (.string ⟨x.path.toArray⟩) := by rw [hW]; simp [go_sem]
      have p1 : W.cell? ⟨wr.heap.size, 1, none⟩ = some (.slice B1 x.text.length e1) := by rw [hW]; simp [go_sem]
      have R1 := r1.keep hbr (Nat.le_trans hh hsz)
      have hhW : hi ≤ W.heap.size := by omega
      have hnd := Files.n hf.rep
      subst hnd
      obtain ⟨us, G, hown, ho, hnodup, hbd0⟩ := hf.row_of
      have hbd : ∀ q ∈ (Value.slice A' done.length c').ownBlock.toList ++ G, w.heap.size ≤ q ∧ q < W.heap.size := fun q hq => by have := hbd0 q hq; omega
      have hrowne : some wr.heap.size ≠ (Value.slice A' done.length c').ownBlock := fun e => by
        have := (hbd0 wr.heap.size (List.mem_append_left _ (by rw [← e]; simp))).2
        omega
      have hownW := ownsRow_same (w' := W) hown (fun q hq => hbr.block q (hown.lt q (by simpa using hq)).2)
      have hoW := Owns.same _ _ _ ho (w' := W) (fun q hq => hbr.block q (hbd0 q (List.mem_append_right _ hq)).2)
      have hsW : w.heap.size ≤ W.heap.size := by omega
      have hdl : done.length ≤ 1000000 := by omega
      have Hdk := Lib.hid hdk
      clear hdk
      clear hW d0 d1 r1 hf hown ho hbd0
      go_region_held3 (fun w' => w'.cell? ⟨wr.heap.size, 0, none⟩ = some (.string ⟨x.path.toArray⟩) ∧ w'.cell? ⟨wr.heap.size, 1, none⟩ = some (.slice B1 x.text.length e1)) (first | trivial | exact ⟨cy0, cy1⟩ | exact ⟨cw0, cw1⟩ | go_keep) (first
        | (go_at_call 58; refine (impl_copyText_any _ _ _ _ _ lo hi (show Rep W.drew lo hi _ (.slice B1 x.text.length e1) from R1.drewN 1) (by simpa using hhW) (by omega)).mono ?_
           rintro e w5 ⟨A5, n5, c5, rfl, hb5, hf5⟩
           have cw0 : w5.cell? ⟨wr.heap.size, 0, none⟩ = some (.string ⟨x.path.toArray⟩) := (hb5.cell (p := ⟨wr.heap.size, 0, none⟩) hWlt).trans p0
           have cw1 : w5.cell? ⟨wr.heap.size, 1, none⟩ = some (.slice B1 x.text.length e1) := (hb5.cell (p := ⟨wr.heap.size, 1, none⟩) hWlt).trans p1)
        | (
           have hown7 := ownsRow_same (w' := w5) hownW (fun q hq => hb5.block q (hownW.lt q (by simpa using hq)).2)
           refine step_append_src _ (by rfl) (.tmp 12) (.tmp 19) _ (by rfl) w.heap.size 48 ih _ 2 40 Tryz.underlying26 gi0 gi1 gi2 gi3 (by rfl) (by omega) _ (done.length) us (by rfl) (hown7.alloc _) _ 1 1 [.string ⟨x.path.toArray⟩, .slice A5 n5 c5] (by rfl) (Src.lit w5 48 [.string ⟨x.path.toArray⟩, .slice A5 n5 c5] 2 1 rfl) (by intro u hu; simp at hu; rcases hu with rfl | rfl <;> rfl) (by unfold maxLen; omega) (by omega) (by have := hb5.size; simp at *; omega) ?_
           clear hown7
           intro A7 c7 w7 hown7 hg7 hat7
           change World.grownBy _ w7 (Value.slice A' (done.length) c').ownBlock at hg7
           change _ = (Value.slice A' (done.length) c').ownBlock ∨ _ at hat7
           have cy0 : w7.cell? ⟨wr.heap.size, 0, none⟩ = some (.string ⟨x.path.toArray⟩) := (World.cell?_of_block ((hg7.block _ (by simp; have := hb5.size; simp at *; omega) hrowne).trans (Below.heap_alloc w5 _ _ (by have := hb5.size; simp at *; omega)))).trans cw0
           have cy1 : w7.cell? ⟨wr.heap.size, 1, none⟩ = some (.slice B1 x.text.length e1) := (World.cell?_of_block ((hg7.block _ (by simp; have := hb5.size; simp at *; omega) hrowne).trans (Below.heap_alloc w5 _ _ (by have := hb5.size; simp at *; omega)))).trans cw1))
      have hb5 : Below W.heap.size W w5 := ⟨hb5.os, hb5.tape, hb5.output, hb5.size, hb5.block⟩
      have hs5 := hb5.size
      have hf5 : Fresh w5 W.heap.size w5.heap.size (encText x.text) (.slice A5 n5 c5) := hf5
      have hbV := hbW.trans (hb5.mono hsW)
      have hs36 := hbV.size
      have hbX := hbV.alloc hs36 (Obj.cells #[.string ⟨x.path.toArray⟩, .slice A5 n5 c5] 48)
      have hb7 := hbX.grown hg7 (by simp; omega) (fun g hg => (hownW.lt g hg).1)
      have hr5 : Fresh (w5.alloc (Obj.cells #[.string ⟨x.path.toArray⟩, .slice A5 n5 c5] 48)) W.heap.size w5.heap.size (encText x.text) (.slice A5 n5 c5) := hf5.same ((Same.refl _ _ _).alloc (Nat.le_refl _) _)
      have hnew : FreshL (w5.alloc (Obj.cells #[.string ⟨x.path.toArray⟩, .slice A5 n5 c5] 48)) W.heap.size w5.heap.size (cFiles x) [.string ⟨x.path.toArray⟩, .slice A5 n5 c5] :=
        FreshL.plain ⟨rfl, rfl⟩ (Fresh.one hr5)
      have hk6' : ∀ zz ∈ G, (w5.alloc (Obj.cells #[.string ⟨x.path.toArray⟩, .slice A5 n5 c5] 48)).heap[zz]? = W.heap[zz]? := fun zz hq => by
        have := hbd zz (List.mem_append_right _ hq)
        exact (Below.heap_alloc w5 _ zz (by omega)).trans (hb5.block zz (by omega))
      have ho7 := Owns.same _ _ _ hoW hk6'
      have hfin := Fresh.grew ho7 hnodup hbd hnew hown7 hg7 hat7 hs5 (by simp) hsW
      have hcons : done.flatMap cFiles ++ cFiles x = (done ++ [x]).flatMap cFiles := by simp
      rw [hcons] at hfin
      have Hf := Lib.hid hfin
      clear hfin hcons hnew hr5 hk6' hown7 hg7 hat7 hbX hbV hf5 hb5 ho7 hoW hownW
      go_wp2
      go_roundw
      case rel => exact ⟨k + 1, done ++ [x], _, _, _, by omega, rfl, by go_num, by simp [Hdk.out], Ht, Hf.out, hb7⟩
      case measure => simp [intOf]; omega
    · obtain rfl : k = xs.length := by omega
      go_wp2
      go_ret
      have ht := ht.out
      rw [List.take_length] at ht
      subst ht
      exact ⟨_, _, _, rfl, hb, hf⟩
end Go.Proofs.YtmickenajhppoaaGreatDoor

/- Walks: what a tree has at a path: the program's get, TreeGet, the reference's l4Get, TreeGet. -/
namespace Go.Proofs.YtmickenajhppoaaGreatDoor
open Go.RowKit

def getAt : List PFile → Str → Option (List Str)
  | [], _ => none
  | f :: t, p => if f.path = p then some f.text else getAt t p
theorem getAt_drop {t : List PFile} {p : Str} {k : Nat} {x : PFile} (hx : t[k]? = some x) (hne : x.path ≠ p) : getAt (t.drop k) p = getAt (t.drop (k + 1)) p := by
  rw [List.drop_eq_getElem_cons (List.getElem?_eq_some_iff.1 hx).1, getAt]
  rw [List.getElem?_eq_getElem (List.getElem?_eq_some_iff.1 hx).1] at hx
  rw [Option.some.inj hx, if_neg hne]
theorem getAt_here {t : List PFile} {p : Str} {k : Nat} {x : PFile} (hx : t[k]? = some x) (he : x.path = p) : getAt (t.drop k) p = some x.text := by
  rw [List.drop_eq_getElem_cons (List.getElem?_eq_some_iff.1 hx).1, getAt]
  rw [List.getElem?_eq_getElem (List.getElem?_eq_some_iff.1 hx).1] at hx
  rw [Option.some.inj hx, if_pos he]
theorem getAt_mem : ∀ {t : List PFile} {p : Str} {x : List Str}, getAt t p = some x → ∃ f ∈ t, f.path = p ∧ f.text = x
  | f :: t, p, x, h => by
    rw [getAt] at h
    split at h
    · rename_i he
      exact ⟨f, by simp, he, Option.some.inj h⟩
    · obtain ⟨g, hg, h1⟩ := getAt_mem h
      exact ⟨g, by simp [hg], h1⟩
def treeGet (t : List PFile) (p : Str) : Option (List Str) := if treeOk t then getAt t p else none


set_option maxHeartbeats 800000 in
theorem spec_l4Get_any (A : Option Addr) (n c : Nat) (xs : List PFile) (s : Str) (w : World) (lo hi : Nat) (h : Rep w lo hi (encFiles xs) (.slice A n c)) :
    Calls Tryz.prog 46 #[.slice A n c, .string ⟨s.toArray⟩] w fun e w' => ∃ A n c, e = .returned (.tuple #[.slice A n c, .bool (getAt xs s).isSome]) ∧ w = w' ∧ Rep w lo hi (encText ((getAt xs s).getD [])) (.slice A n c) := by
  have hl := Files.n h
  obtain ⟨hc, hm⟩ := Files.cap h
  subst hl
  go_enter Tryz.func46, Tryz.ntmps46
  go_wp2
  go_loop [6] (fun i => ∃ k : Nat, k ≤ xs.length ∧ i = .int .i64 k ∧ Hid (getAt xs s = getAt (xs.drop k) s)) (fun i => xs.length - (intOf i).toNat)
  case atStart => exact ⟨0, Nat.zero_le _, rfl, Lib.hid (by simp)⟩
  case round =>
    obtain ⟨k, hk, rfl, ht⟩ := hrel
    by_cases hkn : k < xs.length
    · have hkn' : (k : Int) < (xs.length : Int) := by omega
      obtain ⟨b1, o1, x, rfl, _, hbhi, hx, A1, n1, c1, d0, d1, r1⟩ := Files.at h hkn
      have Hx := Lib.hid hx
      clear hx
      by_cases he : x.path = s
      · have hbe : (x.path == s) = true := by simp [he]
        have hv : getAt xs s = some x.text := by rw [ht.out, getAt_here Hx.out he]
        have Hv := Lib.hid hv
        clear he hv
        go_wp2
        go_ret2
        rw [Hv.out]
        exact ⟨_, _, _, rfl, rfl, r1⟩
      · have hbe : (x.path == s) = false := by simp [he]
        have hst := getAt_drop Hx.out he
        have Hst := Lib.hid hst
        clear hst he
        go_wp2
        go_round
        case rel => exact ⟨k + 1, by omega, by go_num, Lib.hid (ht.out.trans Hst.out)⟩
        case measure => simp [intOf]; omega
    · obtain rfl : k = xs.length := by omega
      have hv : getAt xs s = none := by rw [ht.out, List.drop_length]; rfl
      have Hv := Lib.hid hv
      clear hv
      go_wp2
      go_ret2
      rw [Hv.out]
      exact ⟨_, _, _, rfl, rfl, Rep.of_nil _ _ _ _ _⟩


end Go.Proofs.YtmickenajhppoaaGreatDoor
