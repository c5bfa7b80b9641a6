import Derived.Test.YtianpeokdojkbaaDoorSpecTarget
import Derived.Test.YtianpeokdojkbaaDoorChangeBox
import Derived.Test.YtianpeokdojkbaaDoorPush
import Derived.Test.YtianpeokdojkbaaDoorZ21
import Derived.Test.YtianpeokdojkbaaDoorDiff2
import Derived.Test.YtianpeokdojkbaaDoorTree2
import Derived.Deep.RegionHeld3
/- Walk: the reference's l5Of and ChangesOf. Printed by wip/mk_specof.py. -/
namespace Go.Proofs.YtianpeokdojkbaaDoor
open Go.RowKit

theorem any_next {α : Type} {p : α → Bool} {l : List α} {k : Nat} {x : α} (h : l[k]? = some x) : (l.take (k + 1)).any p = ((l.take k).any p || p x) := by
  rw [List.take_add_one, h, List.any_append]
  simp
theorem foldB_pre (a : List PFile) (tg : List Str) : ∀ (l : List PFile) (o : List PChange), ∃ t, l.foldl (stepB a tg) o = o ++ t
  | [], o => ⟨[], by simp⟩
  | f :: l, o => by
    obtain ⟨t, ht⟩ := foldB_pre a tg l (stepB a tg o f)
    rw [List.foldl_cons, ht]
    unfold stepB
    split
    · exact ⟨_, List.append_assoc _ _ _⟩
    · exact ⟨t, rfl⟩
theorem foldB_at {a : List PFile} {tg : List Str} {l : List PFile} {o out : List PChange} (h : out = l.foldl (stepB a tg) o) {j : Nat} {x : PChange} (hj : j < o.length) (hx : out[j]? = some x) : o[j]? = some x := by
  obtain ⟨t, ht⟩ := foldB_pre a tg l o
  rw [h, ht, List.getElem?_append_left hj] at hx
  exact hx
theorem foldB_len {a : List PFile} {tg : List Str} {l : List PFile} {o out : List PChange} (h : out = l.foldl (stepB a tg) o) : o.length ≤ out.length := by
  obtain ⟨t, ht⟩ := foldB_pre a tg l o
  rw [h, ht, List.length_append]
  omega
theorem FreshL.on {w w' : World} {lo : Nat} {ps : List PV} {us : List Value} (h : FreshL w lo w.heap.size ps us) (hb : Below w.heap.size w w') : FreshL w' lo w'.heap.size ps us := (h.same (.of_below hb (Nat.le_refl _))).mono (Nat.le_refl _) hb.size

set_option maxRecDepth 100000 in
set_option maxHeartbeats 8000000 in
theorem spec_l5Of_any (A1 A2 : Option Addr) (n1 c1 n2 c2 : Nat) (xs ys : List PFile) (w : World) (lo hi lo' hi' : Nat) (h1 : Rep w lo hi (encFiles xs) (.slice A1 n1 c1)) (h2 : Rep w lo' hi' (encFiles ys) (.slice A2 n2 c2)) (hh1 : hi ≤ w.heap.size) (hh2 : hi' ≤ w.heap.size) (ho1 : treeOk xs = true) (ho2 : treeOk ys = true) :
    Calls Tryd.prog 20 #[.slice A1 n1 c1, .slice A2 n2 c2] w fun e w' => ∃ A n c, e = .returned (.slice A n c) ∧ Below w.heap.size w w' ∧ Fresh w' w.heap.size w'.heap.size (encChanges (ys.foldl (stepB xs (tgOf (firstA xs ys))) (firstA xs ys))) (.slice A n c) := by
  have hl1 := Files.n h1
  have hl2 := Files.n h2
  obtain ⟨hc1, hm1⟩ := Files.cap h1
  obtain ⟨hc2, hm2⟩ := Files.cap h2
  subst hl1 hl2
  obtain ⟨P, hP⟩ : ∃ P, P = ys.foldl (stepB xs (tgOf (firstA xs ys))) (firstA xs ys) := ⟨_, rfl⟩
  rw [← hP]
  have Hp := Lib.hid hP
  obtain ⟨ih, gi0, gi1, gi2, gi3⟩ := info_parts Tryd.infoChange
  obtain ⟨is, si0, si1, si2, si3⟩ := info_parts Tryd.infoStr
  have hsx := smallTree_ok ho1
  have hsy := smallTree_ok ho2
  have h8x := (treeOk_iff.1 ho1).1
  have h8y := (treeOk_iff.1 ho2).1
  have Hsx := Lib.hid hsx
  have Hsy := Lib.hid hsy
  have Ho1 := Lib.hid ho1
  have Ho2 := Lib.hid ho2
  clear hP hsx hsy ho1 ho2
  go_enter Tryd.func20, Tryd.ntmps20
  go_wp2
  go_loopw [5, 6] (fun t i wr => ∃ (k : Nat) (done : List PChange) (A' : Option Addr) (n' c' : Nat), k ≤ xs.length ∧ t = .slice A' n' c' ∧ i = .int .i64 k ∧ Hid (done = (xs.take k).foldl (stepA xs ys) []) ∧ FreshL wr w.heap.size wr.heap.size [encChanges done] [.slice A' n' c'] ∧ Below w.heap.size w wr) (fun _ i _ => xs.length - (intOf i).toNat)
  case atStart => exact ⟨0, [], _, _, _, Nat.zero_le _, rfl, rfl, Lib.hid (by simp), Fresh.one (Fresh.of_row (World.ownsRow_made w #[] 0 (Nat.le_refl _) (Nat.zero_le _) rfl) ⟨rfl, rfl⟩ : Fresh _ _ _ (.sl _ 5 []) _), (Below.refl _ _).alloc (Nat.le_refl _) _⟩
  case round =>
    obtain ⟨k, done, A', n', c', hk, rfl, rfl, hd, hF, hb⟩ := hrel
    have hsz := hb.size
    have hnd := Changes.n hF.fst.rep
    subst hnd
    have hdl : done.length ≤ k := by have := len_takeA xs ys (xs.take k) []; rw [← hd.out, List.length_take] at this; simp at this; omega
    obtain ⟨wo, rfl⟩ : ∃ wo : World, wo = wr := ⟨_, rfl⟩
    by_cases hkn : k < xs.length
    · have hkn' : (k : Int) < (xs.length : Int) := by omega
      obtain ⟨b1, o1, x, rfl, _, hbhi, hxk, A3, n3, c3, d0, d1, r3⟩ := Files.at (h1.keep hb hh1) hkn
      have hn3 := Text.n r3
      subst hn3
      have hxt : x.text.length ≤ 1048576 := Hsx.out.2 x (List.mem_of_getElem? hxk)
      have Hnx := Lib.hid (show (xs.take (k + 1)).foldl (stepA xs ys) [] = stepA xs ys done x by rw [foldl_next _ _ hxk, ← hd.out])
      have hhi : hi ≤ wo.heap.size := by omega
      have hhi' : hi' ≤ wo.heap.size := by omega
      have hb1o : b1 < wo.heap.size := by omega
      have hb1w : b1 < w.heap.size := by omega
      clear hxk
      have hget := spec_l4Get_any A2 ys.length c2 ys x.path wo lo' hi' (h2.keep hb hh2)
      obtain ⟨r, hr⟩ : ∃ r, r = getAt ys x.path := ⟨_, rfl⟩
      rw [← hr] at hget
      have Hr := Lib.hid hr
      clear hr
      cases r with
      | some text =>
        simp only [Option.isSome_some, Option.getD_some] at hget
        go_wp2_with fail
        refine Calls.mono hget ?_
        rintro e w5 ⟨A5, n5, c5, rfl, rfl, r5⟩
        clear hget
        have hn5 := Text.n r5
        subst hn5
        have htx : text.length ≤ 1048576 := by
          have := textOk_len10 (getAt_text Ho2.out Hr.out.symm)
          omega
        go_wp2_with fail
        refine Calls.mono (spec_l1Same_any A5 A3 text.length c5 x.text.length c3 text x.text wo lo' hi' lo hi r5 r3) ?_
        rintro e w6 ⟨rfl, q6, hw6⟩
        subst hw6
        by_cases he : text = x.text
        · have Hst := Lib.hid (show stepA xs ys done x = done by unfold stepA; rw [← Hr.out]; simp [he])
          rw [show decide (text = x.text) = true by simp [he]]
          clear he
          go_wp2
          go_roundw
          case rel => exact ⟨k + 1, done, A', _, _, by omega, rfl, by go_num, Lib.hid (by rw [Hnx.out, Hst.out]), hF.on (below_drewN (Below.refl _ _) _), below_drewN hb _⟩
          case measure => first | (simp [intOf]; done) | (simp [intOf]; omega)
        · have Hst := Lib.hid (show stepA xs ys done x = done ++ [⟨3, x.path, [], [], diffOf x.text text⟩] by unfold stepA; rw [← Hr.out]; simp [he])
          rw [show decide (text = x.text) = false by simp [he]]
          clear he
          obtain ⟨W, hW⟩ : ∃ W : World, W = wo.drewN q6 := ⟨_, rfl⟩
          rw [← hW]
          have hbW : Below wo.heap.size wo W := by rw [hW]; exact below_drewN (Below.refl _ _) _
          have hbO : Below w.heap.size W wo := by rw [hW]; exact ⟨rfl, rfl, rfl, Nat.le_refl _, fun _ _ => rfl⟩
          have e0 : W.cell? ⟨b1, o1 + k * 2, none⟩ = some (.string ⟨x.path.toArray⟩) := (hbW.cell (p := ⟨b1, o1 + k * 2, none⟩) hb1o).trans d0
          have e1 : W.cell? ⟨b1, o1 + k * 2 + 1, none⟩ = some (.slice A3 x.text.length c3) := (hbW.cell (p := ⟨b1, o1 + k * 2 + 1, none⟩) hb1o).trans d1
          clear d0 d1 hW
          have d0 := e0
          have d1 := e1
          clear e0 e1
          have hsW := hbW.size
          have hb1W : b1 < W.heap.size := by omega
          have r3W := r3.keep hbW hhi
          have r5W := r5.keep hbW hhi'
          go_wp2
          go_region_held3 (fun w' => w'.cell? ⟨b1, o1 + k * 2, none⟩ = some (.string ⟨x.path.toArray⟩) ∧ w'.cell? ⟨b1, o1 + k * 2 + 1, none⟩ = some (.slice A3 x.text.length c3)) ((first | (with_reducible trivial) | (with_reducible exact ⟨d0, d1⟩) | (with_reducible exact ⟨cw0, cw1⟩) | (with_reducible exact ⟨cy0, cy1⟩) | go_keep)) (first
            | (go_at_call 47; refine (spec_l1Of_any A3 A5 x.text.length c3 text.length c5 x.text text _ lo hi lo' hi' (show Rep W.drew lo hi _ (.slice A3 x.text.length c3) from r3W.drewN 1) (show Rep W.drew lo' hi' _ (.slice A5 text.length c5) from r5W.drewN 1) (show hi ≤ W.heap.size from Nat.le_trans hhi hsW) (show hi' ≤ W.heap.size from Nat.le_trans hhi' hsW) hxt htx).mono ?_
               rintro e w7 ⟨A7, n7, c7, rfl, hb7, hf7⟩
               have cw0 : w7.cell? ⟨b1, o1 + k * 2, none⟩ = some (.string ⟨x.path.toArray⟩) := (hb7.cell (p := ⟨b1, o1 + k * 2, none⟩) (show b1 < W.heap.size from hb1W)).trans d0
               have cw1 : w7.cell? ⟨b1, o1 + k * 2 + 1, none⟩ = some (.slice A3 x.text.length c3) := (hb7.cell (p := ⟨b1, o1 + k * 2 + 1, none⟩) (show b1 < W.heap.size from hb1W)).trans d1)
            | (
               have hb7' : Below W.heap.size W w7 := ⟨hb7.os, hb7.tape, hb7.output, hb7.size, hb7.block⟩
               have hs7 := hb7'.size
               refine step_push (by rfl) (.tmp 44) (.tmp 58) _ (by rfl) w.heap.size 51 ih _ 5 88 Tryd.underlying24 gi0 gi1 gi2 gi3 (by rfl) (by omega) wo w7 _ _ _ A' done.length c' hF hsz (hbW.trans (hb7'.mono hsW)) [.int .i64 3, .string ⟨x.path.toArray⟩, .string ⟨#[]⟩, .slice none 0 0, .slice A7 n7 c7] (cChanges ⟨3, x.path, [], [], diffOf x.text text⟩) (FreshL.mono (FreshL.editC 3 x.path [] (show Fresh w7 W.heap.size w7.heap.size _ _ from hf7) hs7) hsW (Nat.le_refl _)) rfl (by rfl) (by rfl) _ 1 (by rfl) (by rfl) (by intro u hu; simp at hu; rcases hu with rfl | rfl | rfl | rfl | rfl <;> rfl) (by unfold maxLen; omega) (by omega) ?_
               intro A8 c8 w8 hF8 hB8 hsm8 hlt8
               have cy0 : w8.cell? ⟨b1, o1 + k * 2, none⟩ = some (.string ⟨x.path.toArray⟩) := ((hbO.trans hB8).cell (p := ⟨b1, o1 + k * 2, none⟩) (hb1w)).trans d0
               have cy1 : w8.cell? ⟨b1, o1 + k * 2 + 1, none⟩ = some (.slice A3 x.text.length c3) := ((hbO.trans hB8).cell (p := ⟨b1, o1 + k * 2 + 1, none⟩) (hb1w)).trans d1))
          rw [Changes.snoc] at hF8
          have Hf8 := Lib.hid hF8
          clear hF8 hsm8 hf7 hb7 cw0 cw1 cy0 cy1
          go_wp2
          go_roundw
          case rel => exact ⟨k + 1, _, _, _, _, by omega, rfl, by go_num, Lib.hid (by rw [Hnx.out, Hst.out]), Hf8.out, hb.trans hB8⟩
          case measure => first | (simp [intOf]; done) | (simp [intOf]; omega)
      | none =>
        simp only [Option.isSome_none, Option.getD_none] at hget
        go_wp2_with fail
        refine Calls.mono hget ?_
        rintro e w5 ⟨A5, n5, c5, rfl, rfl, _⟩
        clear hget
        have htg := spec_l5Target_any (some ⟨b1, o1, none⟩) A2 A3 A' xs.length c1 ys.length c2 x.text.length c3 done.length c' xs ys x.text done wo lo hi lo' hi' lo hi w.heap.size wo.heap.size (h1.keep hb hh1) (h2.keep hb hh2) r3 hF.fst.rep (fun g hg => free_iff (by rw [hd.out]; exact plain_A Ho2.out _ _ (by simp)) (path_ne Ho2.out hg))
        obtain ⟨tt, htt⟩ : ∃ tt, tt = tgt xs ys x.text (tgOf done) := ⟨_, rfl⟩
        rw [← htt] at htg
        have Htt := Lib.hid htt
        clear htt
        go_wp2_with fail
        refine Calls.mono htg ?_
        rintro e w6 ⟨rfl, q6, hw6⟩
        subst hw6
        clear htg
        cases tt with
        | some p =>
          have Hst := Lib.hid (show stepA xs ys done x = done ++ [⟨4, x.path, p, [], []⟩] by unfold stepA; rw [← Hr.out, ← Htt.out])
          have hpe : p ≠ [] := tgt_path Ho2.out Htt.out.symm
          have hpe1 : p.isEmpty = false := by cases p with | nil => exact absurd rfl hpe | cons a b => rfl
          clear hpe
          rw [Option.getD_some]
          obtain ⟨W, hW⟩ : ∃ W : World, W = wo.drewN q6 := ⟨_, rfl⟩
          rw [← hW]
          have hbW : Below wo.heap.size wo W := by rw [hW]; exact below_drewN (Below.refl _ _) _
          have hbO : Below w.heap.size W wo := by rw [hW]; exact ⟨rfl, rfl, rfl, Nat.le_refl _, fun _ _ => rfl⟩
          have e0 : W.cell? ⟨b1, o1 + k * 2, none⟩ = some (.string ⟨x.path.toArray⟩) := (hbW.cell (p := ⟨b1, o1 + k * 2, none⟩) hb1o).trans d0
          have e1 : W.cell? ⟨b1, o1 + k * 2 + 1, none⟩ = some (.slice A3 x.text.length c3) := (hbW.cell (p := ⟨b1, o1 + k * 2 + 1, none⟩) hb1o).trans d1
          clear d0 d1 hW
          have d0 := e0
          have d1 := e1
          clear e0 e1
          have hsW := hbW.size
          have hb1W : b1 < W.heap.size := by omega
          go_wp2_with (at_builtin; go_loud (refine wpList_push rfl (.tmp 72) (.tmp 80) _ rfl w.heap.size 51 ih _ 5 88 Tryd.underlying24 gi0 gi1 gi2 gi3 rfl (by omega) wo W _ _ _ A' done.length c' hF hsz hbW [.int .i64 4, .string ⟨x.path.toArray⟩, .string ⟨p.toArray⟩, .slice none 0 0, .slice none 0 0] (cChanges ⟨4, x.path, p, [], []⟩) (FreshL.bareC 4 x.path p hsW) rfl rfl rfl _ 1 rfl rfl (by intro u hu; simp at hu; rcases hu with rfl | rfl | rfl | rfl | rfl <;> rfl) (by unfold maxLen; omega) (by omega) ?_))
          intro A9 c9 w9 hF10 hB9 hsm9 hlt9
          rw [Changes.snoc] at hF10
          have Hf10 := Lib.hid hF10
          clear hF10 hsm9
          go_wp2
          go_roundw
          case rel => exact ⟨k + 1, _, _, _, _, by omega, rfl, by go_num, Lib.hid (by rw [Hnx.out, Hst.out]), Hf10.out, hb.trans hB9⟩
          case measure => first | (simp [intOf]; done) | (simp [intOf]; omega)
        | none =>
          have Hst := Lib.hid (show stepA xs ys done x = done ++ [⟨2, x.path, [], x.text, []⟩] by unfold stepA; rw [← Hr.out, ← Htt.out])
          rw [Option.getD_none]
          obtain ⟨W, hW⟩ : ∃ W : World, W = wo.drewN q6 := ⟨_, rfl⟩
          rw [← hW]
          have hbW : Below wo.heap.size wo W := by rw [hW]; exact below_drewN (Below.refl _ _) _
          have hbO : Below w.heap.size W wo := by rw [hW]; exact ⟨rfl, rfl, rfl, Nat.le_refl _, fun _ _ => rfl⟩
          have e0 : W.cell? ⟨b1, o1 + k * 2, none⟩ = some (.string ⟨x.path.toArray⟩) := (hbW.cell (p := ⟨b1, o1 + k * 2, none⟩) hb1o).trans d0
          have e1 : W.cell? ⟨b1, o1 + k * 2 + 1, none⟩ = some (.slice A3 x.text.length c3) := (hbW.cell (p := ⟨b1, o1 + k * 2 + 1, none⟩) hb1o).trans d1
          clear d0 d1 hW
          have d0 := e0
          have d1 := e1
          clear e0 e1
          have hsW := hbW.size
          have hb1W : b1 < W.heap.size := by omega
          have r3W := r3.keep hbW hhi
          have M1 : ((W.alloc (Obj.cells #[] 9)).drew).ownsRow W.heap.size 9 1 (.slice (some ⟨W.heap.size, 0, none⟩) 0 0) 0 [] := World.ownsRow_made W #[] 0 (Nat.le_refl _) (Nat.zero_le _) rfl
          go_wp2
          go_region_held3 (fun w' => w'.cell? ⟨b1, o1 + k * 2, none⟩ = some (.string ⟨x.path.toArray⟩) ∧ w'.cell? ⟨b1, o1 + k * 2 + 1, none⟩ = some (.slice A3 x.text.length c3)) ((first | (with_reducible trivial) | (with_reducible exact ⟨d0, d1⟩) | (with_reducible exact ⟨cw0, cw1⟩) | (with_reducible exact ⟨cy0, cy1⟩) | go_keep)) (first
            | (
               refine step_append_src _ (by rfl) (.tmp 88) (.tmp 93) _ (by rfl) W.heap.size 9 is _ 1 16 Tryd.underlying39 si0 si1 si2 si3 (by rfl) (by omega) _ 0 [] (by rfl) M1 A3 x.text.length c3 _ (by rfl) (Text.src (r3W.keep (B := W.heap.size) (by (repeat' (first | with_reducible exact Below.refl _ _ | with_reducible assumption | (with_reducible refine Below.setCell ?_ ?_ _) | (with_reducible refine Below.alloc ?_ ?_ _) | (with_reducible refine below_drewN ?_ _) | (with_reducible refine Below.drew ?_) | omega | (simp; done) | (simp; omega)))) (Nat.le_trans hhi hsW))) (texts_one _) (by unfold maxLen; omega) (by omega) (by first | omega | (simp; done) | (simp; omega)) ?_
               intro A5 c5 w5 hown5 hg5 hat5
               change World.grownBy _ w5 (Value.slice (some ⟨W.heap.size, 0, none⟩) 0 0).ownBlock at hg5
               rw [Nat.zero_add] at hown5
               have hb5 : Below W.heap.size W w5 := Below.grown (by (repeat' (first | with_reducible exact Below.refl _ _ | with_reducible assumption | (with_reducible refine Below.setCell ?_ ?_ _) | (with_reducible refine Below.alloc ?_ ?_ _) | (with_reducible refine below_drewN ?_ _) | (with_reducible refine Below.drew ?_) | omega | (simp; done) | (simp; omega)))) hg5 (by first | omega | (simp; done) | (simp; omega)) (fun g hg => by simp [Value.ownBlock] at hg; omega)
               have cw0 : w5.cell? ⟨b1, o1 + k * 2, none⟩ = some (.string ⟨x.path.toArray⟩) := (hb5.cell (p := ⟨b1, o1 + k * 2, none⟩) (hb1W)).trans d0
               have cw1 : w5.cell? ⟨b1, o1 + k * 2 + 1, none⟩ = some (.slice A3 x.text.length c3) := (hb5.cell (p := ⟨b1, o1 + k * 2 + 1, none⟩) (hb1W)).trans d1)
            | (
               have hs5 := hb5.size
               have hf5 : Fresh w5 W.heap.size w5.heap.size (encText x.text) (.slice A5 x.text.length c5) := Fresh.of_row hown5 (owns_strs _ _)
               refine step_push (by rfl) (.tmp 82) (.tmp 96) _ (by rfl) w.heap.size 51 ih _ 5 88 Tryd.underlying24 gi0 gi1 gi2 gi3 (by rfl) (by omega) wo w5 _ _ _ A' done.length c' hF hsz (hbW.trans (hb5.mono hsW)) [.int .i64 2, .string ⟨x.path.toArray⟩, .string ⟨#[]⟩, .slice A5 x.text.length c5, .slice none 0 0] (cChanges ⟨2, x.path, [], x.text, []⟩) (FreshL.mono (FreshL.textC 2 x.path [] hf5 hs5) hsW (Nat.le_refl _)) rfl (by rfl) (by rfl) _ 1 (by rfl) (by rfl) (by intro u hu; simp at hu; rcases hu with rfl | rfl | rfl | rfl | rfl <;> rfl) (by unfold maxLen; omega) (by omega) ?_
               intro A8 c8 w8 hF8 hB8 hsm8 hlt8
               have cy0 : w8.cell? ⟨b1, o1 + k * 2, none⟩ = some (.string ⟨x.path.toArray⟩) := ((hbO.trans hB8).cell (p := ⟨b1, o1 + k * 2, none⟩) (hb1w)).trans d0
               have cy1 : w8.cell? ⟨b1, o1 + k * 2 + 1, none⟩ = some (.slice A3 x.text.length c3) := ((hbO.trans hB8).cell (p := ⟨b1, o1 + k * 2 + 1, none⟩) (hb1w)).trans d1))
          rw [Changes.snoc] at hF8
          have Hf8 := Lib.hid hF8
          clear hF8 hsm8 hf5 hown5 hg5 hat5 hb5 cw0 cw1 cy0 cy1 M1
          go_wp2
          go_roundw
          case rel => exact ⟨k + 1, _, _, _, _, by omega, rfl, by go_num, Lib.hid (by rw [Hnx.out, Hst.out]), Hf8.out, hb.trans hB8⟩
          case measure => first | (simp [intOf]; done) | (simp [intOf]; omega)
    · obtain rfl : k = xs.length := by omega
      have hd2 : done = firstA xs ys := by have := hd.out; rwa [List.take_length] at this
      have Hpl := Lib.hid (show ∀ c ∈ done, plainC c by rw [hd2]; exact plain_A Ho2.out _ _ (by simp))
      have Hd := Lib.hid hd2
      clear hd2 hd hkn
      have hd8 : done.length ≤ 8 := by omega
      clear hdl
      go_wp2
      go_loopw [5, 11] (fun t i wr => ∃ (k : Nat) (out : List PChange) (A' : Option Addr) (n' c' : Nat), k ≤ ys.length ∧ t = .slice A' n' c' ∧ i = .int .i64 k ∧ Hid (out = (ys.take k).foldl (stepB xs (tgOf done)) done) ∧ FreshL wr w.heap.size wr.heap.size [encChanges out] [.slice A' n' c'] ∧ Below w.heap.size w wr) (fun _ i _ => ys.length - (intOf i).toNat)
      case atStart => exact ⟨0, done, A', done.length, c', Nat.zero_le _, rfl, rfl, Lib.hid (by simp), hF, hb⟩
      case round =>
        clear hF hb hsz
        obtain ⟨k, out, A', n', c', hk, rfl, rfl, hd, hF, hb⟩ := hrel
        have hsz := hb.size
        have hnd := Changes.n hF.fst.rep
        subst hnd
        have hdl : out.length ≤ 8 + k := by have := len_takeB xs (tgOf done) (ys.take k) done; rw [← hd.out, List.length_take] at this; omega
        have hol := foldB_len hd.out
        obtain ⟨wo, rfl⟩ : ∃ wo : World, wo = wr := ⟨_, rfl⟩
        by_cases hkn : k < ys.length
        · have hkn' : (k : Int) < (ys.length : Int) := by omega
          obtain ⟨b1, o1, x, rfl, _, hbhi, hxk, A3, n3, c3, d0, d1, r3⟩ := Files.at (h2.keep hb hh2) hkn
          have hn3 := Text.n r3
          subst hn3
          have hxt : x.text.length ≤ 1048576 := Hsy.out.2 x (List.mem_of_getElem? hxk)
          have Hnx := Lib.hid (show (ys.take (k + 1)).foldl (stepB xs (tgOf done)) done = stepB xs (tgOf done) out x by rw [foldl_next _ _ hxk, ← hd.out])
          have Hhit := Lib.hid (hit_iff Hpl.out (path_ne Ho2.out (List.mem_of_getElem? hxk)))
          have hhi : hi ≤ wo.heap.size := by omega
          have hhi' : hi' ≤ wo.heap.size := by omega
          have hb1o : b1 < wo.heap.size := by omega
          have hb1w : b1 < w.heap.size := by omega
          clear hxk
          have hget := spec_l4Get_any A1 xs.length c1 xs x.path wo lo hi (h1.keep hb hh1)
          obtain ⟨kn, hkn9⟩ : ∃ kn, kn = hasP xs x.path := ⟨_, rfl⟩
          rw [show (getAt xs x.path).isSome = kn from hkn9.symm] at hget
          have Hkn := Lib.hid hkn9
          clear hkn9
          go_wp2_with fail
          refine Calls.mono hget ?_
          rintro e w5 ⟨A5, n5, c5, rfl, rfl, _⟩
          clear hget
          go_wp2
          go_loopw [14, 15] (fun b i wq => ∃ (l : Nat) (mb : Bool), l ≤ done.length ∧ b = .bool mb ∧ i = .int .i64 l ∧ Hid (mb = (done.take l).any fun c => c.dest == x.path) ∧ ∃ m, wq = wo.drewN m) (fun _ i _ => done.length - (intOf i).toNat)
          case atStart => exact ⟨0, false, Nat.zero_le _, rfl, rfl, Lib.hid (by simp), 0, rfl⟩
          case round =>
            obtain ⟨l, mb, hl, rfl, rfl, hmb, q, rfl⟩ := hrel
            by_cases hln : l < done.length
            · have hln' : (l : Int) < (done.length : Int) := by omega
              have hln2 : (l : Int) < (out.length : Int) := by omega
              obtain ⟨b4, o4, y, rfl, _, _, hyl, A7, n7, c7, A8, n8, c8, g0, g1, g2, g3, r7, g4, r8⟩ := Changes.at hF.fst.rep (k := l) (by omega)
              have Hny := Lib.hid (any_next (p := fun c : PChange => c.dest == x.path) (foldB_at hd.out hln hyl))
              clear hyl
              cases mb with
              | false =>
                go_wp2
                go_quiet (fail)
                go_wp2
                go_roundw
                case rel => exact ⟨l + 1, (y.dest == x.path), by omega, rfl, by go_num, Lib.hid (by rw [Hny.out, ← hmb.out]; simp), q + nq, by simp⟩
                case measure => simp [intOf]; omega
              | true =>
                go_wp2
                go_quiet (fail)
                go_wp2
                go_roundw
                case rel => exact ⟨l + 1, true, by omega, rfl, by go_num, Lib.hid (by rw [Hny.out, ← hmb.out]; simp), q + nq, by simp⟩
                case measure => simp [intOf]; omega
            · obtain rfl : l = done.length := by omega
              have Hmb := Lib.hid (show mb = (tgOf done).contains x.path by have := hmb.out; rw [List.take_length] at this; rw [this, Hhit.out])
              clear hmb
              cases kn with
              | true =>
                have Hst := Lib.hid (show stepB xs (tgOf done) out x = out by unfold stepB; rw [← Hkn.out]; rfl)
                go_wp2
                go_roundw
                case rel => exact ⟨k + 1, out, A', _, _, by omega, rfl, by go_num, Lib.hid (by rw [Hnx.out, Hst.out]), hF.on (below_drewN (Below.refl _ _) _), below_drewN hb _⟩
                case measure => first | (simp [intOf]; done) | (simp [intOf]; omega)
              | false =>
                cases mb with
                | true =>
                  have Hst := Lib.hid (show stepB xs (tgOf done) out x = out by unfold stepB; rw [← Hmb.out]; simp)
                  go_wp2
                  go_roundw
                  case rel => exact ⟨k + 1, out, A', _, _, by omega, rfl, by go_num, Lib.hid (by rw [Hnx.out, Hst.out]), hF.on (below_drewN (Below.refl _ _) _), below_drewN hb _⟩
                  case measure => first | (simp [intOf]; done) | (simp [intOf]; omega)
                | false =>
                  have Hst := Lib.hid (show stepB xs (tgOf done) out x = out ++ [⟨1, x.path, [], x.text, []⟩] by unfold stepB; rw [← Hmb.out, ← Hkn.out]; rfl)
                  obtain ⟨W, hW⟩ : ∃ W : World, W = wo.drewN q := ⟨_, rfl⟩
                  rw [← hW]
                  have hbW : Below wo.heap.size wo W := by rw [hW]; exact below_drewN (Below.refl _ _) _
                  have hbO : Below w.heap.size W wo := by rw [hW]; exact ⟨rfl, rfl, rfl, Nat.le_refl _, fun _ _ => rfl⟩
                  have e0 : W.cell? ⟨b1, o1 + k * 2, none⟩ = some (.string ⟨x.path.toArray⟩) := (hbW.cell (p := ⟨b1, o1 + k * 2, none⟩) hb1o).trans d0
                  have e1 : W.cell? ⟨b1, o1 + k * 2 + 1, none⟩ = some (.slice A3 x.text.length c3) := (hbW.cell (p := ⟨b1, o1 + k * 2 + 1, none⟩) hb1o).trans d1
                  clear d0 d1 hW
                  have d0 := e0
                  have d1 := e1
                  clear e0 e1
                  have hsW := hbW.size
                  have hb1W : b1 < W.heap.size := by omega
                  have r3W := r3.keep hbW hhi'
                  have M1 : ((W.alloc (Obj.cells #[] 9)).drew).ownsRow W.heap.size 9 1 (.slice (some ⟨W.heap.size, 0, none⟩) 0 0) 0 [] := World.ownsRow_made W #[] 0 (Nat.le_refl _) (Nat.zero_le _) rfl
                  go_wp2
                  go_region_held3 (fun w' => w'.cell? ⟨b1, o1 + k * 2, none⟩ = some (.string ⟨x.path.toArray⟩) ∧ w'.cell? ⟨b1, o1 + k * 2 + 1, none⟩ = some (.slice A3 x.text.length c3)) ((first | (with_reducible trivial) | (with_reducible exact ⟨d0, d1⟩) | (with_reducible exact ⟨cw0, cw1⟩) | (with_reducible exact ⟨cy0, cy1⟩) | go_keep)) (first
                    | (
                       refine step_append_src _ (by rfl) (.tmp 147) (.tmp 152) _ (by rfl) W.heap.size 9 is _ 1 16 Tryd.underlying39 si0 si1 si2 si3 (by rfl) (by omega) _ 0 [] (by rfl) M1 A3 x.text.length c3 _ (by rfl) (Text.src (r3W.keep (B := W.heap.size) (by (repeat' (first | with_reducible exact Below.refl _ _ | with_reducible assumption | (with_reducible refine Below.setCell ?_ ?_ _) | (with_reducible refine Below.alloc ?_ ?_ _) | (with_reducible refine below_drewN ?_ _) | (with_reducible refine Below.drew ?_) | omega | (simp; done) | (simp; omega)))) (Nat.le_trans hhi' hsW))) (texts_one _) (by unfold maxLen; omega) (by omega) (by first | omega | (simp; done) | (simp; omega)) ?_
                       intro A5 c5 w5 hown5 hg5 hat5
                       change World.grownBy _ w5 (Value.slice (some ⟨W.heap.size, 0, none⟩) 0 0).ownBlock at hg5
                       rw [Nat.zero_add] at hown5
                       have hb5 : Below W.heap.size W w5 := Below.grown (by (repeat' (first | with_reducible exact Below.refl _ _ | with_reducible assumption | (with_reducible refine Below.setCell ?_ ?_ _) | (with_reducible refine Below.alloc ?_ ?_ _) | (with_reducible refine below_drewN ?_ _) | (with_reducible refine Below.drew ?_) | omega | (simp; done) | (simp; omega)))) hg5 (by first | omega | (simp; done) | (simp; omega)) (fun g hg => by simp [Value.ownBlock] at hg; omega)
                       have cw0 : w5.cell? ⟨b1, o1 + k * 2, none⟩ = some (.string ⟨x.path.toArray⟩) := (hb5.cell (p := ⟨b1, o1 + k * 2, none⟩) (hb1W)).trans d0
                       have cw1 : w5.cell? ⟨b1, o1 + k * 2 + 1, none⟩ = some (.slice A3 x.text.length c3) := (hb5.cell (p := ⟨b1, o1 + k * 2 + 1, none⟩) (hb1W)).trans d1)
                    | (
                       have hs5 := hb5.size
                       have hf5 : Fresh w5 W.heap.size w5.heap.size (encText x.text) (.slice A5 x.text.length c5) := Fresh.of_row hown5 (owns_strs _ _)
                       refine step_push (by rfl) (.tmp 141) (.tmp 155) _ (by rfl) w.heap.size 51 ih _ 5 88 Tryd.underlying24 gi0 gi1 gi2 gi3 (by rfl) (by omega) wo w5 _ _ _ A' out.length c' hF hsz (hbW.trans (hb5.mono hsW)) [.int .i64 1, .string ⟨x.path.toArray⟩, .string ⟨#[]⟩, .slice A5 x.text.length c5, .slice none 0 0] (cChanges ⟨1, x.path, [], x.text, []⟩) (FreshL.mono (FreshL.textC 1 x.path [] hf5 hs5) hsW (Nat.le_refl _)) rfl (by rfl) (by rfl) _ 1 (by rfl) (by rfl) (by intro u hu; simp at hu; rcases hu with rfl | rfl | rfl | rfl | rfl <;> rfl) (by unfold maxLen; omega) (by omega) ?_
                       intro A8 c8 w8 hF8 hB8 hsm8 hlt8
                       have cy0 : w8.cell? ⟨b1, o1 + k * 2, none⟩ = some (.string ⟨x.path.toArray⟩) := ((hbO.trans hB8).cell (p := ⟨b1, o1 + k * 2, none⟩) (hb1w)).trans d0
                       have cy1 : w8.cell? ⟨b1, o1 + k * 2 + 1, none⟩ = some (.slice A3 x.text.length c3) := ((hbO.trans hB8).cell (p := ⟨b1, o1 + k * 2 + 1, none⟩) (hb1w)).trans d1))
                  rw [Changes.snoc] at hF8
                  have Hf8 := Lib.hid hF8
                  clear hF8 hsm8 hf5 hown5 hg5 hat5 hb5 cw0 cw1 cy0 cy1 M1
                  go_wp2
                  go_roundw
                  case rel => exact ⟨k + 1, _, _, _, _, by omega, rfl, by go_num, Lib.hid (by rw [Hnx.out, Hst.out]), Hf8.out, hb.trans hB8⟩
                  case measure => first | (simp [intOf]; done) | (simp [intOf]; omega)
        · obtain rfl : k = ys.length := by omega
          have hfin : out = P := by
            have := hd.out
            rw [List.take_length] at this
            rw [this, Hp.out, Hd.out]
          have Hfin := Lib.hid hfin
          clear hfin
          go_wp2
          go_ret
          refine ⟨_, _, _, rfl, hb, ?_⟩
          rw [← Hfin.out]
          exact hF.fst

set_option maxRecDepth 100000 in
set_option maxHeartbeats 2000000 in
theorem spec_ChangesOf_any (A1 A2 : Option Addr) (n1 c1 n2 c2 : Nat) (xs ys : List PFile) (w : World) (lo hi lo' hi' : Nat) (h1 : Rep w lo hi (encFiles xs) (.slice A1 n1 c1)) (h2 : Rep w lo' hi' (encFiles ys) (.slice A2 n2 c2)) (hh1 : hi ≤ w.heap.size) (hh2 : hi' ≤ w.heap.size) (ht1 : okTree xs) (ht2 : okTree ys) :
    Calls Tryd.prog 6 #[.slice A1 n1 c1, .slice A2 n2 c2] w fun e w' => ∃ A n c, e = .returned (.slice A n c) ∧ Below w.heap.size w w' ∧ Fresh w' w.heap.size w'.heap.size (encChanges (changesOf xs ys)) (.slice A n c) := by
  have hx := spec_l4Ok_any A1 n1 c1 xs w lo hi h1 hh1 ht1
  have hy := fun w' h2 hh2 => spec_l4Ok_any A2 n2 c2 ys w' lo' hi' h2 hh2 ht2
  obtain ⟨P, hP⟩ : ∃ P, P = changesOf xs ys := ⟨_, rfl⟩
  rw [← hP]
  unfold changesOf at hP
  cases ho1 : treeOk xs with
  | false =>
    rw [ho1] at hx hP
    have Hp := Lib.hid (show P = [] from hP)
    clear hP hy ht1 ht2
    go_enter Tryd.func6, Tryd.ntmps6
    go_wp2_with fail
    refine Calls.mono hx ?_
    rintro e w1 ⟨rfl, hb1⟩
    go_wp2
    go_ret
    exact ⟨none, 0, 0, rfl, hb1, by rw [Hp.out]; exact Fresh.nil _ _ _ _ _⟩
  | true =>
    cases ho2 : treeOk ys with
    | false =>
      rw [ho1] at hx hP
      rw [ho2] at hP
      have Hp := Lib.hid (show P = [] from hP)
      clear hP ht1 ht2
      go_enter Tryd.func6, Tryd.ntmps6
      go_wp2_with fail
      refine Calls.mono hx ?_
      rintro e w1 ⟨rfl, hb1⟩
      have hy1 := hy w1 (h2.keep hb1 hh2) (Nat.le_trans hh2 hb1.size)
      rw [ho2] at hy1
      clear hy
      go_wp2_with fail
      refine Calls.mono hy1 ?_
      rintro e w2 ⟨rfl, hb2⟩
      go_wp2
      go_ret
      exact ⟨none, 0, 0, rfl, hb1.trans (hb2.mono hb1.size), by rw [Hp.out]; exact Fresh.nil _ _ _ _ _⟩
    | true =>
      rw [ho1] at hx hP
      rw [ho2] at hP
      have Hp := Lib.hid (show P = ys.foldl (stepB xs (tgOf (firstA xs ys))) (firstA xs ys) from hP)
      have Ho1 := Lib.hid ho1
      have Ho2 := Lib.hid ho2
      clear hP ht1 ht2 ho1
      go_enter Tryd.func6, Tryd.ntmps6
      go_wp2_with fail
      refine Calls.mono hx ?_
      rintro e w1 ⟨rfl, hb1⟩
      have hy1 := hy w1 (h2.keep hb1 hh2) (Nat.le_trans hh2 hb1.size)
      rw [ho2] at hy1
      clear hy hx ho2
      go_wp2_with fail
      refine Calls.mono hy1 ?_
      rintro e w2 ⟨rfl, hb2⟩
      have hbw : Below w.heap.size w w2 := hb1.trans (hb2.mono hb1.size)
      have hsw := hbw.size
      have hof := spec_l5Of_any A1 A2 n1 c1 n2 c2 xs ys w2 lo hi lo' hi' (h1.keep hbw hh1) (h2.keep hbw hh2) (Nat.le_trans hh1 hsw) (Nat.le_trans hh2 hsw) Ho1.out Ho2.out
      clear hy1 hb1 hb2
      go_wp2_with fail
      refine Calls.mono hof ?_
      rintro e w3 ⟨A, n, c, rfl, hb3, hf3⟩
      go_wp2
      go_ret
      rw [Hp.out]
      exact ⟨_, _, _, rfl, hbw.trans (hb3.mono hsw), hf3.mono hsw (Nat.le_refl _)⟩
end Go.Proofs.YtianpeokdojkbaaDoor
