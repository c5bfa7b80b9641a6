import Derived.Test.YtianpeokdojkbaaDoorOfPlain
import Derived.Test.YtianpeokdojkbaaDoorChangeBox
import Derived.Test.YtianpeokdojkbaaDoorPush
import Derived.Test.YtianpeokdojkbaaDoorZ21
import Derived.Test.YtianpeokdojkbaaDoorDiff
import Derived.Test.YtianpeokdojkbaaDoorTree
import Derived.Deep.RegionHeld3
import Derived.Deep.DeepCutAuto
/- Walk: the program's ChangesOf. Printed by wip/mk_ofimpl.py. -/
namespace Go.Proofs.YtianpeokdojkbaaDoor
open Go.RowKit

theorem keep2 {wr W : World} {b o : Nat} {u0 u1 : Value} (hb : Below wr.heap.size wr W) (hl : b < wr.heap.size) (h0 : wr.cell? ⟨b, o, none⟩ = some u0) (h1 : wr.cell? ⟨b, o + 1, none⟩ = some u1) :
    W.cell? ⟨b, o, none⟩ = some u0 ∧ W.cell? ⟨b, o + 1, none⟩ = some u1 :=
  ⟨(hb.cell (p := ⟨b, o, none⟩) hl).trans h0, (hb.cell (p := ⟨b, o + 1, none⟩) hl).trans h1⟩
theorem FreshL.keep {w w' : World} {lo hi B : Nat} {ps : List PV} {us : List Value} (h : FreshL w lo hi ps us) (hb : Below B w w') (hh : hi ≤ B) : FreshL w' lo hi ps us := h.same (.of_below hb hh)
theorem FreshL.on {w w' : World} {lo : Nat} {ps : List PV} {us : List Value} (h : FreshL w lo w.heap.size ps us) (hb : Below w.heap.size w w') : FreshL w' lo w'.heap.size ps us := (h.keep hb (Nat.le_refl _)).mono (Nat.le_refl _) hb.size
theorem Text.snoc (e : Nat) (tg : List Str) (s : Str) : PV.sl e 1 (tg.flatMap cText ++ [.str s]) = encTextE e (tg ++ [s]) := by
  unfold encTextE
  rw [List.flatMap_append]
  rfl

set_option maxRecDepth 100000 in
set_option maxHeartbeats 4000000 in
theorem impl_ChangesOf_any (A1 A2 : Option Addr) (n1 c1 n2 c2 : Nat) (xs ys : List PFile) (w : World) (lo hi lo' hi' : Nat) (h1 : Rep w lo hi (encFiles xs) (.slice A1 n1 c1)) (h2 : Rep w lo' hi' (encFiles ys) (.slice A2 n2 c2)) (hh1 : hi ≤ w.heap.size) (hh2 : hi' ≤ w.heap.size) (ht1 : okTree xs) (ht2 : okTree ys) :
    Calls Tryd.prog 8 #[.slice A1 n1 c1, .slice A2 n2 c2] w fun e w' => ∃ A n c, e = .returned (.slice A n c) ∧ Below w.heap.size w w' ∧ Fresh w' w.heap.size w'.heap.size (encChanges (changesOf xs ys)) (.slice A n c) := by
  have hl1 := Files.n h1
  have hl2 := Files.n h2
  obtain ⟨hc1, hm1⟩ := Files.cap h1
  obtain ⟨hc2, hm2⟩ := Files.cap h2
  subst hl1 hl2
  have hx := impl_TreeOk_any A1 xs.length c1 xs w lo hi h1 hh1 ht1
  have hy := fun w' h2 hh2 => impl_TreeOk_any A2 ys.length c2 ys w' lo' hi' h2 hh2 ht2
  obtain ⟨P, hP⟩ : ∃ P, P = changesOf xs ys := ⟨_, rfl⟩
  rw [← hP]
  unfold changesOf at hP
  obtain ⟨ih, gi0, gi1, gi2, gi3⟩ := info_parts Tryd.infoChange
  obtain ⟨is, si0, si1, si2, si3⟩ := info_parts Tryd.infoStr
  cases ho1 : treeOk xs with
  | false =>
    rw [ho1] at hx hP
    have Hp := Lib.hid (show P = [] from hP)
    clear hP hy ht1 ht2
    go_enter Tryd.func8, Tryd.ntmps8
    go_wp2_with fail
    refine Calls.mono hx ?_
    rintro e w1 ⟨rfl, hb1⟩
    go_wp2
    go_ret
    exact ⟨none, 0, 0, rfl, hb1, by rw [Hp.out]; exact Fresh.nil _ _ _ _ _⟩
  | true =>
    cases ho2 : treeOk ys with
    | false =>
      rw [ho1] at hx hP
      rw [ho2] at hP
      have Hp := Lib.hid (show P = [] from hP)
      clear hP ht1 ht2
      go_enter Tryd.func8, Tryd.ntmps8
      go_wp2_with fail
      refine Calls.mono hx ?_
      rintro e w1 ⟨rfl, hb1⟩
      have hy1 := hy w1 (h2.keep hb1 hh2) (Nat.le_trans hh2 hb1.size)
      rw [ho2] at hy1
      clear hy
      go_wp2_with fail
      refine Calls.mono hy1 ?_
      rintro e w2 ⟨rfl, hb2⟩
      go_wp2
      go_ret
      exact ⟨none, 0, 0, rfl, hb1.trans (hb2.mono hb1.size), by rw [Hp.out]; exact Fresh.nil _ _ _ _ _⟩
    | true =>
      rw [ho1] at hx hP
      rw [ho2] at hP
      have Hp := Lib.hid (show P = ys.foldl (stepB xs (tgOf (firstA xs ys))) (firstA xs ys) from hP)
      have hsx := smallTree_ok ho1
      have hsy := smallTree_ok ho2
      have h8x := (treeOk_iff.1 ho1).1
      have h8y := (treeOk_iff.1 ho2).1
      have Hsx := Lib.hid hsx
      have Hsy := Lib.hid hsy
      have Ho1 := Lib.hid ho1
      have Ho2 := Lib.hid ho2
      clear hP ht1 ht2 hsx hsy ho1
      go_enter Tryd.func8, Tryd.ntmps8
      go_wp2_with fail
      refine Calls.mono hx ?_
      rintro e w1 ⟨rfl, hb1⟩
      have hy1 := hy w1 (h2.keep hb1 hh2) (Nat.le_trans hh2 hb1.size)
      rw [ho2] at hy1
      clear hy hx ho2
      go_wp2_with fail
      refine Calls.mono hy1 ?_
      rintro e w2 ⟨rfl, hb2⟩
      have hbw : Below w.heap.size w w2 := hb1.trans (hb2.mono hb1.size)
      have hsw := hbw.size
      have h1w := h1.keep hbw hh1
      have h2w := h2.keep hbw hh2
      clear hy1 hb1 hb2 h1 h2
      go_wp2
      go_loopw [5, 6, 30] (fun t tg i wr => ∃ (k : Nat) (done : List PChange) (tgl : List Str) (A' At : Option Addr) (n' c' nt ct : Nat), k ≤ xs.length ∧ t = .slice A' n' c' ∧ tg = .slice At nt ct ∧ i = .int .i64 k ∧ Hid (done = (xs.take k).foldl (stepA xs ys) []) ∧ Hid (tgl = tgOf done) ∧
        FreshL wr w2.heap.size wr.heap.size [encChanges done, encText tgl] [.slice A' n' c', .slice At nt ct] ∧ Below w2.heap.size w2 wr) (fun _ _ i _ => xs.length - (intOf i).toNat)
      case atStart => exact ⟨0, [], [], none, none, 0, 0, 0, 0, Nat.zero_le _, rfl, rfl, rfl, Lib.hid (by simp), Lib.hid rfl, FreshL.cons (Fresh.nil _ _ _ _ _) (Fresh.one (Fresh.nil _ _ _ _ _)) (Nat.le_refl _) (Nat.le_refl _), Below.refl _ _⟩
      case round =>
        obtain ⟨k, done, tgl, A', At, n', c', nt, ct, hk, rfl, rfl, rfl, hd, htg, hF, hb⟩ := hrel
        have hsz := hb.size
        have hnd := Changes.n hF.fst.rep
        have hnt := Text.n hF.swap.fst.rep
        subst hnd hnt
        have hdl : done.length ≤ k := by have := len_takeA xs ys (xs.take k) []; rw [← hd.out, List.length_take] at this; simp at this; omega
        have htl : tgl.length ≤ k := by rw [htg.out]; unfold tgOf; rw [List.length_map]; exact Nat.le_trans (List.length_filter_le _ _) hdl
        obtain ⟨wo, rfl⟩ : ∃ wo : World, wo = wr := ⟨_, rfl⟩
        by_cases hkn : k < xs.length
        · have hkn' : (k : Int) < (xs.length : Int) := by omega
          obtain ⟨b1, o1, x, rfl, _, hbhi, hxk, A3, n3, c3, d0, d1, r3⟩ := Files.at (h1w.keep hb (Nat.le_trans hh1 hsw)) hkn
          have hn3 := Text.n r3
          subst hn3
          have hxt : x.text.length ≤ 1048576 := Hsx.out.2 x (List.mem_of_getElem? hxk)
          have Hnx := Lib.hid (show (xs.take (k + 1)).foldl (stepA xs ys) [] = stepA xs ys done x by rw [foldl_next _ _ hxk, ← hd.out])
          have hhi : hi ≤ wo.heap.size := by omega
          have hhi' : hi' ≤ wo.heap.size := by omega
          clear hxk
          go_wp2_with fail
          obtain ⟨W, hW⟩ : ∃ W : World, W = wo.alloc (.cells #[.string ⟨x.path.toArray⟩, .slice A3 x.text.length c3] 43) := ⟨_, rfl⟩
          rw [← hW]
          have hbr : Below wo.heap.size wo W := by rw [hW]; exact (Below.refl _ _).alloc (Nat.le_refl _) _
          have hWlt : wo.heap.size < W.heap.size := by rw [hW]; simp
          have p0 : W.cell? ⟨wo.heap.size, 0, none⟩ = some (.string ⟨x.path.toArray⟩) := by rw [hW]; simp [go_sem]
          have p1 : W.cell? ⟨wo.heap.size, 1, none⟩ = some (.slice A3 x.text.length c3) := by rw [hW]; simp [go_sem]
          clear hW d0 d1
          have hget := impl_get_any A2 ys.length c2 ys x.path W lo' hi' ((h2w.keep hb (by omega)).keep hbr hhi') (by omega) Hsy.out
          obtain ⟨r, hr⟩ : ∃ r, r = getAt ys x.path := ⟨_, rfl⟩
          rw [← hr] at hget
          cases r with
          | some text =>
            simp only [Option.isSome_some, Option.getD_some] at hget
            have Hr := Lib.hid hr
            clear hr
            refine Calls.mono hget ?_
            rintro e w5 ⟨A5, n5, c5, rfl, hb5, hf5⟩
            clear hget
            have hn5 := Text.n hf5.rep
            subst hn5
            have hs5 := hb5.size
            have hbr5 : Below wo.heap.size wo w5 := hbr.trans (hb5.mono (by omega))
            obtain ⟨q0, q1⟩ := keep2 (o := 0) hb5 hWlt p0 p1
            clear p0 p1
            have htx : text.length ≤ 1048576 := by
              have := textOk_len10 (getAt_text Ho2.out Hr.out.symm)
              omega
            go_wp2_with fail
            refine Calls.mono (slices_Equal_any A5 A3 text.length c5 x.text.length c3 text x.text w5 _ _ lo hi hf5.rep (r3.keep hbr5 hhi)) ?_
            rintro e w6 ⟨rfl, m6, hm6⟩
            have hb6 : Below w5.heap.size w5 w6 := by rw [hm6]; exact below_drewN (Below.refl _ _) _
            have hf6 : Fresh w6 W.heap.size w5.heap.size (encText text) (.slice A5 text.length c5) := hf5.keep hb6 (Nat.le_refl _)
            have hs6 := hb6.size
            have hbr6 : Below wo.heap.size wo w6 := hbr5.trans (hb6.mono (by omega))
            have s0 := (hb6.cell (p := ⟨wo.heap.size, 0, none⟩) (Nat.lt_of_lt_of_le hWlt hs5)).trans q0
            have s1 := (hb6.cell (p := ⟨wo.heap.size, 1, none⟩) (Nat.lt_of_lt_of_le hWlt hs5)).trans q1
            clear q0 q1 hm6 hb5 hb6 hf5
            by_cases he : text = x.text
            · have hst : stepA xs ys done x = done := by unfold stepA; rw [← Hr.out]; simp [he]
              have Hst := Lib.hid hst
              rw [show decide (text = x.text) = true by simp [he]]
              clear he hst
              go_wp2
              go_roundw
              case rel => exact ⟨k + 1, done, tgl, A', At, _, _, _, _, by omega, rfl, rfl, by go_num, Lib.hid (by rw [Hnx.out, Hst.out]), htg, hF.on hbr6, hb.trans (hbr6.mono hsz)⟩
              case measure => first | (simp [intOf]; done) | (simp [intOf]; omega)
            · have hst : stepA xs ys done x = done ++ [⟨3, x.path, [], [], diffOf x.text text⟩] := by unfold stepA; rw [← Hr.out]; simp [he]
              have Hst := Lib.hid hst
              rw [show decide (text = x.text) = false by simp [he]]
              clear he hst
              go_wp2
              have r3d := r3.keep hbr6 hhi
              go_region_held3 (fun w' => w'.cell? ⟨wo.heap.size, 0, none⟩ = some (.string ⟨x.path.toArray⟩) ∧ w'.cell? ⟨wo.heap.size, 1, none⟩ = some (.slice A3 x.text.length c3)) ((first | (with_reducible trivial) | (with_reducible exact ⟨s0, s1⟩) | (with_reducible exact ⟨cw0, cw1⟩) | (with_reducible exact ⟨cy0, cy1⟩) | go_keep)) (first
                | (go_at_call 25; refine (impl_diff_any A3 A5 x.text.length c3 text.length c5 x.text text _ lo hi _ _ (show Rep w6.drew lo hi _ (.slice A3 x.text.length c3) from r3d.drewN 1) (show Rep w6.drew W.heap.size w5.heap.size _ (.slice A5 text.length c5) from hf6.rep.drewN 1) (show hi ≤ w6.heap.size from Nat.le_trans hhi hbr6.size) (show w5.heap.size ≤ w6.heap.size from hs6) hxt htx).mono ?_
                   rintro e w7 ⟨A7, n7, c7, rfl, hb7, hf7⟩
                   have cw0 : w7.cell? ⟨wo.heap.size, 0, none⟩ = some (.string ⟨x.path.toArray⟩) := (hb7.cell (p := ⟨wo.heap.size, 0, none⟩) (show wo.heap.size < w6.heap.size from by omega)).trans s0
                   have cw1 : w7.cell? ⟨wo.heap.size, 1, none⟩ = some (.slice A3 x.text.length c3) := (hb7.cell (p := ⟨wo.heap.size, 1, none⟩) (show wo.heap.size < w6.heap.size from by omega)).trans s1)
                | (
                   have hb7' : Below w6.heap.size w6 w7 := ⟨hb7.os, hb7.tape, hb7.output, hb7.size, hb7.block⟩
                   have hs7 := hb7'.size
                   refine step_push (by rfl) (.tmp 101) (.tmp 109) _ (by rfl) w2.heap.size 51 ih _ 5 88 Tryd.underlying24 gi0 gi1 gi2 gi3 (by rfl) (by omega) wo w7 _ _ _ A' done.length c' hF hsz (hbr6.trans (hb7'.mono (by omega))) [.int .i64 3, .string ⟨x.path.toArray⟩, .string ⟨#[]⟩, .slice none 0 0, .slice A7 n7 c7] (cChanges ⟨3, x.path, [], [], diffOf x.text text⟩) (FreshL.mono (FreshL.editC 3 x.path [] (show Fresh w7 w6.heap.size w7.heap.size _ _ from hf7) hs7) (by omega) (Nat.le_refl _)) rfl (by rfl) (by rfl) _ 1 (by rfl) (by rfl) (by intro u hu; simp at hu; rcases hu with rfl | rfl | rfl | rfl | rfl <;> rfl) (by unfold maxLen; omega) (by omega) ?_
                   intro A8 c8 w8 hF8 hB8 hsm8 hlt8
                   have cy0 : w8.cell? ⟨wo.heap.size, 0, none⟩ = some (.string ⟨x.path.toArray⟩) := (hsm8.cell (a := ⟨wo.heap.size, 0, none⟩) (Nat.le_refl _) (show wo.heap.size < w7.heap.size from by omega)).trans cw0
                   have cy1 : w8.cell? ⟨wo.heap.size, 1, none⟩ = some (.slice A3 x.text.length c3) := (hsm8.cell (a := ⟨wo.heap.size, 1, none⟩) (Nat.le_refl _) (show wo.heap.size < w7.heap.size from by omega)).trans cw1))
              rw [Changes.snoc] at hF8
              have Hf8 := Lib.hid hF8
              clear hF8 hsm8 hf7 hb7 cw0 cw1 cy0 cy1
              go_wp2
              go_roundw
              case rel => exact ⟨k + 1, _, tgl, _, At, _, _, _, _, by omega, rfl, rfl, by go_num, Lib.hid (by rw [Hnx.out, Hst.out]), Lib.hid (by rw [tgOf_append, if_neg (by simp), htg.out]), Hf8.out, hb.trans hB8⟩
              case measure => first | (simp [intOf]; done) | (simp [intOf]; omega)
          | none =>
            simp only [Option.isSome_none, Option.getD_none] at hget
            have Hr := Lib.hid hr
            clear hr
            refine Calls.mono hget ?_
            rintro e w5 ⟨A5, n5, c5, rfl, hb5, hf5⟩
            clear hget hf5
            have hs5 := hb5.size
            have hbr5 : Below wo.heap.size wo w5 := hbr.trans (hb5.mono (by omega))
            obtain ⟨q0, q1⟩ := keep2 (o := 0) hb5 hWlt p0 p1
            have hlt5 : wo.heap.size < w5.heap.size := by omega
            have Q0 := Lib.hid q0
            have Q1 := Lib.hid q1
            clear p0 p1 hb5
            go_upto_region 9 with fail
            go_cut [11] (fun s11 wx => ∃ (g : Nat) (Ac : Option Addr) (cc : Nat), s11 = .pointer (some ⟨g, 0, none⟩) ∧ ∃ F, BoxC w5 wx g ⟨2, x.path, [], x.text, []⟩ Ac cc none 0 F)
            case first =>
              go_region_held3 (fun w' => w'.cell? ⟨wo.heap.size, 0, none⟩ = some (.string ⟨x.path.toArray⟩) ∧ w'.cell? ⟨wo.heap.size, 1, none⟩ = some (.slice A3 x.text.length c3)) ((first | (with_reducible trivial) | (with_reducible exact ⟨Q0.out, Q1.out⟩) | (with_reducible exact keep2 (o := 0) (by (repeat' (first | with_reducible exact Below.refl _ _ | with_reducible assumption | (with_reducible refine Below.setCell ?_ ?_ _) | (with_reducible refine Below.alloc ?_ ?_ _) | (with_reducible refine below_drewN ?_ _) | (with_reducible refine Below.drew ?_) | omega | (simp; done) | (simp; omega)))) hlt5 Q0.out Q1.out) | (with_reducible exact keep2 (o := 0) (Below.trans hb75 (by (repeat' (first | with_reducible exact Below.refl _ _ | with_reducible assumption | (with_reducible refine Below.setCell ?_ ?_ _) | (with_reducible refine Below.alloc ?_ ?_ _) | (with_reducible refine below_drewN ?_ _) | (with_reducible refine Below.drew ?_) | omega | (simp; done) | (simp; omega))))) hlt5 Q0.out Q1.out) | go_keep)) (first
                | (go_at_call 26; refine (impl_copyText_any A3 x.text.length c3 x.text _ lo hi (r3.keep (B := wo.heap.size) (by (repeat' (first | with_reducible exact Below.refl _ _ | with_reducible assumption | (with_reducible refine Below.setCell ?_ ?_ _) | (with_reducible refine Below.alloc ?_ ?_ _) | (with_reducible refine below_drewN ?_ _) | (with_reducible refine Below.drew ?_) | omega | (simp; done) | (simp; omega)))) hhi) (by first | (show hi ≤ w5.heap.size; omega) | (simp; omega)) hxt).mono ?_
                   rintro e w7 ⟨A7, n7, c7, rfl, hb7, hf7⟩
                   have hz7 := hb7.size
                   try simp at hz7
                   have hb75 : Below w5.heap.size w5 w7 := Below.trans (by (repeat' (first | with_reducible exact Below.refl _ _ | with_reducible assumption | (with_reducible refine Below.setCell ?_ ?_ _) | (with_reducible refine Below.alloc ?_ ?_ _) | (with_reducible refine below_drewN ?_ _) | (with_reducible refine Below.drew ?_) | omega | (simp; done) | (simp; omega)))) (hb7.mono (by first | omega | (simp; done) | (simp; omega)))
                   first
                   | (have H7 : w7.heap[w5.heap.size]? = some (Obj.cells #[Value.int IntKind.i64 0, Value.string ⟨#[]⟩, Value.string ⟨#[]⟩, Value.slice none 0 0, Value.slice none 0 0] 51) := (hb7.block _ (by simp)).trans (hl_drew (hl_new _ _ _ rfl))
                      obtain ⟨ch0, ch1, ch2, ch3, ch4, fh0, fh1, fh2, fh3, fh4⟩ := box5_cells H7)
                   | skip))
              all_goals
                go_wp2_with fail
                go_meet
                refine ⟨_, A7, c7, rfl, boxC_fresh (wo := w5) rfl hf7 ?_ ?_ ?_ ?_ ?_ ?_ ?_ ?_⟩
                · first | (simp; done) | (simp; omega) | exact Nat.le_refl _
                · first | (left; simp; done) | (right; exact Nat.le_refl _)
                · intro q hq hqh
                  first
                  | (with_reducible exact Below.heap_alloc _ _ q hq)
                  | (with_reducible exact (Below.heap_setCell _ _ _ q hqh).trans ((Below.heap_setCell _ _ _ q hqh).trans ((Below.heap_setCell _ _ _ q hqh).trans ((Below.heap_setCell _ _ _ q hqh).trans (Below.heap_setCell _ _ _ q hqh)))))
                · first | omega | (simp; done) | (simp; omega)
                · first | omega | (simp; done) | (simp; omega)
                · first | omega | (simp; done) | (simp; omega)
                · exact (by (repeat' (first | with_reducible exact Below.refl _ _ | with_reducible assumption | (with_reducible refine Below.setCell ?_ ?_ _) | (with_reducible refine Below.alloc ?_ ?_ _) | (with_reducible refine below_drewN ?_ _) | (with_reducible refine Below.drew ?_) | omega | (simp; done) | (simp; omega))))
                · first | (with_reducible exact set5 H7) | (with_reducible exact hl_new _ _ _ rfl)
            case rest =>
              obtain ⟨g, Ac, cc, rfl, F, B⟩ := hcut
              obtain ⟨W2, hW2⟩ : ∃ W2 : World, W2 = wc := ⟨_, rfl⟩
              rw [← hW2] at B ⊢
              clear hW2 q0 q1
              have hsB := B.below.size
              go_wp2
              go_loopw [6, 49] (fun tg j wq => ∃ l : Nat, l ≤ ys.length ∧ tg = .slice At tgl.length ct ∧ j = .int .i64 l ∧ Hid (tgt xs ys x.text tgl = ((ys.drop l).find? (tgtOk xs x.text tgl)).map (·.path)) ∧ Below W2.heap.size W2 wq) (fun _ j _ => ys.length - (intOf j).toNat)
              case atStart => exact ⟨0, Nat.zero_le _, rfl, rfl, Lib.hid (by rw [List.drop_zero]; rfl), Below.refl _ _⟩
              case round =>
                obtain ⟨l, hl, rfl, rfl, hfd, hbq⟩ := hrel
                obtain ⟨wq, rfl⟩ : ∃ wq : World, wq = wr := ⟨_, rfl⟩
                have hsq := hbq.size
                have hB2 := B.below.trans (hbq.mono hsB)
                have hbq0 : Below wo.heap.size wo wq := hbr5.trans (hB2.mono (by omega))
                obtain ⟨s0, s1⟩ := keep2 (o := 0) hB2 hlt5 Q0.out Q1.out
                have Bq := B.keep hbq
                by_cases hln : l < ys.length
                · have hln' : (l : Int) < (ys.length : Int) := by omega
                  obtain ⟨b2, o2, y, rfl, _, hb2hi, hyl, A4, n4, c4, e0, e1, r4⟩ := Files.at ((h2w.keep hb (by omega)).keep hbq0 hhi') hln
                  have hn4 := Text.n r4
                  subst hn4
                  have Hno := Lib.hid (fun h9 => find_no (p := tgtOk xs x.text tgl) hyl h9)
                  have Hyes := Lib.hid (fun h9 => find_yes (p := tgtOk xs x.text tgl) hyl h9)
                  clear hyl
                  go_wp2_with fail
                  obtain ⟨V, hV⟩ : ∃ V : World, V = wq.alloc (.cells #[.string ⟨y.path.toArray⟩, .slice A4 y.text.length c4] 43) := ⟨_, rfl⟩
                  rw [← hV]
                  have hbV : Below wq.heap.size wq V := by rw [hV]; exact (Below.refl _ _).alloc (Nat.le_refl _) _
                  have hVlt : wq.heap.size < V.heap.size := by rw [hV]; simp
                  have p0 : V.cell? ⟨wq.heap.size, 0, none⟩ = some (.string ⟨y.path.toArray⟩) := by rw [hV]; simp [go_sem]
                  have p1 : V.cell? ⟨wq.heap.size, 1, none⟩ = some (.slice A4 y.text.length c4) := by rw [hV]; simp [go_sem]
                  clear hV e0 e1
                  have hoq := hbq0.size
                  obtain ⟨kn, hkn9⟩ : ∃ kn, kn = hasP xs y.path := ⟨_, rfl⟩
                  have hget2 : Calls Tryd.prog 23 #[.slice (some ⟨b1, o1, none⟩) xs.length c1, .string ⟨y.path.toArray⟩] V fun e w' => ∃ A n c, e = .returned (.tuple #[.slice A n c, .bool kn]) ∧ Below V.heap.size V w' :=
                    (impl_get_any (some ⟨b1, o1, none⟩) xs.length c1 xs y.path V lo hi (((h1w.keep hb (by omega)).keep hbq0 hhi).keep hbV (by omega)) (by omega) Hsx.out).mono fun e w' h9 => by
                      obtain ⟨A9, n9, c9, e9, hb9, _⟩ := h9
                      exact ⟨A9, n9, c9, by rw [hkn9]; exact e9, hb9⟩
                  have Hkn := Lib.hid hkn9
                  clear hkn9
                  refine Calls.mono hget2 ?_
                  rintro e w6 ⟨A6, n6, c6, rfl, hb6⟩
                  clear hget2
                  have hs6 := hb6.size
                  have hbq6 : Below wq.heap.size wq w6 := hbV.trans (hb6.mono (by omega))
                  obtain ⟨t0, t1⟩ := keep2 (o := 0) hb6 hVlt p0 p1
                  obtain ⟨s0', s1'⟩ := keep2 (o := 0) hbq6 (by omega) s0 s1
                  clear p0 p1 s0 s1 hb6 hbV
                  cases kn with
                  | true =>
                    go_wp2
                    go_roundw
                    case rel => exact ⟨l + 1, by omega, rfl, by go_num, Lib.hid (by rw [hfd.out, Hno.out (by unfold tgtOk; rw [← Hkn.out]; rfl)]), hbq.trans (hbq6.mono hsq)⟩
                    case measure => first | (simp [intOf]; done) | (simp [intOf]; omega)
                  | false =>
                    go_wp2_with fail
                    refine Calls.mono (slices_Equal_any A4 A3 y.text.length c4 x.text.length c3 y.text x.text w6 lo' hi' lo hi ((r4.keep hbq6 (by omega))) ((r3.keep hbq0 hhi).keep hbq6 (by omega))) ?_
                    rintro e w7 ⟨rfl, m7, hm7⟩
                    have hb7 : Below w6.heap.size w6 w7 := by rw [hm7]; exact below_drewN (Below.refl _ _) _
                    have hs7 := hb7.size
                    have hbq7 : Below wq.heap.size wq w7 := hbq6.trans (hb7.mono (by omega))
                    obtain ⟨t0', t1'⟩ := keep2 (o := 0) hb7 (by omega) t0 t1
                    obtain ⟨s0, s1⟩ := keep2 (o := 0) hb7 (by omega) s0' s1'
                    clear t0 t1 s0' s1' hm7 hb7 hbq6
                    by_cases he : y.text = x.text
                    · rw [show decide (y.text = x.text) = true by simp [he]]
                      have He := Lib.hid he
                      clear he
                      obtain ⟨ct9, hct⟩ : ∃ b, b = tgl.contains y.path := ⟨_, rfl⟩
                      have hcon := slices_Contains_any At tgl.length ct tgl y.path w7 w2.heap.size w7.heap.size ((hF.swap.fst.rep.keep (hbq0.trans (hbq7.mono hoq)) (Nat.le_refl _)).mono (Nat.le_refl _) (by omega))
                      rw [← hct] at hcon
                      have Hct := Lib.hid hct
                      clear hct
                      go_wp2_with fail
                      refine Calls.mono hcon ?_
                      rintro e w8 ⟨rfl, rfl⟩
                      clear hcon
                      cases ct9 with
                      | true =>
                        go_wp2
                        go_roundw
                        case rel => exact ⟨l + 1, by omega, rfl, by go_num, Lib.hid (by rw [hfd.out, Hno.out (by unfold tgtOk; rw [← Hct.out]; simp)]), hbq.trans (hbq7.mono hsq)⟩
                        case measure => first | (simp [intOf]; done) | (simp [intOf]; omega)
                      | false =>
                        have hfound : tgt xs ys x.text tgl = some y.path := by rw [hfd.out, Hyes.out (by unfold tgtOk; rw [← Hkn.out, ← Hct.out]; simp [He.out])]; rfl
                        have hst : stepA xs ys done x = done ++ [⟨4, x.path, y.path, [], []⟩] := by
                          unfold stepA
                          rw [← Hr.out, ← htg.out, hfound]
                        have Hst := Lib.hid hst
                        clear hfound hst
                        have B7 := Bq.keep hbq7
                        have k0 : w7.cell? ⟨g, 0, none⟩ = some (.int .i64 2) := B7.k0
                        have k1 : w7.cell? ⟨g, 1, none⟩ = some (.string ⟨x.path.toArray⟩) := B7.k1
                        have k2 : w7.cell? ⟨g, 2, none⟩ = some (.string ⟨#[]⟩) := B7.k2
                        have k3 : w7.cell? ⟨g, 3, none⟩ = some (.slice Ac x.text.length cc) := B7.k3
                        have k4 : w7.cell? ⟨g, 4, none⟩ = some (.slice none 0 0) := B7.k4
                        have f0 : w7.frozen? ⟨g, 0, none⟩ = false := B7.z 0 (by omega)
                        have f1 : w7.frozen? ⟨g, 1, none⟩ = false := B7.z 1 (by omega)
                        have f2 : w7.frozen? ⟨g, 2, none⟩ = false := B7.z 2 (by omega)
                        have f3 : w7.frozen? ⟨g, 3, none⟩ = false := B7.z 3 (by omega)
                        have f4 : w7.frozen? ⟨g, 4, none⟩ = false := B7.z 4 (by omega)
                        have B8 := B7.move x.path y.path
                        obtain ⟨WF, hWF⟩ : ∃ WF : World, WF = ((((w7.setCell ⟨g, 0, none⟩ (.int .i64 4)).setCell ⟨g, 1, none⟩ (.string ⟨x.path.toArray⟩)).setCell ⟨g, 2, none⟩ (.string ⟨y.path.toArray⟩)).setCell ⟨g, 3, none⟩ (.slice none 0 0)).setCell ⟨g, 4, none⟩ (.slice none 0 0) := ⟨_, rfl⟩
                        rw [← hWF] at B8
                        have HFs := Lib.hid (show WF.heap.size = w7.heap.size by rw [hWF]; simp)
                        have hg0 := B8.lo
                        have hg1 := B8.hi
                        have hgw : g ≠ wo.heap.size := by omega
                        have hgq : g ≠ wq.heap.size := by have := Bq.hi; omega
                        have t0 : WF.cell? ⟨wq.heap.size, 0, none⟩ = some (.string ⟨y.path.toArray⟩) := by rw [hWF]; simp [go_sem, t0']
                        go_wp2_with (at_builtin; rw [← hWF]; clear hWF; go_loud (refine wpList_push rfl (.tmp 81) (.tmp 84) _ rfl w2.heap.size 9 is _ 1 16 Tryd.underlying39 si0 si1 si2 si3 rfl (by omega) wo WF _ _ _ At tgl.length ct hF.swap hsz (hbr5.trans (B8.below.mono (by omega))) [.string ⟨y.path.toArray⟩] [.str y.path] (FreshL.plain ⟨rfl, rfl⟩ (FreshL.nil _ _ _)) rfl rfl rfl _ 1 rfl ?ha (by intro u hu; simp at hu; subst hu; rfl) (by unfold maxLen; omega) (by omega) ?_))
                        case ha => exact HFs.out.symm
                        intro A8 c8 w8 hF8 hB8 hsm8 hlt8
                        have hF9 : FreshL w8 w2.heap.size w8.heap.size [encChanges done, encText (tgl ++ [y.path])] [.slice A' done.length c', .slice A8 (tgl.length + 1) c8] := by
                          rw [Text.snoc] at hF8
                          exact hF8.swap
                        have hc8 : ∀ j, w8.cell? ⟨g, j, none⟩ = WF.cell? ⟨g, j, none⟩ := fun j => hsm8.cell (a := ⟨g, j, none⟩) (show wo.heap.size ≤ g by omega) (show g < WF.heap.size from hg1)
                        have y0 : w8.cell? ⟨g, 0, none⟩ = some (.int .i64 4) := (hc8 0).trans B8.k0
                        have y1 : w8.cell? ⟨g, 1, none⟩ = some (.string ⟨x.path.toArray⟩) := (hc8 1).trans B8.k1
                        have y2 : w8.cell? ⟨g, 2, none⟩ = some (.string ⟨y.path.toArray⟩) := (hc8 2).trans B8.k2
                        have y3 : w8.cell? ⟨g, 3, none⟩ = some (.slice none 0 0) := (hc8 3).trans B8.k3
                        have y4 : w8.cell? ⟨g, 4, none⟩ = some (.slice none 0 0) := (hc8 4).trans B8.k4
                        have hs8 := hB8.size
                        clear hF8 hsm8 hc8 B8 B7 k0 k1 k2 k3 k4 f0 f1 f2 f3 f4 t0 t0' t1' s0 s1
                        go_wp2_with (at_builtin; go_loud (refine wpList_push rfl (.tmp 87) (.tmp 89) _ rfl w2.heap.size 51 ih _ 5 88 Tryd.underlying24 gi0 gi1 gi2 gi3 rfl (by omega) w8 w8 _ _ _ A' done.length c' hF9 (by omega) (Below.refl _ _) [.int .i64 4, .string ⟨x.path.toArray⟩, .string ⟨y.path.toArray⟩, .slice none 0 0, .slice none 0 0] (cChanges ⟨4, x.path, y.path, [], []⟩) (FreshL.bareC 4 x.path y.path (Nat.le_refl _)) rfl rfl rfl _ 1 rfl rfl (by intro u hu; simp at hu; rcases hu with rfl | rfl | rfl | rfl | rfl <;> rfl) (by unfold maxLen; omega) (by omega) ?_))
                        intro A9 c9 w9 hF10 hB9 hsm9 hlt9
                        rw [Changes.snoc] at hF10
                        have Hf10 := Lib.hid hF10
                        clear hF10 hsm9 hF9 y0 y1 y2 y3 y4
                        go_wp2
                        go_roundw
                        case rel => exact ⟨k + 1, _, _, _, _, _, _, _, _, by omega, rfl, rfl, by go_num, Lib.hid (by rw [Hnx.out, Hst.out]), Lib.hid (by rw [tgOf_append, if_pos rfl, htg.out]), Hf10.out, (hb.trans hB8).trans hB9⟩
                        case measure => first | (simp [intOf]; done) | (simp [intOf]; omega)
                    · rw [show decide (y.text = x.text) = false by simp [he]]
                      have He := Lib.hid he
                      clear he
                      go_wp2
                      go_roundw
                      case rel => exact ⟨l + 1, by omega, rfl, by go_num, Lib.hid (by rw [hfd.out, Hno.out (by unfold tgtOk; simp [He.out])]), hbq.trans (hbq7.mono hsq)⟩
                      case measure => first | (simp [intOf]; done) | (simp [intOf]; omega)
                · obtain rfl : l = ys.length := by omega
                  have hnone : tgt xs ys x.text tgl = none := by rw [hfd.out, List.drop_length]; rfl
                  have hst : stepA xs ys done x = done ++ [⟨2, x.path, [], x.text, []⟩] := by
                    unfold stepA
                    rw [← Hr.out, ← htg.out, hnone]
                  have Hst := Lib.hid hst
                  clear hnone hst
                  have k0 : wq.cell? ⟨g, 0, none⟩ = some (.int .i64 2) := Bq.k0
                  have k1 : wq.cell? ⟨g, 1, none⟩ = some (.string ⟨x.path.toArray⟩) := Bq.k1
                  have k2 : wq.cell? ⟨g, 2, none⟩ = some (.string ⟨#[]⟩) := Bq.k2
                  have k3 : wq.cell? ⟨g, 3, none⟩ = some (.slice Ac x.text.length cc) := Bq.k3
                  have k4 : wq.cell? ⟨g, 4, none⟩ = some (.slice none 0 0) := Bq.k4
                  go_wp2_with (at_builtin; go_loud (refine wpList_push rfl (.tmp 87) (.tmp 89) _ rfl w2.heap.size 51 ih _ 5 88 Tryd.underlying24 gi0 gi1 gi2 gi3 rfl (by omega) wo wq _ _ _ A' done.length c' hF hsz hbq0 [.int .i64 2, .string ⟨x.path.toArray⟩, .string ⟨#[]⟩, .slice Ac x.text.length cc, .slice none 0 0] (cChanges ⟨2, x.path, [], x.text, []⟩) (FreshL.mono Bq.fresh (by omega) (Nat.le_refl _)) rfl rfl rfl _ 1 rfl rfl (by intro u hu; simp at hu; rcases hu with rfl | rfl | rfl | rfl | rfl <;> rfl) (by unfold maxLen; omega) (by omega) ?_))
                  intro A9 c9 w9 hF10 hB9 hsm9 hlt9
                  rw [Changes.snoc] at hF10
                  have Hf10 := Lib.hid hF10
                  clear hF10 hsm9 k0 k1 k2 k3 k4 s0 s1
                  go_wp2
                  go_roundw
                  case rel => exact ⟨k + 1, _, tgl, _, At, _, _, _, _, by omega, rfl, rfl, by go_num, Lib.hid (by rw [Hnx.out, Hst.out]), Lib.hid (by rw [tgOf_append, if_neg (by simp), htg.out]), Hf10.out, hb.trans hB9⟩
                  case measure => first | (simp [intOf]; done) | (simp [intOf]; omega)
        · obtain rfl : k = xs.length := by omega
          have hd2 : done = firstA xs ys := by have := hd.out; rwa [List.take_length] at this
          have Hd := Lib.hid hd2
          clear hd2 hd hkn hdl htl
          have hd8 : (firstA xs ys).length ≤ 8 := by have := len_takeA xs ys xs []; unfold firstA; simp at this; omega
          rw [← Hd.out] at hd8
          have ht8 : tgl.length ≤ 8 := by rw [htg.out]; unfold tgOf; rw [List.length_map]; exact Nat.le_trans (List.length_filter_le _ _) hd8
          go_wp2
          go_loopw [5, 114] (fun t i wr => ∃ (k : Nat) (out : List PChange) (A' : Option Addr) (n' c' : Nat), k ≤ ys.length ∧ t = .slice A' n' c' ∧ i = .int .i64 k ∧ Hid (out = (ys.take k).foldl (stepB xs tgl) done) ∧
            FreshL wr w2.heap.size wr.heap.size [encChanges out, encText tgl] [.slice A' n' c', .slice At tgl.length ct] ∧ Below w2.heap.size w2 wr) (fun _ i _ => ys.length - (intOf i).toNat)
          case atStart => exact ⟨0, done, A', done.length, c', Nat.zero_le _, rfl, rfl, Lib.hid (by simp), hF, hb⟩
          case round =>
            clear hF hb hsz
            obtain ⟨k, out, A', n', c', hk, rfl, rfl, hd, hF, hb⟩ := hrel
            have hsz := hb.size
            have hnd := Changes.n hF.fst.rep
            subst hnd
            have hdl : out.length ≤ 8 + k := by have := len_takeB xs tgl (ys.take k) done; rw [← hd.out, List.length_take] at this; omega
            obtain ⟨wo, rfl⟩ : ∃ wo : World, wo = wr := ⟨_, rfl⟩
            by_cases hkn : k < ys.length
            · have hkn' : (k : Int) < (ys.length : Int) := by omega
              obtain ⟨b1, o1, x, rfl, _, hbhi, hxk, A3, n3, c3, d0, d1, r3⟩ := Files.at (h2w.keep hb (Nat.le_trans hh2 hsw)) hkn
              have hn3 := Text.n r3
              subst hn3
              have hxt : x.text.length ≤ 1048576 := Hsy.out.2 x (List.mem_of_getElem? hxk)
              have Hnx := Lib.hid (show (ys.take (k + 1)).foldl (stepB xs tgl) done = stepB xs tgl out x by rw [foldl_next _ _ hxk, ← hd.out])
              have hhi : hi ≤ wo.heap.size := by omega
              have hhi' : hi' ≤ wo.heap.size := by omega
              clear hxk
              go_wp2_with fail
              obtain ⟨W, hW⟩ : ∃ W : World, W = wo.alloc (.cells #[.string ⟨x.path.toArray⟩, .slice A3 x.text.length c3] 43) := ⟨_, rfl⟩
              rw [← hW]
              have hbr : Below wo.heap.size wo W := by rw [hW]; exact (Below.refl _ _).alloc (Nat.le_refl _) _
              have hWlt : wo.heap.size < W.heap.size := by rw [hW]; simp
              have p0 : W.cell? ⟨wo.heap.size, 0, none⟩ = some (.string ⟨x.path.toArray⟩) := by rw [hW]; simp [go_sem]
              have p1 : W.cell? ⟨wo.heap.size, 1, none⟩ = some (.slice A3 x.text.length c3) := by rw [hW]; simp [go_sem]
              clear hW d0 d1
              obtain ⟨kn, hkn9⟩ : ∃ kn, kn = hasP xs x.path := ⟨_, rfl⟩
              have hget2 : Calls Tryd.prog 23 #[.slice A1 xs.length c1, .string ⟨x.path.toArray⟩] W fun e w' => ∃ A n c, e = .returned (.tuple #[.slice A n c, .bool kn]) ∧ Below W.heap.size W w' :=
                (impl_get_any A1 xs.length c1 xs x.path W lo hi ((h1w.keep hb (by omega)).keep hbr hhi) (by omega) Hsx.out).mono fun e w' h9 => by
                  obtain ⟨A9, n9, c9, e9, hb9, _⟩ := h9
                  exact ⟨A9, n9, c9, by rw [hkn9]; exact e9, hb9⟩
              have Hkn := Lib.hid hkn9
              clear hkn9
              refine Calls.mono hget2 ?_
              rintro e w5 ⟨A5, n5, c5, rfl, hb5⟩
              clear hget2
              have hs5 := hb5.size
              have hbr5 : Below wo.heap.size wo w5 := hbr.trans (hb5.mono (by omega))
              obtain ⟨s0, s1⟩ := keep2 (o := 0) hb5 hWlt p0 p1
              clear p0 p1 hb5
              cases kn with
              | true =>
                go_wp2
                go_roundw
                case rel => exact ⟨k + 1, out, A', _, _, by omega, rfl, by go_num, Lib.hid (by rw [Hnx.out]; unfold stepB; rw [← Hkn.out]; rfl), hF.on hbr5, hb.trans (hbr5.mono hsz)⟩
                case measure => first | (simp [intOf]; done) | (simp [intOf]; omega)
              | false =>
                obtain ⟨ct9, hct⟩ : ∃ b, b = tgl.contains x.path := ⟨_, rfl⟩
                have hcon := slices_Contains_any At tgl.length ct tgl x.path w5 w2.heap.size wo.heap.size (hF.swap.fst.rep.keep hbr5 (Nat.le_refl _))
                rw [← hct] at hcon
                have Hct := Lib.hid hct
                clear hct
                go_wp2_with fail
                refine Calls.mono hcon ?_
                rintro e w8 ⟨rfl, rfl⟩
                clear hcon
                cases ct9 with
                | true =>
                  go_wp2
                  go_roundw
                  case rel => exact ⟨k + 1, out, A', _, _, by omega, rfl, by go_num, Lib.hid (by rw [Hnx.out]; unfold stepB; rw [← Hct.out]; simp), hF.on hbr5, hb.trans (hbr5.mono hsz)⟩
                  case measure => first | (simp [intOf]; done) | (simp [intOf]; omega)
                | false =>
                  have r3d := r3.keep hbr5 hhi'
                  go_wp2
                  go_region_held3 (fun w' => w'.cell? ⟨wo.heap.size, 0, none⟩ = some (.string ⟨x.path.toArray⟩) ∧ w'.cell? ⟨wo.heap.size, 1, none⟩ = some (.slice A3 x.text.length c3)) ((first | (with_reducible trivial) | (with_reducible exact ⟨s0, s1⟩) | (with_reducible exact ⟨cw0, cw1⟩) | (with_reducible exact ⟨cy0, cy1⟩) | go_keep)) (first
                    | (go_at_call 26; refine (impl_copyText_any A3 x.text.length c3 x.text _ lo' hi' (show Rep w5.drew lo' hi' _ (.slice A3 x.text.length c3) from r3d.drewN 1) (show hi' ≤ w5.heap.size from Nat.le_trans hhi' hbr5.size) hxt).mono ?_
                       rintro e w7 ⟨A7, n7, c7, rfl, hb7, hf7⟩
                       have cw0 : w7.cell? ⟨wo.heap.size, 0, none⟩ = some (.string ⟨x.path.toArray⟩) := (hb7.cell (p := ⟨wo.heap.size, 0, none⟩) (show wo.heap.size < w5.heap.size from by omega)).trans s0
                       have cw1 : w7.cell? ⟨wo.heap.size, 1, none⟩ = some (.slice A3 x.text.length c3) := (hb7.cell (p := ⟨wo.heap.size, 1, none⟩) (show wo.heap.size < w5.heap.size from by omega)).trans s1)
                    | (
                       have hb7' : Below w5.heap.size w5 w7 := ⟨hb7.os, hb7.tape, hb7.output, hb7.size, hb7.block⟩
                       have hs7 := hb7'.size
                       refine step_push (by rfl) (.tmp 134) (.tmp 141) _ (by rfl) w2.heap.size 51 ih _ 5 88 Tryd.underlying24 gi0 gi1 gi2 gi3 (by rfl) (by omega) wo w7 _ _ _ A' out.length c' hF hsz (hbr5.trans (hb7'.mono (by omega))) [.int .i64 1, .string ⟨x.path.toArray⟩, .string ⟨#[]⟩, .slice A7 n7 c7, .slice none 0 0] (cChanges ⟨1, x.path, [], x.text, []⟩) (FreshL.mono (FreshL.textC 1 x.path [] (show Fresh w7 w5.heap.size w7.heap.size _ _ from hf7) hs7) (by omega) (Nat.le_refl _)) rfl (by rfl) (by rfl) _ 1 (by rfl) (by rfl) (by intro u hu; simp at hu; rcases hu with rfl | rfl | rfl | rfl | rfl <;> rfl) (by unfold maxLen; omega) (by omega) ?_
                       intro A8 c8 w8 hF8 hB8 hsm8 hlt8
                       have cy0 : w8.cell? ⟨wo.heap.size, 0, none⟩ = some (.string ⟨x.path.toArray⟩) := (hsm8.cell (a := ⟨wo.heap.size, 0, none⟩) (Nat.le_refl _) (show wo.heap.size < w7.heap.size from by omega)).trans cw0
                       have cy1 : w8.cell? ⟨wo.heap.size, 1, none⟩ = some (.slice A3 x.text.length c3) := (hsm8.cell (a := ⟨wo.heap.size, 1, none⟩) (Nat.le_refl _) (show wo.heap.size < w7.heap.size from by omega)).trans cw1))
                  rw [Changes.snoc] at hF8
                  have Hf8 := Lib.hid hF8
                  clear hF8 hsm8 hf7 hb7 cw0 cw1 cy0 cy1
                  go_wp2
                  go_roundw
                  case rel => exact ⟨k + 1, _, _, _, _, by omega, rfl, by go_num, Lib.hid (by rw [Hnx.out]; unfold stepB; rw [← Hkn.out, ← Hct.out]; simp), Hf8.out, hb.trans hB8⟩
                  case measure => first | (simp [intOf]; done) | (simp [intOf]; omega)
            · obtain rfl : k = ys.length := by omega
              have hfin : out = P := by
                have := hd.out
                rw [List.take_length] at this
                rw [this, Hp.out, htg.out, Hd.out]
              have Hfin := Lib.hid hfin
              clear hfin
              go_wp2
              go_ret
              refine ⟨_, _, _, rfl, hbw.trans (hb.mono hsw), ?_⟩
              rw [← Hfin.out]
              exact hF.fst.mono hsw (Nat.le_refl _)
end Go.Proofs.YtianpeokdojkbaaDoor
