/- Walk: the merge of three texts: the reference's. -/
import Derived.Test.YtfigfpoklppkgaaSpecPut
import Derived.Test.YtfigfpoklppkgaaMatch
import Derived.Test.YtfigfpoklppkgaaMerge
import Derived.Deep.RegionHeld3
namespace Go.Proofs.Ytfigfpoklppkgaa
open Go.RowKit

theorem putPart_of (out : List PPart) (old one two : List Str) : putPart out (partOf old one two) = putPiece out old one two := by
  unfold partOf putPiece putPart
  split
  · rfl
  split
  · rfl
  · rfl
theorem putPart_new (out : List PPart) (ls : List Str) : putPart out (newPart ls) = putLines out ls := rfl
theorem partOf_new (old one two : List Str) (h : (partOf old one two).clash = false) : partOf old one two = newPart (partOf old one two).lines := by
  unfold partOf at *
  split
  · rfl
  split
  · rfl
  · rename_i h1 h2
    rw [if_neg h1, if_neg h2] at h
    cases h
theorem partOf_lines {old one two : List Str} {m : Nat} (h1 : one.length ≤ m) (h2 : two.length ≤ m) : (partOf old one two).lines.length ≤ m := by
  unfold partOf
  split
  · exact h2
  split
  · exact h1
  · simp [clashPart]
theorem piece_one {t : List Str} {i : Nat} {x : Str} (h : t[i]? = some x) : piece t i (i + 1) = [x] := by
  unfold piece
  rw [drop_cons h, show i + 1 - i = 1 by omega]
  rfl
/-- A part of one line, laid in a new block. -/
theorem owns_line (w : World) (x : Str) (v : Value) (hv : v = .slice (some ⟨w.heap.size, 0, none⟩) 1 1) : Owns (w.alloc (.cells #[.string ⟨x.toArray⟩] 9)) (cParts (newPart [x])) [.bool false, v, .slice none 0 0, .slice none 0 0, .slice none 0 0] [w.heap.size] := by
  subst hv
  have e0 : ∀ w' : World, Own w' (encText []) (.slice none 0 0) [] := fun w' => ⟨0, [], [], World.ownsRow_nil w' 0 _ _, rfl, rfl, rfl⟩
  have e1 : Own (w.alloc (.cells #[.string ⟨x.toArray⟩] 9)) (encText [x]) (.slice (some ⟨w.heap.size, 0, none⟩) 1 1) [w.heap.size] :=
    ⟨1, [.string ⟨x.toArray⟩], [], ⟨rfl, .inr ⟨w.heap.size, 1, #[.string ⟨x.toArray⟩], rfl, Nat.zero_le _, heap_new' _ _, Nat.le_refl _, by unfold maxLen; omega, rfl, rfl⟩⟩, rfl, ⟨_, [], [], [], rfl, rfl, ⟨rfl, rfl⟩, rfl, rfl⟩⟩
  exact ⟨_, _, [], [w.heap.size], rfl, rfl, ⟨rfl, rfl⟩, _, _, [w.heap.size], [], rfl, rfl, e1, _, _, [], [], rfl, rfl, e0 _, _, _, [], [], rfl, rfl, e0 _, _, _, [], [], rfl, rfl, e0 _, rfl, rfl⟩

set_option maxRecDepth 100000 in
set_option maxHeartbeats 6400000 in
theorem spec_l3Of_any (A1 A2 A3 : Option Addr) (n1 c1 n2 c2 n3 c3 : Nat) (xs ys zs : List Str) (w : World) (h1 : Rep w 0 w.heap.size (encText xs) (.slice A1 n1 c1)) (h2 : Rep w 0 w.heap.size (encText ys) (.slice A2 n2 c2)) (h3 : Rep w 0 w.heap.size (encText zs) (.slice A3 n3 c3))
    (hx : xs.length ≤ 10) (hy : ys.length ≤ 10) (hz : zs.length ≤ 10) :
    Calls Try.prog 15 #[.slice A1 n1 c1, .slice A2 n2 c2, .slice A3 n3 c3] w fun e w' => ∃ A n c, e = .returned (.slice A n c) ∧ Below w.heap.size w w' ∧ Fresh w' w.heap.size w'.heap.size (encParts (mergeOf xs ys zs)) (.slice A n c) := by
  have hl1 := Text.n h1
  have hl2 := Text.n h2
  have hl3 := Text.n h3
  obtain ⟨hc1, hm1⟩ := Text.cap h1
  obtain ⟨hc2, hm2⟩ := Text.cap h2
  obtain ⟨hc3, hm3⟩ := Text.cap h3
  subst hl1 hl2 hl3
  obtain ⟨i, hi0, hi1, hi2, hi3⟩ := info_parts Try.infoInt
  have hb0 : Below w.heap.size w (w.alloc (.cells #[] 31)) := (Below.refl _ _).alloc (Nat.le_refl _) _
  have hz0 : w.heap.size + 1 ≤ (w.alloc (.cells #[] 31)).heap.size := by simp
  have hmade := World.ownsRow_made w #[] (e := 31) (size := 5) (base := 0) 0 (Nat.zero_le _) (Nat.zero_le _) rfl
  go_enter Try.func15, Try.ntmps15
  go_wp2_with fail
  refine Calls.mono (spec_l1Match_any _ _ _ _ _ _ xs ys _ _ _ _ _ (h1.keep hb0 (Nat.le_refl _)) (h2.keep hb0 (Nat.le_refl _)) hb0.size hb0.size (by omega) (by omega)) ?_
  rintro e w1 ⟨Am, nm, cm, rfl, hb1, hf1⟩
  obtain ⟨hnm, hown1⟩ := hf1.ints
  rw [mtch_len] at hnm
  subst hnm
  have hs1 : w.heap.size + 1 ≤ w1.heap.size := Nat.le_trans hz0 hb1.size
  have hm1' := ownsRow_same (w' := w1) hmade (fun q hq => hb1.block q (by simp [Value.ownBlock] at hq; omega))
  have hbw1 : Below w.heap.size w w1 := hb0.trans (hb1.mono (by omega))
  have hown1' := ownsRow_at (base := w.heap.size + 1) (ownsRow_zero hown1) (fun g hg => by have := (hown1.lt g hg).1; omega)
  go_wp2_with (at_builtin; refine wpList_append_src _ rfl (.tmp 17) (.tmp 20) _ rfl (w.heap.size + 1) 3 i _ 1 8 Try.underlying36 hi0 hi1 hi2 hi3 rfl (by omega) _ xs.length _ rfl (hown1'.alloc _) _ 1 1 [.int .i64 (ys.length : Int)] rfl (Src.lit w1 3 [.int .i64 (ys.length : Int)] 1 1 rfl) ?e2 ?e3 ?e4 ?e5 ?_)
  case e2 => intro u hu; simp at hu; subst hu; rfl
  case e3 => unfold maxLen; omega
  case e4 => omega
  case e5 => simp; omega
  intro Ap cp w2 hown2 hg2 _
  have hb2 : Below (w.heap.size + 1) w1 w2 := ((Below.refl _ _).alloc hs1 _).grown hg2 (by simp; omega) (fun g hg => (hown1'.lt g hg).1)
  have hm2' : ((mtch xs ys 0).map fun s => (.int .i64 s : Value)) ++ [.int .i64 (ys.length : Int)] = (pairsOf xs ys).map fun s => .int .i64 s := by simp [pairsOf]
  rw [hm2'] at hown2
  have hRp : Rep w2 (w.heap.size + 1) w2.heap.size (encInts (pairsOf xs ys)) (.slice Ap (xs.length + 1) cp) := (Fresh.of_row hown2 (owns_ints _ _)).rep
  have hs2 : w.heap.size + 1 ≤ w2.heap.size := Nat.le_trans hs1 hb2.size
  have hm2 := ownsRow_same (w' := w2) hm1' (fun q hq => hb2.block q (by simp [Value.ownBlock] at hq; omega))
  have hbw2 : Below w.heap.size w w2 := hbw1.trans (hb2.mono (by omega))
  clear hown2 hm2' hown1 hown1' hf1 hg2 hb1 hb2 hm1' hbw1
  go_wp2_with fail
  refine Calls.mono (spec_l1Match_any _ _ _ _ _ _ xs zs w2 _ _ _ _ (h1.keep hbw2 (Nat.le_refl _)) (h3.keep hbw2 (Nat.le_refl _)) hbw2.size hbw2.size (by omega) (by omega)) ?_
  rintro e w3 ⟨Am, nm, cm, rfl, hb3, hf3⟩
  obtain ⟨hnm, hown3⟩ := hf3.ints
  rw [mtch_len] at hnm
  subst hnm
  have hs3 := hb3.size
  go_wp2_with (at_builtin; refine wpList_append_src _ rfl (.tmp 24) (.tmp 27) _ rfl w2.heap.size 3 i _ 1 8 Try.underlying36 hi0 hi1 hi2 hi3 rfl (by omega) _ xs.length _ rfl (hown3.alloc _) _ 1 1 [.int .i64 (zs.length : Int)] rfl (Src.lit w3 3 [.int .i64 (zs.length : Int)] 1 1 rfl) ?e2 ?e3 ?e4 ?e5 ?_)
  case e2 => intro u hu; simp at hu; subst hu; rfl
  case e3 => unfold maxLen; omega
  case e4 => omega
  case e5 => simp; omega
  intro Aq cq w4 hown4 hg4 _
  have hbA : Below w2.heap.size w2 (w3.alloc (Obj.cells #[.int .i64 (zs.length : Int)] 3)) := Below.alloc hb3 hs3 _
  have hb4 : Below w2.heap.size w2 w4 := hbA.grown hg4 (by simp; omega) (fun g hg => (hown3.lt g hg).1)
  have hm4' : ((mtch xs zs 0).map fun s => (.int .i64 s : Value)) ++ [.int .i64 (zs.length : Int)] = (pairsOf xs zs).map fun s => .int .i64 s := by simp [pairsOf]
  rw [hm4'] at hown4
  have hRq : Rep w4 w2.heap.size w4.heap.size (encInts (pairsOf xs zs)) (.slice Aq (xs.length + 1) cq) := (Fresh.of_row hown4 (owns_ints _ _)).rep
  have hs4 := hb4.size
  have hm4 := ownsRow_same (w' := w4) hm2 (fun q hq => hb4.block q (by simp [Value.ownBlock] at hq; omega))
  have hbw := hbw2.trans (hb4.mono (by omega))
  have R1 := h1.keep hbw (Nat.le_refl _)
  have R2 := h2.keep hbw (Nat.le_refl _)
  have R3 := h3.keep hbw (Nat.le_refl _)
  have Rp : Rep w4 (w.heap.size + 1) w4.heap.size _ _ := (hRp.keep hb4 (Nat.le_refl _)).mono (Nat.le_refl _) hs4
  have Rq : Rep w4 (w.heap.size + 1) w4.heap.size _ _ := hRq.mono hs2 (Nat.le_refl _)
  have hOw : Own w4 (encParts []) (.slice (some ⟨w.heap.size, 0, none⟩) 0 0) [w.heap.size] := ⟨0, [], [], hm4, rfl, rfl, rfl⟩
  have Hbw := Lib.hid hbw
  have hs04 : w.heap.size + 1 ≤ w4.heap.size := by omega
  clear hown4 hm4' hown3 hf3 hg4 hbA hb3 hbw2 hb4 hRp hRq hm4 hm2 hmade hb0 hz0 h1 h2 h3 hbw hs1 hs2 hs3 hs4
  have hpl := pairsOf_len xs ys
  have hql := pairsOf_len xs zs
  have hinc := pairsOf_inc xs ys
  have hjnc := pairsOf_inc xs zs
  obtain ⟨hcp, hmp⟩ := Ints.cap Rp
  obtain ⟨hcq, hmq⟩ := Ints.cap Rq
  obtain ⟨ps, eps⟩ : ∃ ps, ps = pairsOf xs ys := ⟨_, rfl⟩
  obtain ⟨qs, eqs⟩ : ∃ qs, qs = pairsOf xs zs := ⟨_, rfl⟩
  have hdf : mergeOf xs ys zs = mergeFrom xs ys zs ps qs 0 0 0 0 [] := by rw [eps, eqs]; rfl
  rw [← eps] at Rp hpl hinc
  rw [← eqs] at Rq hql hjnc
  have Hinc := Lib.hid hinc
  have Hjnc := Lib.hid hjnc
  have Hdf := Lib.hid hdf
  have Hpl := Lib.hid hpl
  have Hql := Lib.hid hql
  clear eps eqs hinc hjnc hdf hpl hql
  go_wp2
  go_loopw [7, 10, 11, 12, 13] (fun t fo fa fb ii wr => ∃ (k io ia ib : Nat) (done : List PPart) (F : List Nat) (A : Option Addr) (n c : Nat), k ≤ xs.length + 1 ∧ io ≤ k ∧ ia ≤ ys.length + 1 ∧ ib ≤ zs.length + 1 ∧ t = .slice A n c ∧ fo = .int .i64 io ∧ fa = .int .i64 ia ∧ fb = .int .i64 ib ∧ ii = .int .i64 k ∧
      Hid (Inc ia ys.length (ps.drop k)) ∧ Hid (Inc ib zs.length (qs.drop k)) ∧ Hid (mergeFrom xs ys zs (ps.drop k) (qs.drop k) k io ia ib done = mergeOf xs ys zs) ∧ Hid (fewParts k done) ∧ Own wr (encParts done) (.slice A n c) F ∧ F.Nodup ∧ (∀ q ∈ F, q = w.heap.size ∨ w4.heap.size ≤ q) ∧ Only [w.heap.size] w4 wr) (fun _ _ _ _ i _ => xs.length + 1 - (intOf i).toNat)
  case atStart => exact ⟨0, 0, 0, 0, [], [w.heap.size], _, _, _, by omega, by omega, by omega, by omega, rfl, rfl, rfl, rfl, rfl, Lib.hid (by simpa using Hinc.out), Lib.hid (by simpa using Hjnc.out), Lib.hid (by simpa using Hdf.out.symm), Lib.hid fewParts_nil, hOw, by simp, (fun q hq => by simp at hq; exact .inl hq), Only.refl _ _⟩
  case round =>
    clear hOw
    obtain ⟨k, io, ia, ib, done, F, A, n, c, hk, hio, hia, hib, rfl, rfl, rfl, rfl, rfl, hI, hJ, ht, hfew, hO, hN, hF, hon⟩ := hrel
    have hsr := hon.size
    have honS : Same (w.heap.size + 1) w4.heap.size w4 wr := hon.same (fun q hq => .inl (by simp at hq; omega)) (Nat.le_refl _)
    by_cases hkn : k < xs.length + 1
    · have hkn' : (k : Int) < (xs.length : Int) + 1 := by omega
      obtain ⟨b1, o1, j, rfl, hbg1, hbl1, hj, dj0⟩ := Ints.at Rp hkn
      obtain ⟨b2, o2, l, rfl, hbg2, hbl2, hl, dl0⟩ := Ints.at Rq hkn
      have dj : wr.cell? ⟨b1, o1 + k, none⟩ = some (.int .i64 j) := (honS.cell (a := ⟨b1, o1 + k, none⟩) hbg1 hbl1).trans dj0
      have dl : wr.cell? ⟨b2, o2 + k, none⟩ = some (.int .i64 l) := (honS.cell (a := ⟨b2, o2 + k, none⟩) hbg2 hbl2).trans dl0
      have hIj := hI.out
      have hJl := hJ.out
      have htj := ht.out
      rw [drop_cons hj] at hIj htj
      rw [drop_cons hl] at hJl htj
      rw [mergeFrom] at htj
      have Htj := Lib.hid htj
      clear htj hj hl ht hI hJ
      by_cases hneg : j < 0 ∨ l < 0
      · have ht2 := Htj.out
        rw [if_pos hneg] at ht2
        have Ht2 := Lib.hid ht2
        have hI2 : Inc ia ys.length (ps.drop (k + 1)) := by
          rcases hIj with ⟨_, h⟩ | ⟨h1, _, h3⟩
          · exact h
          · exact h3.mono (by omega)
        have hJ2 : Inc ib zs.length (qs.drop (k + 1)) := by
          rcases hJl with ⟨_, h⟩ | ⟨h1, _, h3⟩
          · exact h
          · exact h3.mono (by omega)
        have HI2 := Lib.hid hI2
        have HJ2 := Lib.hid hJ2
        clear ht2 Htj hIj hJl hI2 hJ2
        have hneg' : j < 0 ∨ (¬ j < 0 ∧ l < 0) := by omega
        clear hneg
        rcases hneg' with hn | ⟨hn1, hn2⟩
        all_goals
          go_wp2
          go_roundw
          case rel => exact ⟨k + 1, io, ia, ib, done, F, A, n, c, by omega, by omega, hia, hib, rfl, rfl, rfl, rfl, by go_num, HI2, HJ2, Ht2, Lib.hid (hfew.out.mono (by omega)), hO, hN, hF, hon⟩
          case measure => simp [intOf]; omega
      · obtain ⟨ja, rfl⟩ := Int.eq_ofNat_of_zero_le (by omega : 0 ≤ j)
        obtain ⟨jb, rfl⟩ := Int.eq_ofNat_of_zero_le (by omega : 0 ≤ l)
        have hIj2 : ia ≤ ja ∧ ja ≤ ys.length ∧ Inc ((ja : Int) + 1) ys.length (ps.drop (k + 1)) := by
          rcases hIj with ⟨h, _⟩ | ⟨h1, h2, h3⟩
          · omega
          · exact ⟨by omega, by omega, h3⟩
        have hJl2 : ib ≤ jb ∧ jb ≤ zs.length ∧ Inc ((jb : Int) + 1) zs.length (qs.drop (k + 1)) := by
          rcases hJl with ⟨h, _⟩ | ⟨h1, h2, h3⟩
          · omega
          · exact ⟨by omega, by omega, h3⟩
        obtain ⟨hiq, hqy, hIn⟩ := hIj2
        obtain ⟨hir, hrz, hJn⟩ := hJl2
        have HIn := Lib.hid hIn
        have HJn := Lib.hid hJn
        have htn := Htj.out
        rw [if_neg hneg, Int.toNat_natCast, Int.toNat_natCast] at htn
        have Htn := Lib.hid htn
        have hioI : (io : Int) ≤ (k : Int) := by omega
        have hiqI : (ia : Int) ≤ (ja : Int) := by omega
        have hirI : (ib : Int) ≤ (jb : Int) := by omega
        have hq0 : ¬ (ja : Int) < 0 := by omega
        have hr0 : ¬ (jb : Int) < 0 := by omega
        have hL1 : k ≤ xs.length := by omega
        clear hIn hJn hIj hJl htn Htj hneg
        have hpl1 := piece_len xs io k
        have hpl2 := piece_len ys ia ja
        have hpl3 := piece_len zs ib jb
        have HP1 := Lib.hid (fewPiece hfew.out (old := piece xs io k) (one := piece ys ia ja) (two := piece zs ib jb) (by omega) (by omega) (by omega))
        have hfd := hfew.out.le (by omega)
        have hfd1 := HP1.out.le (by omega)
        have hplines := partOf_lines (old := piece xs io k) (one := piece ys ia ja) (two := piece zs ib jb) (m := 1048576) (by omega) (by omega)
        have HPn := Lib.hid (partOf_new (piece xs io k) (piece ys ia ja) (piece zs ib jb))
        have HPo := Lib.hid (putPart_of done (piece xs io k) (piece ys ia ja) (piece zs ib jb))
        obtain ⟨PT, hPT⟩ : ∃ PT, PT = partOf (piece xs io k) (piece ys ia ja) (piece zs ib jb) := ⟨_, rfl⟩
        rw [← hPT] at hplines HPn HPo
        have HPT := Lib.hid hPT
        obtain ⟨out1, hout1⟩ : ∃ out1, out1 = putPiece done (piece xs io k) (piece ys ia ja) (piece zs ib jb) := ⟨_, rfl⟩
        rw [← hout1] at HP1 HPo hfd1
        have Hout1 := Lib.hid hout1
        clear hPT hout1
        have hFl := Own.lt _ _ _ hO
        have hsw : w.heap.size ≤ wr.heap.size := by omega
        have hb1F : b1 ∉ F := fun m => by have := hF b1 m; omega
        have hb2F : b2 ∉ F := fun m => by have := hF b2 m; omega
        have hb1r : b1 < wr.heap.size := by omega
        have hb2r : b2 < wr.heap.size := by omega
        go_wp2
        obtain ⟨B1, eB1, qB1, pB1⟩ := Try.cutText A1 xs.length c1 io k hio (by omega)
        have TB1 := Text.cut (R1.same (hon.same (fun q hq => .inr (by simp at hq; omega)) (by omega))) io k hio (by omega)
        rw [← eB1] at TB1
        change Rep wr 0 w.heap.size (encText (piece xs io k)) _ at TB1
        clear eB1
        obtain ⟨B2, eB2, qB2, pB2⟩ := Try.cutText A2 ys.length c2 ia ja hiq (by omega)
        have TB2 := Text.cut (R2.same (hon.same (fun q hq => .inr (by simp at hq; omega)) (by omega))) ia ja hiq (by omega)
        rw [← eB2] at TB2
        change Rep wr 0 w.heap.size (encText (piece ys ia ja)) _ at TB2
        clear eB2
        obtain ⟨B3, eB3, qB3, pB3⟩ := Try.cutText A3 zs.length c3 ib jb hir (by omega)
        have TB3 := Text.cut (R3.same (hon.same (fun q hq => .inr (by simp at hq; omega)) (by omega))) ib jb hir (by omega)
        rw [← eB3] at TB3
        change Rep wr 0 w.heap.size (encText (piece zs ib jb)) _ at TB3
        clear eB3
        go_region_held3 (fun w' => w'.cell? ⟨b1, o1 + k, none⟩ = some (.int .i64 ja) ∧ w'.cell? ⟨b2, o2 + k, none⟩ = some (.int .i64 jb)) (first | trivial | exact ⟨dj, dl⟩ | exact ⟨dj6, dl6⟩ | exact ⟨dj5, dl5⟩ | go_keep) (first
          | (go_at_call 20; refine (spec_l3Put_any done PT A n c us F G w5 hO5 hN hG1 hG2 (fun q hq m => by
               have g1 : wr.heap.size ≤ q := (hG3 q hq).1
               have g2 := hFl q m
               omega) HPn.out hfd.1 hplines hfd.2).mono ?_
             rintro e w6 ⟨F6, A6, n6, c6, rfl, hO6, hN6, hF6, hon6⟩
             have dj6 : w6.cell? ⟨b1, o1 + k, none⟩ = some (.int .i64 ja) := (World.cell?_of_block (hon6.block b1 (Nat.lt_of_lt_of_le (show b1 < wr.heap.size from hb1r) hb5.size) hb1F)).trans dj5
             have dl6 : w6.cell? ⟨b2, o2 + k, none⟩ = some (.int .i64 jb) := (World.cell?_of_block (hon6.block b2 (Nat.lt_of_lt_of_le (show b2 < wr.heap.size from hb2r) hb5.size) hb2F)).trans dl5)
          | (go_at_call 21; refine (spec_l3Part_any B1 B2 B3 _ _ _ _ _ _ (piece xs io k) (piece ys ia ja) (piece zs ib jb) wr.drew 0 w.heap.size (TB1.same (fun _ _ _ => rfl)) (TB2.same (fun _ _ _ => rfl)) (TB3.same (fun _ _ _ => rfl)) (show w.heap.size ≤ wr.heap.size from hsw) (by omega) (by omega) (by omega)).mono ?_
             rw [← HPT.out]
             rintro e w5 ⟨us, rfl, hb5, G, hG1, hG2, hG3⟩
             have hO5 : Own w5 (encParts done) (.slice A n c) F := Own.same _ _ _ hO (fun q m => hb5.block q (hFl q m))
             have dj5 : w5.cell? ⟨b1, o1 + k, none⟩ = some (.int .i64 ja) := (hb5.cell (p := ⟨b1, o1 + k, none⟩) hb1r).trans dj
             have dl5 : w5.cell? ⟨b2, o2 + k, none⟩ = some (.int .i64 jb) := (hb5.cell (p := ⟨b2, o2 + k, none⟩) hb2r).trans dl))
        rw [HPo.out] at hO6
        have hs5 : wr.heap.size ≤ w5.heap.size := hb5.size
        have hs6 := hon6.size
        have hon5 : Only [w.heap.size] w4 w5 := hon.then_new (Only.of_below (F := []) (show Below wr.heap.size wr w5 from ⟨hb5.os, hb5.tape, hb5.output, hb5.size, hb5.block⟩)) (fun q hq => by cases hq)
        have hon6' : Only [w.heap.size] w4 w6 := hon5.then_new hon6 (fun q hq => by
          rcases hF q hq with e | m
          · left; simp [e]
          · exact .inr m)
        have hF6' : ∀ q ∈ F6, q = w.heap.size ∨ w4.heap.size ≤ q := fun q hq => by
          rcases hF6 q hq with m | m | m
          · exact hF q m
          · have g1 : wr.heap.size ≤ q := (hG3 q m).1
            omega
          · omega
        have hFl6 := Own.lt _ _ _ hO6
        clear hb5 hG1 hG2 hG3 hO5 dj5 dl5 hon6 hon5 hF6 qB1 qB2 qB3 pB1 pB2 pB3 TB1 TB2 TB3 hO hF hFl hN dj dl hplines hpl1 hpl2 hpl3
        by_cases hkx : k < xs.length
        · have hkx' : (k : Int) < (xs.length : Int) := by omega
          obtain ⟨b3, o3, x, rfl, _, _, hxk, d3⟩ := Text.at (R1.same (hon6'.same (fun q hq => .inr (by simp at hq; omega)) (by omega))) hkx
          have hpo := piece_one hxk
          have Hpo := Lib.hid hpo
          clear hpo hxk
          have hO6a : Own (w6.alloc (.cells #[.string ⟨x.toArray⟩] 9)) (encParts out1) (.slice A6 n6 c6) F6 := Own.same _ _ _ hO6 (fun q m => Below.heap_alloc w6 _ q (by have := hFl6 q m; omega))
          go_wp2_with fail
          refine Calls.mono (spec_l3Put_any out1 (newPart [x]) A6 n6 c6 [.bool false, .slice (some ⟨w6.heap.size, 0, none⟩) 1 1, .slice none 0 0, .slice none 0 0, .slice none 0 0] F6 [w6.heap.size] (w6.alloc (.cells #[.string ⟨x.toArray⟩] 9)) hO6a hN6 (owns_line w6 x _ rfl) (by simp) (fun q hq m => by
            simp at hq
            have := hFl6 q m
            omega) (fun _ => rfl) hfd1.1 (by simp [newPart]) hfd1.2) ?_
          rintro e w7 ⟨F7, A7, n7, c7, rfl, hO7, hN7, hF7, hon7⟩
          rw [putPart_new, ← Hpo.out] at hO7
          have hz6 : (w6.alloc (.cells #[.string ⟨x.toArray⟩] 9)).heap.size = w6.heap.size + 1 := by simp
          have hs7 := hon7.size
          have hon7' : Only [w.heap.size] w4 w7 := (hon6'.then_new (Only.of_below (F := []) ((Below.refl _ _).alloc (Nat.le_refl _) _)) (fun q hq => by cases hq)).then_new hon7 (fun q hq => by
            rcases hF6' q hq with e | m
            · left; simp [e]
            · exact .inr m)
          have hF7' : ∀ q ∈ F7, q = w.heap.size ∨ w4.heap.size ≤ q := fun q hq => by
            rcases hF7 q hq with m | m | m
            · exact hF6' q m
            · simp at m; omega
            · omega
          have hS7 : Same (w.heap.size + 1) w4.heap.size w4 w7 := hon7'.same (fun q hq => .inl (by simp at hq; omega)) (Nat.le_refl _)
          have dj7 : w7.cell? ⟨b1, o1 + k, none⟩ = some (.int .i64 ja) := (hS7.cell (a := ⟨b1, o1 + k, none⟩) hbg1 hbl1).trans dj0
          have dl7 : w7.cell? ⟨b2, o2 + k, none⟩ = some (.int .i64 jb) := (hS7.cell (a := ⟨b2, o2 + k, none⟩) hbg2 hbl2).trans dl0
          clear hon7 hF7 hO6a hO6 dj6 dl6 dj0 dl0 d3 hz6
          go_wp2
          go_roundw
          case rel => exact ⟨k + 1, k + 1, ja + 1, jb + 1, putLines out1 (piece xs k (k + 1)), F7, A7, n7, c7, by omega, by omega, by omega, by omega, rfl, by go_num, by go_num, by go_num, by go_num, HIn, HJn, Lib.hid (by have := Htn.out; unfold mergeAt at this; rw [← Hout1.out] at this; exact this), Lib.hid (fewAt HP1.out (by have := piece_len xs k (k + 1); omega)), hO7, hN7, hF7', hon7'⟩
          case measure => simp [intOf]; omega
        · have hkx' : ¬ (k : Int) < (xs.length : Int) := by omega
          have hpn : piece xs k (k + 1) = [] := piece_none (by omega) _
          have Hpn := Lib.hid hpn
          clear hpn dj0 dl0
          go_wp2
          go_roundw
          case rel => exact ⟨k + 1, k + 1, ja + 1, jb + 1, out1, F6, A6, n6, c6, by omega, by omega, by omega, by omega, rfl, by go_num, by go_num, by go_num, by go_num, HIn, HJn, Lib.hid (by have := Htn.out; unfold mergeAt at this; rw [← Hout1.out, Hpn.out, putLines_nil] at this; exact this), Lib.hid (by have := fewAt HP1.out (ls := []) (by simp); rwa [putLines_nil] at this), hO6, hN6, hF6', hon6'⟩
          case measure => simp [intOf]; omega
    · obtain rfl : k = xs.length + 1 := by omega
      go_wp2
      go_ret
      have ht := ht.out
      rw [List.drop_of_length_le (by rw [Hpl.out]; omega), mergeFrom] at ht
      · subst ht
        refine ⟨_, _, _, rfl, Hbw.out.trans ⟨hon.os, hon.tape, hon.output, hon.size, fun q hq => hon.block q (by omega) (fun m => by simp at m; omega)⟩, F, hO, hN, fun q hq => ⟨by have := hF q hq; omega, Own.lt _ _ _ hO q hq⟩⟩
      · intro _ _ _ _ h; cases h
end Go.Proofs.Ytfigfpoklppkgaa
