/- Walk: the merge of three texts: the program's. -/
import Derived.Test.YtfigfpoklppkgaaMergePut
import Derived.Test.YtfigfpoklppkgaaMatch
namespace Go.Proofs.Ytfigfpoklppkgaa
open Go.RowKit

theorem PartsBox.heapEq {w : World} {Ob : Nat} {F : List Nat} {ps : List PPart} {A : Option Addr} {n c : Nat} (h : PartsBox w Ob F ps A n c) (w' : World) (he : ∀ k : Nat, w'.heap[k]? = w.heap[k]?) : PartsBox w' Ob F ps A n c :=
  ⟨(he Ob).trans h.1, Own.same _ _ _ h.2.1 (fun k _ => he k), h.2.2.1, h.2.2.2⟩
theorem PartsBox.keep {w w' : World} {Ob : Nat} {F : List Nat} {ps : List PPart} {A : Option Addr} {n c : Nat} (h : PartsBox w Ob F ps A n c) (hb : Below w.heap.size w w') : PartsBox w' Ob F ps A n c :=
  ⟨(hb.block Ob (lt_of_block h.1)).trans h.1, Own.same _ _ _ h.2.1 (fun k m => hb.block k (Own.lt _ _ _ h.2.1 k m)), h.2.2.1, h.2.2.2⟩
theorem cell_alloc_old {w : World} {b j : Nat} {v : Value} (h : w.cell? ⟨b, j, none⟩ = some v) (o : Obj) : (w.alloc o).cell? ⟨b, j, none⟩ = some v :=
  (World.cell?_of_block (Below.heap_alloc w o b (World.block_lt_of_cell? w _ h))).trans h
theorem own_noText (w : World) : Own w (encText []) (.slice none 0 0) [] := ⟨0, [], [], World.ownsRow_nil w 0 _ _, rfl, rfl, rfl⟩
/-- 't[i:i+1]', its address a letter. -/
theorem Try.cutOne (A : Option Addr) (n c i : Nat) (hi : i < n) (hnc : n ≤ c) : ∃ A', A' = (if c = i then A else A.map fun a => a.add i) ∧
    (∀ W, (Instr.sliceAt 22 (.slice A n c) (some (.int .i64 i)) (some (.int .i64 ((i : Int) + 1))) none).run Try.prog W = .ok (.slice A' 1 (c - i)) W) ∧
    (∀ W, (Instr.slice 22 (.slice A n c) (some (.int .i64 i)) (some (.int .i64 ((i : Int) + 1))) none).run Try.prog W = .ok (.slice A' 1 (c - i)) W) := by
  obtain ⟨A', e, h1, h2⟩ := Try.cutText A n c i (i + 1) (by omega) (by omega)
  rw [show i + 1 - i = 1 by omega, Int.natCast_add] at h1 h2
  exact ⟨A', e, h1, h2⟩
theorem fewParts.le {m : Nat} {out : List PPart} (h : fewParts m out) (hm : m ≤ 1000) : out.length ≤ 1048576 ∧ ∀ p ∈ out, p.lines.length ≤ 1048576 := ⟨by have := h.1; omega, fun p hp => by have := h.2 p hp; omega⟩
theorem fewParts1.le {m : Nat} {out : List PPart} (h : fewParts1 m out) (hm : m ≤ 1000) : out.length ≤ 1048576 ∧ ∀ p ∈ out, p.lines.length ≤ 1048576 := ⟨by have := h.1; omega, fun p hp => by have := h.2 p hp; omega⟩
theorem putPiece_two {out : List PPart} {old one two : List Str} (h : one = old ∨ one = two) : putPiece out old one two = putLines out two := by unfold putPiece; rw [if_pos h]
theorem putPiece_one {out : List PPart} {old one two : List Str} (h : ¬ (one = old ∨ one = two)) (h2 : two = old) : putPiece out old one two = putLines out one := by unfold putPiece; rw [if_neg h, if_pos h2]
theorem putPiece_clash {out : List PPart} {old one two : List Str} (h : ¬ (one = old ∨ one = two)) (h2 : ¬ two = old) : putPiece out old one two = out ++ [clashPart old one two] := by unfold putPiece; rw [if_neg h, if_neg h2]

set_option maxRecDepth 100000 in
set_option maxHeartbeats 6400000 in
theorem impl_mergeOf_any (A1 A2 A3 : Option Addr) (n1 c1 n2 c2 n3 c3 : Nat) (xs ys zs : List Str) (w : World) (h1 : Rep w 0 w.heap.size (encText xs) (.slice A1 n1 c1)) (h2 : Rep w 0 w.heap.size (encText ys) (.slice A2 n2 c2)) (h3 : Rep w 0 w.heap.size (encText zs) (.slice A3 n3 c3))
    (hx : xs.length ≤ 10) (hy : ys.length ≤ 10) (hz : zs.length ≤ 10) :
    Calls Try.prog 17 #[.slice A1 n1 c1, .slice A2 n2 c2, .slice A3 n3 c3] w fun e w' => ∃ A n c, e = .returned (.slice A n c) ∧ Below w.heap.size w w' ∧ Fresh w' w.heap.size w'.heap.size (encParts (mergeOf xs ys zs)) (.slice A n c) := by
  have hl1 := Text.n h1
  have hl2 := Text.n h2
  have hl3 := Text.n h3
  obtain ⟨hc1, hm1⟩ := Text.cap h1
  obtain ⟨hc2, hm2⟩ := Text.cap h2
  obtain ⟨hc3, hm3⟩ := Text.cap h3
  subst hl1 hl2 hl3
  obtain ⟨i, hi0, hi1, hi2, hi3⟩ := info_parts Try.infoInt
  go_enter Try.func17, Try.ntmps17
  go_wp2_with fail
  refine Calls.mono (impl_match_any _ _ _ _ _ _ xs ys w _ _ _ _ h1 h2 (Nat.le_refl _) (Nat.le_refl _) (by omega) (by omega)) ?_
  rintro e w1 ⟨Am, nm, cm, rfl, hb1, hf1⟩
  obtain ⟨hnm, hown1⟩ := hf1.ints
  rw [mtch_len] at hnm
  subst hnm
  have hs1 := hb1.size
  go_wp2_with (at_builtin; refine wpList_append_src _ rfl (.tmp 20) (.tmp 23) _ rfl w.heap.size 3 i _ 1 8 Try.underlying36 hi0 hi1 hi2 hi3 rfl (by omega) _ xs.length _ rfl (hown1.alloc _) _ 1 1 [.int .i64 (ys.length : Int)] rfl (Src.lit w1 3 [.int .i64 (ys.length : Int)] 1 1 rfl) ?e2 ?e3 ?e4 ?e5 ?_)
  case e2 => intro u hu; simp at hu; subst hu; rfl
  case e3 => unfold maxLen; omega
  case e4 => omega
  case e5 => simp; omega
  intro Ap cp w2 hown2 hg2 _
  have hbA : Below w.heap.size w (w1.alloc (Obj.cells #[.int .i64 (ys.length : Int)] 3)) := Below.alloc hb1 hs1 _
  have hb2 : Below w.heap.size w w2 := hbA.grown hg2 (by simp; omega) (fun g hg => (hown1.lt g hg).1)
  have hm2' : ((mtch xs ys 0).map fun s => (.int .i64 s : Value)) ++ [.int .i64 (ys.length : Int)] = (pairsOf xs ys).map fun s => .int .i64 s := by simp [pairsOf]
  rw [hm2'] at hown2
  have hRp : Rep w2 w.heap.size w2.heap.size (encInts (pairsOf xs ys)) (.slice Ap (xs.length + 1) cp) := (Fresh.of_row hown2 (owns_ints _ _)).rep
  have hs2 := hb2.size
  clear hown2 hm2' hown1 hf1 hg2 hbA hb1
  go_wp2_with fail
  refine Calls.mono (impl_match_any _ _ _ _ _ _ xs zs w2 _ _ _ _ (h1.keep hb2 (Nat.le_refl _)) (h3.keep hb2 (Nat.le_refl _)) hs2 hs2 (by omega) (by omega)) ?_
  rintro e w3 ⟨Am, nm, cm, rfl, hb3, hf3⟩
  obtain ⟨hnm, hown3⟩ := hf3.ints
  rw [mtch_len] at hnm
  subst hnm
  have hs3 := hb3.size
  go_wp2_with (at_builtin; refine wpList_append_src _ rfl (.tmp 27) (.tmp 30) _ rfl w2.heap.size 3 i _ 1 8 Try.underlying36 hi0 hi1 hi2 hi3 rfl (by omega) _ xs.length _ rfl (hown3.alloc _) _ 1 1 [.int .i64 (zs.length : Int)] rfl (Src.lit w3 3 [.int .i64 (zs.length : Int)] 1 1 rfl) ?e2 ?e3 ?e4 ?e5 ?_)
  case e2 => intro u hu; simp at hu; subst hu; rfl
  case e3 => unfold maxLen; omega
  case e4 => omega
  case e5 => simp; omega
  intro Aq cq w4 hown4 hg4 _
  have hbA : Below w2.heap.size w2 (w3.alloc (Obj.cells #[.int .i64 (zs.length : Int)] 3)) := Below.alloc hb3 hs3 _
  have hb4 : Below w2.heap.size w2 w4 := hbA.grown hg4 (by simp; omega) (fun g hg => (hown3.lt g hg).1)
  have hm4' : ((mtch xs zs 0).map fun s => (.int .i64 s : Value)) ++ [.int .i64 (zs.length : Int)] = (pairsOf xs zs).map fun s => .int .i64 s := by simp [pairsOf]
  rw [hm4'] at hown4
  have hRq : Rep w4 w2.heap.size w4.heap.size (encInts (pairsOf xs zs)) (.slice Aq (xs.length + 1) cq) := (Fresh.of_row hown4 (owns_ints _ _)).rep
  have hs4 := hb4.size
  replace hRp := hRp.keep hb4 (Nat.le_refl _)
  have hbw := hb2.trans (hb4.mono hs2)
  clear hown4 hm4' hown3 hf3 hg4 hbA hb3 hb2 hb4
  have hpl := pairsOf_len xs ys
  have hql := pairsOf_len xs zs
  have hinc := pairsOf_inc xs ys
  have hjnc := pairsOf_inc xs zs
  obtain ⟨hcp, hmp⟩ := Ints.cap hRp
  obtain ⟨hcq, hmq⟩ := Ints.cap hRq
  obtain ⟨ps, eps⟩ : ∃ ps, ps = pairsOf xs ys := ⟨_, rfl⟩
  obtain ⟨qs, eqs⟩ : ∃ qs, qs = pairsOf xs zs := ⟨_, rfl⟩
  have hdf : mergeOf xs ys zs = mergeFrom xs ys zs ps qs 0 0 0 0 [] := by rw [eps, eqs]; rfl
  rw [← eps] at hRp hpl hinc
  rw [← eqs] at hRq hql hjnc
  have Hinc := Lib.hid hinc
  have Hjnc := Lib.hid hjnc
  have Hdf := Lib.hid hdf
  have Hpl := Lib.hid hpl
  have Hql := Lib.hid hql
  clear eps eqs hinc hjnc hdf hpl hql
  go_wp2
  refine name_world ?_
  intro WW hWW
  obtain ⟨Ob, hOb⟩ : ∃ Ob, Ob = w4.heap.size := ⟨_, rfl⟩
  have hb0 : Below Ob w4 WW := by rw [hWW, hOb]; exact (Below.refl _ _).alloc (Nat.le_refl _) _
  have hBx : PartsBox WW Ob [] [] none 0 0 := by
    rw [hWW, hOb]
    exact ⟨heap_new' _ _, ⟨0, [], [], World.ownsRow_nil _ 0 _ _, rfl, rfl, rfl⟩, .nil, fun m => by cases m⟩
  have hsW : Ob < WW.heap.size := by rw [hWW, hOb]; simp
  have hwO : w.heap.size ≤ Ob := by rw [hOb]; exact hbw.size
  have R1 := (h1.keep hbw (Nat.le_refl _)).keep hb0 hwO
  have R2 := (h2.keep hbw (Nat.le_refl _)).keep hb0 hwO
  have R3 := (h3.keep hbw (Nat.le_refl _)).keep hb0 hwO
  have Rp := (hRp.mono (lo' := 0) (hi' := Ob) (Nat.zero_le _) (by omega)).keep hb0 (Nat.le_refl _)
  have Rq := (hRq.mono (lo' := 0) (hi' := Ob) (Nat.zero_le _) (by omega)).keep hb0 (Nat.le_refl _)
  have Hbw := Lib.hid (hbw.trans (hb0.mono hwO))
  rw [← hOb]
  clear hWW hOb hb0 hbw hRp hRq h1 h2 h3 hs1 hs2 hs3 hs4
  go_loopw [11, 12, 13, 35] (fun fo fa fb ii wr => ∃ (k io ia ib : Nat) (done : List PPart) (F : List Nat) (A : Option Addr) (n c : Nat), k ≤ xs.length + 1 ∧ io ≤ k ∧ ia ≤ ys.length + 1 ∧ ib ≤ zs.length + 1 ∧ fo = .int .i64 io ∧ fa = .int .i64 ia ∧ fb = .int .i64 ib ∧ ii = .int .i64 k ∧
      Hid (Inc ia ys.length (ps.drop k)) ∧ Hid (Inc ib zs.length (qs.drop k)) ∧ Hid (mergeFrom xs ys zs (ps.drop k) (qs.drop k) k io ia ib done = mergeOf xs ys zs) ∧ Hid (fewParts k done) ∧ PartsBox wr Ob F done A n c ∧ (∀ q ∈ F, Ob < q) ∧ Below Ob WW wr) (fun _ _ _ i _ => xs.length + 1 - (intOf i).toNat)
  case atStart => exact ⟨0, 0, 0, 0, [], [], none, 0, 0, by omega, by omega, by omega, by omega, rfl, rfl, rfl, rfl, Lib.hid (by simpa using Hinc.out), Lib.hid (by simpa using Hjnc.out), Lib.hid (by simpa using Hdf.out.symm), Lib.hid fewParts_nil, hBx, (fun q hq => by cases hq), Below.refl _ _⟩
  case round =>
    clear hBx
    obtain ⟨k, io, ia, ib, done, F, A, n, c, hk, hio, hia, hib, rfl, rfl, rfl, rfl, hI, hJ, ht, hfew, hB, hF, hb⟩ := hrel
    have hsr := hb.size
    by_cases hkn : k < xs.length + 1
    · have hkn' : (k : Int) < (xs.length : Int) + 1 := by omega
      obtain ⟨b1, o1, j, rfl, _, hbl1, hj, dj0⟩ := Ints.at Rp hkn
      obtain ⟨b2, o2, l, rfl, _, hbl2, hl, dl0⟩ := Ints.at Rq hkn
      have dj : wr.cell? ⟨b1, o1 + k, none⟩ = some (.int .i64 j) := (hb.cell (p := ⟨b1, o1 + k, none⟩) hbl1).trans dj0
      have dl : wr.cell? ⟨b2, o2 + k, none⟩ = some (.int .i64 l) := (hb.cell (p := ⟨b2, o2 + k, none⟩) hbl2).trans dl0
      have hIj := hI.out
      have hJl := hJ.out
      have htj := ht.out
      rw [drop_cons hj] at hIj htj
      rw [drop_cons hl] at hJl htj
      rw [mergeFrom] at htj
      have Htj := Lib.hid htj
      clear htj hj hl ht hI hJ
      by_cases hneg : j < 0 ∨ l < 0
      · have ht2 := Htj.out
        rw [if_pos hneg] at ht2
        have Ht2 := Lib.hid ht2
        have hI2 : Inc ia ys.length (ps.drop (k + 1)) := by
          rcases hIj with ⟨_, h⟩ | ⟨h1, _, h3⟩
          · exact h
          · exact h3.mono (by omega)
        have hJ2 : Inc ib zs.length (qs.drop (k + 1)) := by
          rcases hJl with ⟨_, h⟩ | ⟨h1, _, h3⟩
          · exact h
          · exact h3.mono (by omega)
        have HI2 := Lib.hid hI2
        have HJ2 := Lib.hid hJ2
        clear ht2 Htj hIj hJl hI2 hJ2
        have hneg' : j < 0 ∨ (¬ j < 0 ∧ l < 0) := by omega
        clear hneg
        rcases hneg' with hn | ⟨hn1, hn2⟩
        all_goals
          go_wp2
          go_roundw
          case rel => exact ⟨k + 1, io, ia, ib, done, F, A, n, c, by omega, by omega, hia, hib, rfl, rfl, rfl, by go_num, HI2, HJ2, Ht2, Lib.hid (hfew.out.mono (by omega)), hB, hF, hb⟩
          case measure => simp [intOf]; omega
      · obtain ⟨ja, rfl⟩ := Int.eq_ofNat_of_zero_le (by omega : 0 ≤ j)
        obtain ⟨jb, rfl⟩ := Int.eq_ofNat_of_zero_le (by omega : 0 ≤ l)
        have hIj2 : ia ≤ ja ∧ ja ≤ ys.length ∧ Inc ((ja : Int) + 1) ys.length (ps.drop (k + 1)) := by
          rcases hIj with ⟨h, _⟩ | ⟨h1, h2, h3⟩
          · omega
          · exact ⟨by omega, by omega, h3⟩
        have hJl2 : ib ≤ jb ∧ jb ≤ zs.length ∧ Inc ((jb : Int) + 1) zs.length (qs.drop (k + 1)) := by
          rcases hJl with ⟨h, _⟩ | ⟨h1, h2, h3⟩
          · omega
          · exact ⟨by omega, by omega, h3⟩
        obtain ⟨hiq, hqy, hIn⟩ := hIj2
        obtain ⟨hir, hrz, hJn⟩ := hJl2
        have HIn := Lib.hid hIn
        have HJn := Lib.hid hJn
        have htn := Htj.out
        rw [if_neg hneg, Int.toNat_natCast, Int.toNat_natCast] at htn
        have Htn := Lib.hid htn
        have hioI : (io : Int) ≤ (k : Int) := by omega
        have hiqI : (ia : Int) ≤ (ja : Int) := by omega
        have hirI : (ib : Int) ≤ (jb : Int) := by omega
        have hq0 : ¬ (ja : Int) < 0 := by omega
        have hr0 : ¬ (jb : Int) < 0 := by omega
        have hL1 : k ≤ xs.length := by omega
        clear hIn hJn hIj hJl htn Htj hneg
        have hP1 := fewPiece hfew.out (old := piece xs io k) (one := piece ys ia ja) (two := piece zs ib jb) (by have := piece_len xs io k; omega) (by have := piece_len ys ia ja; omega) (by have := piece_len zs ib jb; omega)
        have HP1 := Lib.hid hP1
        have hfd := hfew.out.le (by omega)
        clear hP1
        by_cases e1 : piece ys ia ja = piece xs io k
        · have H1 := Lib.hid (putPiece_two (out := done) (Or.inl e1 : piece ys ia ja = piece xs io k ∨ piece ys ia ja = piece zs ib jb))
          go_wp2
          obtain ⟨B1, eB1, qB1, pB1⟩ := Try.cutText A1 xs.length c1 io k hio (by omega)
          have TB1 := Text.cut (R1.keep hb hwO) io k hio (by omega)
          rw [← eB1] at TB1
          change Rep wr 0 w.heap.size (encText (piece xs io k)) _ at TB1
          clear eB1
          obtain ⟨B2, eB2, qB2, pB2⟩ := Try.cutText A2 ys.length c2 ia ja hiq (by omega)
          have TB2 := Text.cut (R2.keep hb hwO) ia ja hiq (by omega)
          rw [← eB2] at TB2
          change Rep wr 0 w.heap.size (encText (piece ys ia ja)) _ at TB2
          clear eB2
          obtain ⟨B3, eB3, qB3, pB3⟩ := Try.cutText A3 zs.length c3 ib jb hir (by omega)
          have TB3 := Text.cut (R3.keep hb hwO) ib jb hir (by omega)
          rw [← eB3] at TB3
          change Rep wr 0 w.heap.size (encText (piece zs ib jb)) _ at TB3
          clear eB3
          go_quiet (fail)
          clear qB1 qB2 qB3 pB1 pB2 pB3
          go_wp2_with fail
          refine Calls.mono (slices_Equal_any _ _ _ _ _ _ (piece ys ia ja) (piece xs io k) _ 0 w.heap.size 0 w.heap.size (TB2.same (fun _ _ _ => rfl)) (TB1.same (fun _ _ _ => rfl))) ?_
          rw [decide_eq_true e1]
          rintro e _ ⟨rfl, _, rfl⟩
          go_wp2_with fail
          refine Calls.mono (impl_put_any done (piece zs ib jb) B3 _ (jb - ib) (c3 - ib) _ _ Ob F _ 0 w.heap.size (TB3.same (fun _ _ _ => rfl)) (by show w.heap.size ≤ wr.heap.size; omega) (hB.heapEq _ fun _ => rfl) (fun q hq => .inr (by have := hF q hq; omega)) (.inr (by omega)) hfd.1 (by have := piece_len zs ib jb; omega) hfd.2) ?_
          rintro e W8 ⟨rfl, F8, A8, n8, c8, hB8, hF8', hon8⟩
          have hs8 : wr.heap.size ≤ W8.heap.size := hon8.size
          have hF8 : ∀ q ∈ F8, Ob < q := fun q hq => by
            rcases hF8' q hq with m | m
            · exact hF q m
            · have : wr.heap.size ≤ q := m
              omega
          have hb8 : Below Ob WW W8 := hb.trans (show Below Ob wr W8 from ⟨hon8.os, hon8.tape, hon8.output, hs8, fun q hq => hon8.block q (by show q < wr.heap.size; omega) (fun m => by
            rcases List.mem_cons.1 m with e | m
            · omega
            · have := hF q m; omega)⟩)
          clear hon8 hF8'
          have hfd1 := HP1.out.le (by omega)
          rw [H1.out] at hfd1
          have dj2 : W8.cell? ⟨b1, o1 + k, none⟩ = some (.int .i64 ja) := (hb8.cell (p := ⟨b1, o1 + k, none⟩) hbl1).trans dj0
          have dl2 : W8.cell? ⟨b2, o2 + k, none⟩ = some (.int .i64 jb) := (hb8.cell (p := ⟨b2, o2 + k, none⟩) hbl2).trans dl0
          have hsz2 := hb8.size
          by_cases hkx : k < xs.length
          · have hkx' : (k : Int) < (xs.length : Int) := by omega
            have hkk : (k : Int) ≤ (k : Int) + 1 := by omega
            have hkl : (k : Int) + 1 ≤ (xs.length : Int) := by omega
            obtain ⟨B4, eB4, qB4, pB4⟩ := Try.cutOne A1 xs.length c1 k hkx (by omega)
            have TB4 := Text.cut (R1.keep hb8 hwO) k (k + 1) (by omega) (by omega)
            rw [← eB4, show k + 1 - k = 1 by omega] at TB4
            have hpc : (xs.drop k).take 1 = piece xs k (k + 1) := by unfold piece; rw [show k + 1 - k = 1 by omega]
            rw [hpc] at TB4
            clear eB4 hpc
            go_wp2_with fail
            refine Calls.mono (impl_put_any (putLines done (piece zs ib jb)) (piece xs k (k + 1)) B4 _ 1 (c1 - k) _ _ Ob F8 _ 0 w.heap.size TB4 (by show w.heap.size ≤ W8.heap.size; omega) (hB8.heapEq _ fun _ => rfl) (fun q hq => .inr (by have := hF8 q hq; omega)) (.inr (by omega)) hfd1.1 (by have := piece_len xs k (k + 1); omega) hfd1.2) ?_
            rintro e W9 ⟨rfl, F9, A9, n9, c9, hB9, hF9', hon9⟩
            have hs9 : W8.heap.size ≤ W9.heap.size := hon9.size
            have hF9 : ∀ q ∈ F9, Ob < q := fun q hq => by
              rcases hF9' q hq with m | m
              · exact hF8 q m
              · have : W8.heap.size ≤ q := m
                omega
            have hb9 : Below Ob WW W9 := hb8.trans (show Below Ob W8 W9 from ⟨hon9.os, hon9.tape, hon9.output, hs9, fun q hq => hon9.block q (by show q < W8.heap.size; omega) (fun m => by
              rcases List.mem_cons.1 m with e | m
              · omega
              · have := hF8 q m; omega)⟩)
            clear hon9 hF9'
            have dj3 : W9.cell? ⟨b1, o1 + k, none⟩ = some (.int .i64 ja) := (hb9.cell (p := ⟨b1, o1 + k, none⟩) hbl1).trans dj0
            have dl3 : W9.cell? ⟨b2, o2 + k, none⟩ = some (.int .i64 jb) := (hb9.cell (p := ⟨b2, o2 + k, none⟩) hbl2).trans dl0
            clear dj dl dj2 dl2 dj0 dl0 qB4 pB4
            go_wp2
            go_quiet (fail)
            go_wp2
            go_roundw
            case rel => exact ⟨k + 1, k + 1, ja + 1, jb + 1, putLines (putLines done (piece zs ib jb)) (piece xs k (k + 1)), F9, A9, n9, c9, by omega, by omega, by omega, by omega, by go_num, by go_num, by go_num, by go_num, HIn, HJn, Lib.hid (by have := Htn.out; unfold mergeAt at this; rw [H1.out] at this; exact this), Lib.hid (by have := fewAt HP1.out (ls := piece xs k (k + 1)) (by have := piece_len xs k (k + 1); omega); rw [H1.out] at this; exact this), hB9.heapEq _ fun _ => rfl, hF9, below_drewN hb9 _⟩
            case measure => simp [intOf]; omega
          · have hkx' : ¬ (k : Int) < (xs.length : Int) := by omega
            have hpn : piece xs k (k + 1) = [] := piece_none (by omega) _
            have Hpn := Lib.hid hpn
            clear dj dl dj0 dl0 hpn
            go_wp2
            go_quiet (fail)
            go_wp2
            go_roundw
            case rel => exact ⟨k + 1, k + 1, ja + 1, jb + 1, putLines done (piece zs ib jb), F8, A8, n8, c8, by omega, by omega, by omega, by omega, by go_num, by go_num, by go_num, by go_num, HIn, HJn, Lib.hid (by have := Htn.out; unfold mergeAt at this; rw [H1.out, Hpn.out, putLines_nil] at this; exact this), Lib.hid (by have := fewAt HP1.out (ls := []) (by simp); rw [H1.out, putLines_nil] at this; exact this), hB8.heapEq _ fun _ => rfl, hF8, below_drewN hb8 _⟩
            case measure => simp [intOf]; omega
        by_cases e2 : piece ys ia ja = piece zs ib jb
        · have H1 := Lib.hid (putPiece_two (out := done) (Or.inr e2 : piece ys ia ja = piece xs io k ∨ piece ys ia ja = piece zs ib jb))
          go_wp2
          obtain ⟨B1, eB1, qB1, pB1⟩ := Try.cutText A1 xs.length c1 io k hio (by omega)
          have TB1 := Text.cut (R1.keep hb hwO) io k hio (by omega)
          rw [← eB1] at TB1
          change Rep wr 0 w.heap.size (encText (piece xs io k)) _ at TB1
          clear eB1
          obtain ⟨B2, eB2, qB2, pB2⟩ := Try.cutText A2 ys.length c2 ia ja hiq (by omega)
          have TB2 := Text.cut (R2.keep hb hwO) ia ja hiq (by omega)
          rw [← eB2] at TB2
          change Rep wr 0 w.heap.size (encText (piece ys ia ja)) _ at TB2
          clear eB2
          obtain ⟨B3, eB3, qB3, pB3⟩ := Try.cutText A3 zs.length c3 ib jb hir (by omega)
          have TB3 := Text.cut (R3.keep hb hwO) ib jb hir (by omega)
          rw [← eB3] at TB3
          change Rep wr 0 w.heap.size (encText (piece zs ib jb)) _ at TB3
          clear eB3
          go_quiet (fail)
          clear qB1 qB2 qB3 pB1 pB2 pB3
          go_wp2_with fail
          refine Calls.mono (slices_Equal_any _ _ _ _ _ _ (piece ys ia ja) (piece xs io k) _ 0 w.heap.size 0 w.heap.size (TB2.same (fun _ _ _ => rfl)) (TB1.same (fun _ _ _ => rfl))) ?_
          rw [decide_eq_false e1]
          rintro e _ ⟨rfl, _, rfl⟩
          go_wp2_with fail
          refine Calls.mono (slices_Equal_any _ _ _ _ _ _ (piece ys ia ja) (piece zs ib jb) _ 0 w.heap.size 0 w.heap.size (TB2.same (fun _ _ _ => rfl)) (TB3.same (fun _ _ _ => rfl))) ?_
          rw [decide_eq_true e2]
          rintro e _ ⟨rfl, _, rfl⟩
          go_wp2_with fail
          refine Calls.mono (impl_put_any done (piece zs ib jb) B3 _ (jb - ib) (c3 - ib) _ _ Ob F _ 0 w.heap.size (TB3.same (fun _ _ _ => rfl)) (by show w.heap.size ≤ wr.heap.size; omega) (hB.heapEq _ fun _ => rfl) (fun q hq => .inr (by have := hF q hq; omega)) (.inr (by omega)) hfd.1 (by have := piece_len zs ib jb; omega) hfd.2) ?_
          rintro e W8 ⟨rfl, F8, A8, n8, c8, hB8, hF8', hon8⟩
          have hs8 : wr.heap.size ≤ W8.heap.size := hon8.size
          have hF8 : ∀ q ∈ F8, Ob < q := fun q hq => by
            rcases hF8' q hq with m | m
            · exact hF q m
            · have : wr.heap.size ≤ q := m
              omega
          have hb8 : Below Ob WW W8 := hb.trans (show Below Ob wr W8 from ⟨hon8.os, hon8.tape, hon8.output, hs8, fun q hq => hon8.block q (by show q < wr.heap.size; omega) (fun m => by
            rcases List.mem_cons.1 m with e | m
            · omega
            · have := hF q m; omega)⟩)
          clear hon8 hF8'
          have hfd1 := HP1.out.le (by omega)
          rw [H1.out] at hfd1
          have dj2 : W8.cell? ⟨b1, o1 + k, none⟩ = some (.int .i64 ja) := (hb8.cell (p := ⟨b1, o1 + k, none⟩) hbl1).trans dj0
          have dl2 : W8.cell? ⟨b2, o2 + k, none⟩ = some (.int .i64 jb) := (hb8.cell (p := ⟨b2, o2 + k, none⟩) hbl2).trans dl0
          have hsz2 := hb8.size
          by_cases hkx : k < xs.length
          · have hkx' : (k : Int) < (xs.length : Int) := by omega
            have hkk : (k : Int) ≤ (k : Int) + 1 := by omega
            have hkl : (k : Int) + 1 ≤ (xs.length : Int) := by omega
            obtain ⟨B4, eB4, qB4, pB4⟩ := Try.cutOne A1 xs.length c1 k hkx (by omega)
            have TB4 := Text.cut (R1.keep hb8 hwO) k (k + 1) (by omega) (by omega)
            rw [← eB4, show k + 1 - k = 1 by omega] at TB4
            have hpc : (xs.drop k).take 1 = piece xs k (k + 1) := by unfold piece; rw [show k + 1 - k = 1 by omega]
            rw [hpc] at TB4
            clear eB4 hpc
            go_wp2_with fail
            refine Calls.mono (impl_put_any (putLines done (piece zs ib jb)) (piece xs k (k + 1)) B4 _ 1 (c1 - k) _ _ Ob F8 _ 0 w.heap.size TB4 (by show w.heap.size ≤ W8.heap.size; omega) (hB8.heapEq _ fun _ => rfl) (fun q hq => .inr (by have := hF8 q hq; omega)) (.inr (by omega)) hfd1.1 (by have := piece_len xs k (k + 1); omega) hfd1.2) ?_
            rintro e W9 ⟨rfl, F9, A9, n9, c9, hB9, hF9', hon9⟩
            have hs9 : W8.heap.size ≤ W9.heap.size := hon9.size
            have hF9 : ∀ q ∈ F9, Ob < q := fun q hq => by
              rcases hF9' q hq with m | m
              · exact hF8 q m
              · have : W8.heap.size ≤ q := m
                omega
            have hb9 : Below Ob WW W9 := hb8.trans (show Below Ob W8 W9 from ⟨hon9.os, hon9.tape, hon9.output, hs9, fun q hq => hon9.block q (by show q < W8.heap.size; omega) (fun m => by
              rcases List.mem_cons.1 m with e | m
              · omega
              · have := hF8 q m; omega)⟩)
            clear hon9 hF9'
            have dj3 : W9.cell? ⟨b1, o1 + k, none⟩ = some (.int .i64 ja) := (hb9.cell (p := ⟨b1, o1 + k, none⟩) hbl1).trans dj0
            have dl3 : W9.cell? ⟨b2, o2 + k, none⟩ = some (.int .i64 jb) := (hb9.cell (p := ⟨b2, o2 + k, none⟩) hbl2).trans dl0
            clear dj dl dj2 dl2 dj0 dl0 qB4 pB4
            go_wp2
            go_quiet (fail)
            go_wp2
            go_roundw
            case rel => exact ⟨k + 1, k + 1, ja + 1, jb + 1, putLines (putLines done (piece zs ib jb)) (piece xs k (k + 1)), F9, A9, n9, c9, by omega, by omega, by omega, by omega, by go_num, by go_num, by go_num, by go_num, HIn, HJn, Lib.hid (by have := Htn.out; unfold mergeAt at this; rw [H1.out] at this; exact this), Lib.hid (by have := fewAt HP1.out (ls := piece xs k (k + 1)) (by have := piece_len xs k (k + 1); omega); rw [H1.out] at this; exact this), hB9.heapEq _ fun _ => rfl, hF9, below_drewN hb9 _⟩
            case measure => simp [intOf]; omega
          · have hkx' : ¬ (k : Int) < (xs.length : Int) := by omega
            have hpn : piece xs k (k + 1) = [] := piece_none (by omega) _
            have Hpn := Lib.hid hpn
            clear dj dl dj0 dl0 hpn
            go_wp2
            go_quiet (fail)
            go_wp2
            go_roundw
            case rel => exact ⟨k + 1, k + 1, ja + 1, jb + 1, putLines done (piece zs ib jb), F8, A8, n8, c8, by omega, by omega, by omega, by omega, by go_num, by go_num, by go_num, by go_num, HIn, HJn, Lib.hid (by have := Htn.out; unfold mergeAt at this; rw [H1.out, Hpn.out, putLines_nil] at this; exact this), Lib.hid (by have := fewAt HP1.out (ls := []) (by simp); rw [H1.out, putLines_nil] at this; exact this), hB8.heapEq _ fun _ => rfl, hF8, below_drewN hb8 _⟩
            case measure => simp [intOf]; omega
        by_cases e3 : piece zs ib jb = piece xs io k
        · have H1 := Lib.hid (putPiece_one (out := done) (fun h => h.elim e1 e2) e3)
          go_wp2
          obtain ⟨B1, eB1, qB1, pB1⟩ := Try.cutText A1 xs.length c1 io k hio (by omega)
          have TB1 := Text.cut (R1.keep hb hwO) io k hio (by omega)
          rw [← eB1] at TB1
          change Rep wr 0 w.heap.size (encText (piece xs io k)) _ at TB1
          clear eB1
          obtain ⟨B2, eB2, qB2, pB2⟩ := Try.cutText A2 ys.length c2 ia ja hiq (by omega)
          have TB2 := Text.cut (R2.keep hb hwO) ia ja hiq (by omega)
          rw [← eB2] at TB2
          change Rep wr 0 w.heap.size (encText (piece ys ia ja)) _ at TB2
          clear eB2
          obtain ⟨B3, eB3, qB3, pB3⟩ := Try.cutText A3 zs.length c3 ib jb hir (by omega)
          have TB3 := Text.cut (R3.keep hb hwO) ib jb hir (by omega)
          rw [← eB3] at TB3
          change Rep wr 0 w.heap.size (encText (piece zs ib jb)) _ at TB3
          clear eB3
          go_quiet (fail)
          clear qB1 qB2 qB3 pB1 pB2 pB3
          go_wp2_with fail
          refine Calls.mono (slices_Equal_any _ _ _ _ _ _ (piece ys ia ja) (piece xs io k) _ 0 w.heap.size 0 w.heap.size (TB2.same (fun _ _ _ => rfl)) (TB1.same (fun _ _ _ => rfl))) ?_
          rw [decide_eq_false e1]
          rintro e _ ⟨rfl, _, rfl⟩
          go_wp2_with fail
          refine Calls.mono (slices_Equal_any _ _ _ _ _ _ (piece ys ia ja) (piece zs ib jb) _ 0 w.heap.size 0 w.heap.size (TB2.same (fun _ _ _ => rfl)) (TB3.same (fun _ _ _ => rfl))) ?_
          rw [decide_eq_false e2]
          rintro e _ ⟨rfl, _, rfl⟩
          go_wp2_with fail
          refine Calls.mono (slices_Equal_any _ _ _ _ _ _ (piece zs ib jb) (piece xs io k) _ 0 w.heap.size 0 w.heap.size (TB3.same (fun _ _ _ => rfl)) (TB1.same (fun _ _ _ => rfl))) ?_
          rw [decide_eq_true e3]
          rintro e _ ⟨rfl, _, rfl⟩
          go_wp2_with fail
          refine Calls.mono (impl_put_any done (piece ys ia ja) B2 _ (ja - ia) (c2 - ia) _ _ Ob F _ 0 w.heap.size (TB2.same (fun _ _ _ => rfl)) (by show w.heap.size ≤ wr.heap.size; omega) (hB.heapEq _ fun _ => rfl) (fun q hq => .inr (by have := hF q hq; omega)) (.inr (by omega)) hfd.1 (by have := piece_len ys ia ja; omega) hfd.2) ?_
          rintro e W8 ⟨rfl, F8, A8, n8, c8, hB8, hF8', hon8⟩
          have hs8 : wr.heap.size ≤ W8.heap.size := hon8.size
          have hF8 : ∀ q ∈ F8, Ob < q := fun q hq => by
            rcases hF8' q hq with m | m
            · exact hF q m
            · have : wr.heap.size ≤ q := m
              omega
          have hb8 : Below Ob WW W8 := hb.trans (show Below Ob wr W8 from ⟨hon8.os, hon8.tape, hon8.output, hs8, fun q hq => hon8.block q (by show q < wr.heap.size; omega) (fun m => by
            rcases List.mem_cons.1 m with e | m
            · omega
            · have := hF q m; omega)⟩)
          clear hon8 hF8'
          have hfd1 := HP1.out.le (by omega)
          rw [H1.out] at hfd1
          have dj2 : W8.cell? ⟨b1, o1 + k, none⟩ = some (.int .i64 ja) := (hb8.cell (p := ⟨b1, o1 + k, none⟩) hbl1).trans dj0
          have dl2 : W8.cell? ⟨b2, o2 + k, none⟩ = some (.int .i64 jb) := (hb8.cell (p := ⟨b2, o2 + k, none⟩) hbl2).trans dl0
          have hsz2 := hb8.size
          by_cases hkx : k < xs.length
          · have hkx' : (k : Int) < (xs.length : Int) := by omega
            have hkk : (k : Int) ≤ (k : Int) + 1 := by omega
            have hkl : (k : Int) + 1 ≤ (xs.length : Int) := by omega
            obtain ⟨B4, eB4, qB4, pB4⟩ := Try.cutOne A1 xs.length c1 k hkx (by omega)
            have TB4 := Text.cut (R1.keep hb8 hwO) k (k + 1) (by omega) (by omega)
            rw [← eB4, show k + 1 - k = 1 by omega] at TB4
            have hpc : (xs.drop k).take 1 = piece xs k (k + 1) := by unfold piece; rw [show k + 1 - k = 1 by omega]
            rw [hpc] at TB4
            clear eB4 hpc
            go_wp2_with fail
            refine Calls.mono (impl_put_any (putLines done (piece ys ia ja)) (piece xs k (k + 1)) B4 _ 1 (c1 - k) _ _ Ob F8 _ 0 w.heap.size TB4 (by show w.heap.size ≤ W8.heap.size; omega) (hB8.heapEq _ fun _ => rfl) (fun q hq => .inr (by have := hF8 q hq; omega)) (.inr (by omega)) hfd1.1 (by have := piece_len xs k (k + 1); omega) hfd1.2) ?_
            rintro e W9 ⟨rfl, F9, A9, n9, c9, hB9, hF9', hon9⟩
            have hs9 : W8.heap.size ≤ W9.heap.size := hon9.size
            have hF9 : ∀ q ∈ F9, Ob < q := fun q hq => by
              rcases hF9' q hq with m | m
              · exact hF8 q m
              · have : W8.heap.size ≤ q := m
                omega
            have hb9 : Below Ob WW W9 := hb8.trans (show Below Ob W8 W9 from ⟨hon9.os, hon9.tape, hon9.output, hs9, fun q hq => hon9.block q (by show q < W8.heap.size; omega) (fun m => by
              rcases List.mem_cons.1 m with e | m
              · omega
              · have := hF8 q m; omega)⟩)
            clear hon9 hF9'
            have dj3 : W9.cell? ⟨b1, o1 + k, none⟩ = some (.int .i64 ja) := (hb9.cell (p := ⟨b1, o1 + k, none⟩) hbl1).trans dj0
            have dl3 : W9.cell? ⟨b2, o2 + k, none⟩ = some (.int .i64 jb) := (hb9.cell (p := ⟨b2, o2 + k, none⟩) hbl2).trans dl0
            clear dj dl dj2 dl2 dj0 dl0 qB4 pB4
            go_wp2
            go_quiet (fail)
            go_wp2
            go_roundw
            case rel => exact ⟨k + 1, k + 1, ja + 1, jb + 1, putLines (putLines done (piece ys ia ja)) (piece xs k (k + 1)), F9, A9, n9, c9, by omega, by omega, by omega, by omega, by go_num, by go_num, by go_num, by go_num, HIn, HJn, Lib.hid (by have := Htn.out; unfold mergeAt at this; rw [H1.out] at this; exact this), Lib.hid (by have := fewAt HP1.out (ls := piece xs k (k + 1)) (by have := piece_len xs k (k + 1); omega); rw [H1.out] at this; exact this), hB9.heapEq _ fun _ => rfl, hF9, below_drewN hb9 _⟩
            case measure => simp [intOf]; omega
          · have hkx' : ¬ (k : Int) < (xs.length : Int) := by omega
            have hpn : piece xs k (k + 1) = [] := piece_none (by omega) _
            have Hpn := Lib.hid hpn
            clear dj dl dj0 dl0 hpn
            go_wp2
            go_quiet (fail)
            go_wp2
            go_roundw
            case rel => exact ⟨k + 1, k + 1, ja + 1, jb + 1, putLines done (piece ys ia ja), F8, A8, n8, c8, by omega, by omega, by omega, by omega, by go_num, by go_num, by go_num, by go_num, HIn, HJn, Lib.hid (by have := Htn.out; unfold mergeAt at this; rw [H1.out, Hpn.out, putLines_nil] at this; exact this), Lib.hid (by have := fewAt HP1.out (ls := []) (by simp); rw [H1.out, putLines_nil] at this; exact this), hB8.heapEq _ fun _ => rfl, hF8, below_drewN hb8 _⟩
            case measure => simp [intOf]; omega
        · have H1 := Lib.hid (putPiece_clash (out := done) (fun h => h.elim e1 e2) e3)
          go_wp2
          obtain ⟨B1, eB1, qB1, pB1⟩ := Try.cutText A1 xs.length c1 io k hio (by omega)
          have TB1 := Text.cut (R1.keep hb hwO) io k hio (by omega)
          rw [← eB1] at TB1
          change Rep wr 0 w.heap.size (encText (piece xs io k)) _ at TB1
          clear eB1
          obtain ⟨B2, eB2, qB2, pB2⟩ := Try.cutText A2 ys.length c2 ia ja hiq (by omega)
          have TB2 := Text.cut (R2.keep hb hwO) ia ja hiq (by omega)
          rw [← eB2] at TB2
          change Rep wr 0 w.heap.size (encText (piece ys ia ja)) _ at TB2
          clear eB2
          obtain ⟨B3, eB3, qB3, pB3⟩ := Try.cutText A3 zs.length c3 ib jb hir (by omega)
          have TB3 := Text.cut (R3.keep hb hwO) ib jb hir (by omega)
          rw [← eB3] at TB3
          change Rep wr 0 w.heap.size (encText (piece zs ib jb)) _ at TB3
          clear eB3
          go_quiet (fail)
          clear qB1 qB2 qB3 pB1 pB2 pB3
          go_wp2_with fail
          refine Calls.mono (slices_Equal_any _ _ _ _ _ _ (piece ys ia ja) (piece xs io k) _ 0 w.heap.size 0 w.heap.size (TB2.same (fun _ _ _ => rfl)) (TB1.same (fun _ _ _ => rfl))) ?_
          rw [decide_eq_false e1]
          rintro e _ ⟨rfl, _, rfl⟩
          go_wp2_with fail
          refine Calls.mono (slices_Equal_any _ _ _ _ _ _ (piece ys ia ja) (piece zs ib jb) _ 0 w.heap.size 0 w.heap.size (TB2.same (fun _ _ _ => rfl)) (TB3.same (fun _ _ _ => rfl))) ?_
          rw [decide_eq_false e2]
          rintro e _ ⟨rfl, _, rfl⟩
          go_wp2_with fail
          refine Calls.mono (slices_Equal_any _ _ _ _ _ _ (piece zs ib jb) (piece xs io k) _ 0 w.heap.size 0 w.heap.size (TB3.same (fun _ _ _ => rfl)) (TB1.same (fun _ _ _ => rfl))) ?_
          rw [decide_eq_false e3]
          rintro e _ ⟨rfl, _, rfl⟩
          go_wp2
          refine name_world ?_
          intro V hV
          have hhV : ∀ q : Nat, V.heap[q]? = wr.heap[q]? := by rw [hV]; exact fun _ => rfl
          have hzV : V.heap.size = wr.heap.size := by rw [hV]; rfl
          have hBV : PartsBox V Ob F done A n c := hB.heapEq V hhV
          have hbV : Below Ob WW V := hb.trans (by rw [hV]; exact ⟨rfl, rfl, rfl, Nat.le_refl _, fun _ _ => rfl⟩)
          have TV1 := TB1.same (w' := V) (fun q _ _ => hhV q)
          have TV2 := TB2.same (w' := V) (fun q _ _ => hhV q)
          have TV3 := TB3.same (w' := V) (fun q _ _ => hhV q)
          have cBV := cell_of_one hBV.1
          have hpl1 := piece_len xs io k
          have hpl2 := piece_len ys ia ja
          have hpl3 := piece_len zs ib jb
          have hOV : Ob < V.heap.size := lt_of_block hBV.1
          have hwV : w.heap.size ≤ V.heap.size := by omega
          obtain ⟨ip, pi0, pi1, pi2, pi3⟩ := info_parts Try.infoPart
          have hnF : n ≤ 1048576 := by
            obtain ⟨_, _, hn0, _⟩ := Parts.open_ hBV.2.1
            rw [hn0]; exact hfd.1
          clear hV TB1 TB2 TB3 hB hfd
          go_region_law (first
            | (go_simp; go_at_call 26; refine (impl_copyText_any B1 (k - io) (c1 - io) (piece xs io k) V.drew 0 w.heap.size (show Rep V.drew 0 w.heap.size (encText (piece xs io k)) _ from TV1.same (fun _ _ _ => rfl)) (show w.heap.size ≤ V.heap.size from hwV) (by omega)).mono ?_
               rintro e w5 ⟨A5, n5, c5, rfl, hb5, hf5⟩
               have cB5 : w5.cell? ⟨Ob, 0, none⟩ = some (.slice A n c) := (hb5.cell (p := ⟨Ob, 0, none⟩) (show Ob < V.heap.size from hOV)).trans cBV)
            | (go_simp; go_at_call 26; refine (impl_copyText_any B2 (ja - ia) (c2 - ia) (piece ys ia ja) w5 0 w.heap.size ((show Rep V.drew 0 w.heap.size (encText (piece ys ia ja)) _ from TV2.same (fun _ _ _ => rfl)).keep hb5 (show w.heap.size ≤ V.heap.size from hwV)) (Nat.le_trans (show w.heap.size ≤ V.heap.size from hwV) hb5.size) (by omega)).mono ?_
               rintro e w6 ⟨A6, n6, c6, rfl, hb6, hf6⟩
               have cB6 : w6.cell? ⟨Ob, 0, none⟩ = some (.slice A n c) := (hb6.cell (p := ⟨Ob, 0, none⟩) (Nat.lt_of_lt_of_le (show Ob < V.heap.size from hOV) hb5.size)).trans cB5)
            | (go_simp; go_at_call 26; refine (impl_copyText_any B3 (jb - ib) (c3 - ib) (piece zs ib jb) w6 0 w.heap.size (((show Rep V.drew 0 w.heap.size (encText (piece zs ib jb)) _ from TV3.same (fun _ _ _ => rfl)).keep hb5 (show w.heap.size ≤ V.heap.size from hwV)).keep hb6 (Nat.le_trans (show w.heap.size ≤ V.heap.size from hwV) hb5.size)) (Nat.le_trans (show w.heap.size ≤ V.heap.size from hwV) (Nat.le_trans hb5.size hb6.size)) (by omega)).mono ?_
               rintro e w7 ⟨A7, n7, c7, rfl, hb7, hf7⟩
               have cB7 : w7.cell? ⟨Ob, 0, none⟩ = some (.slice A n c) := (hb7.cell (p := ⟨Ob, 0, none⟩) (Nat.lt_of_lt_of_le (show Ob < V.heap.size from hOV) (Nat.le_trans hb5.size hb6.size))).trans cB6
               have cB7o := fun o => cell_alloc_old cB7 o
               have hb57 : Below V.heap.size V w7 := (show Below V.heap.size V w5 from ⟨hb5.os, hb5.tape, hb5.output, hb5.size, hb5.block⟩).trans ((hb6.trans (hb7.mono hb6.size)).mono hb5.size)
               have hB7 : PartsBox w7 Ob F done A n c := hBV.keep hb57
               obtain ⟨us, G, -, hrow, ho, hFe⟩ := Parts.open_ hB7.2.1)
            | (refine step_append_src _ (by rfl) (.tmp 68) (.tmp 76) _ (by rfl) 0 31 ip _ 5 104 Try.underlying28 pi0 pi1 pi2 pi3 (by rfl) (by omega) _ n us (by rfl) (hrow.alloc _) _ 1 1 [.bool true, .slice none 0 0, .slice A5 n5 c5, .slice A6 n6 c6, .slice A7 n7 c7] (by rfl) (Src.lit w7 31 [.bool true, .slice none 0 0, .slice A5 n5 c5, .slice A6 n6 c6, .slice A7 n7 c7] 5 1 rfl) (by intro u hu; simp at hu; rcases hu with rfl | rfl | rfl | rfl | rfl <;> rfl) (by unfold maxLen; omega) (by omega) (Nat.zero_le _) ?_
               intro A8 c8 w8 hown8 hg8 hat8
               change World.grownBy _ w8 (Value.slice A n c).ownBlock at hg8
               have hOv : some Ob ≠ (Value.slice A n c).ownBlock := fun e => hB7.2.2.2 (by rw [hFe]; exact List.mem_append_left _ (by simp [← e]))
               have h78 : w8.heap[Ob]? = some (.cells #[.slice A n c] 28 (0, 0)) := (hg8.block Ob (by simp; have := lt_of_block hB7.1; omega) hOv).trans ((Below.heap_alloc w7 _ Ob (by have := lt_of_block hB7.1; omega)).trans hB7.1)
               have cB8 := cell_of_one h78
               have fB8 := free_of_one h78))
          all_goals
            change _ = (Value.slice A n c).ownBlock ∨ _ at hat8
            have hb5' : Below V.heap.size V w5 := ⟨hb5.os, hb5.tape, hb5.output, hb5.size, hb5.block⟩
            have hf5' : Fresh w5 V.heap.size w5.heap.size (encText (piece xs io k)) (.slice A5 n5 c5) := hf5
            have hnew : FreshL w7 V.heap.size w7.heap.size (cParts (clashPart (piece xs io k) (piece ys ia ja) (piece zs ib jb))) [.bool true, .slice none 0 0, .slice A5 n5 c5, .slice A6 n6 c6, .slice A7 n7 c7] :=
              FreshL.plain ⟨rfl, rfl⟩ (FreshL.plain (own_noText _) (FreshL.cons (hf5'.keep (hb6.trans (hb7.mono hb6.size)) (Nat.le_refl _)) (FreshL.cons (hf6.keep hb7 (Nat.le_refl _)) hf7.one hb6.size hb7.size) hb5'.size (Nat.le_trans hb6.size hb7.size)))
            obtain ⟨F', ho', hn', hk'⟩ := hnew
            obtain ⟨F8, hO8, hN8, hF8'', hon8'⟩ := Parts.snoc hrow ho hFe hB7.2.2.1 ho' hn' (fun q hq m => by have := hk' q hq; have := Own.lt _ _ _ hBV.2.1 q m; omega) hown8 hg8 (by simpa using hat8)
            have hsz57 := hb57.size
            have hF8 : ∀ q ∈ F8, Ob < q := fun q hq => by
              rcases hF8'' q hq with m | m | m
              · exact hF q m
              · have := hk' q m; omega
              · omega
            obtain ⟨hB8, hon8⟩ := hB7.stored hO8 hN8 (fun m => by have := hF8 Ob m; omega) hon8'
            have hb8 : Below Ob WW (w8.setCell ⟨Ob, 0, none⟩ (.slice A8 (n + 1) c8)) := (hbV.trans (hb57.mono (by omega))).trans ⟨hon8.os, hon8.tape, hon8.output, hon8.size, fun q hq => hon8.block q (by omega) (fun m => by
              rcases List.mem_cons.1 m with e | m
              · omega
              · have := hF q m; omega)⟩
            have hs8 : w.heap.size ≤ (w8.setCell ⟨Ob, 0, none⟩ (.slice A8 (n + 1) c8)).heap.size := by have := hb8.size; omega
            clear hg8 hown8 hat8 h78 hrow ho ho' hn' hk' hO8 hN8 hon8 hon8' hF8'' hf5 hf5' hf6 hf7 hb5 hb5' hb6 hb7 hb57 cB5 cB6 cB7 cB8 fB8 cBV
            obtain ⟨W8, hW8⟩ : ∃ W8, W8 = w8.setCell ⟨Ob, 0, none⟩ (.slice A8 (n + 1) c8) := ⟨_, rfl⟩
            obtain ⟨n8, hn8⟩ : ∃ n8, n8 = n + 1 := ⟨_, rfl⟩
            rw [← hW8] at hb8 hB8 hs8 ⊢
            rw [← hn8] at hB8
            clear hn8 hW8
            have hfd1 := HP1.out.le (by omega)
            rw [H1.out] at hfd1
            have dj2 : W8.cell? ⟨b1, o1 + k, none⟩ = some (.int .i64 ja) := (hb8.cell (p := ⟨b1, o1 + k, none⟩) hbl1).trans dj0
            have dl2 : W8.cell? ⟨b2, o2 + k, none⟩ = some (.int .i64 jb) := (hb8.cell (p := ⟨b2, o2 + k, none⟩) hbl2).trans dl0
            have hsz2 := hb8.size
            by_cases hkx : k < xs.length
            · have hkx' : (k : Int) < (xs.length : Int) := by omega
              have hkk : (k : Int) ≤ (k : Int) + 1 := by omega
              have hkl : (k : Int) + 1 ≤ (xs.length : Int) := by omega
              obtain ⟨B4, eB4, qB4, pB4⟩ := Try.cutOne A1 xs.length c1 k hkx (by omega)
              have TB4 := Text.cut (R1.keep hb8 hwO) k (k + 1) (by omega) (by omega)
              rw [← eB4, show k + 1 - k = 1 by omega] at TB4
              have hpc : (xs.drop k).take 1 = piece xs k (k + 1) := by unfold piece; rw [show k + 1 - k = 1 by omega]
              rw [hpc] at TB4
              clear eB4 hpc
              go_wp2_with fail
              refine Calls.mono (impl_put_any (done ++ [clashPart (piece xs io k) (piece ys ia ja) (piece zs ib jb)]) (piece xs k (k + 1)) B4 _ 1 (c1 - k) _ _ Ob F8 _ 0 w.heap.size TB4 (by show w.heap.size ≤ W8.heap.size; omega) (hB8.heapEq _ fun _ => rfl) (fun q hq => .inr (by have := hF8 q hq; omega)) (.inr (by omega)) hfd1.1 (by have := piece_len xs k (k + 1); omega) hfd1.2) ?_
              rintro e W9 ⟨rfl, F9, A9, n9, c9, hB9, hF9', hon9⟩
              have hs9 : W8.heap.size ≤ W9.heap.size := hon9.size
              have hF9 : ∀ q ∈ F9, Ob < q := fun q hq => by
                rcases hF9' q hq with m | m
                · exact hF8 q m
                · have : W8.heap.size ≤ q := m
                  omega
              have hb9 : Below Ob WW W9 := hb8.trans (show Below Ob W8 W9 from ⟨hon9.os, hon9.tape, hon9.output, hs9, fun q hq => hon9.block q (by show q < W8.heap.size; omega) (fun m => by
                rcases List.mem_cons.1 m with e | m
                · omega
                · have := hF8 q m; omega)⟩)
              clear hon9 hF9'
              have dj3 : W9.cell? ⟨b1, o1 + k, none⟩ = some (.int .i64 ja) := (hb9.cell (p := ⟨b1, o1 + k, none⟩) hbl1).trans dj0
              have dl3 : W9.cell? ⟨b2, o2 + k, none⟩ = some (.int .i64 jb) := (hb9.cell (p := ⟨b2, o2 + k, none⟩) hbl2).trans dl0
              clear dj dl dj2 dl2 dj0 dl0 qB4 pB4
              go_wp2
              go_quiet (fail)
              go_wp2
              go_roundw
              case rel => exact ⟨k + 1, k + 1, ja + 1, jb + 1, putLines (done ++ [clashPart (piece xs io k) (piece ys ia ja) (piece zs ib jb)]) (piece xs k (k + 1)), F9, A9, n9, c9, by omega, by omega, by omega, by omega, by go_num, by go_num, by go_num, by go_num, HIn, HJn, Lib.hid (by have := Htn.out; unfold mergeAt at this; rw [H1.out] at this; exact this), Lib.hid (by have := fewAt HP1.out (ls := piece xs k (k + 1)) (by have := piece_len xs k (k + 1); omega); rw [H1.out] at this; exact this), hB9.heapEq _ fun _ => rfl, hF9, below_drewN hb9 _⟩
              case measure => simp [intOf]; omega
            · have hkx' : ¬ (k : Int) < (xs.length : Int) := by omega
              have hpn : piece xs k (k + 1) = [] := piece_none (by omega) _
              have Hpn := Lib.hid hpn
              clear dj dl dj0 dl0 hpn
              go_wp2
              go_quiet (fail)
              go_wp2
              go_roundw
              case rel => exact ⟨k + 1, k + 1, ja + 1, jb + 1, done ++ [clashPart (piece xs io k) (piece ys ia ja) (piece zs ib jb)], F8, A8, n8, c8, by omega, by omega, by omega, by omega, by go_num, by go_num, by go_num, by go_num, HIn, HJn, Lib.hid (by have := Htn.out; unfold mergeAt at this; rw [H1.out, Hpn.out, putLines_nil] at this; exact this), Lib.hid (by have := fewAt HP1.out (ls := []) (by simp); rw [H1.out, putLines_nil] at this; exact this), hB8.heapEq _ fun _ => rfl, hF8, below_drewN hb8 _⟩
              case measure => simp [intOf]; omega
    · obtain rfl : k = xs.length + 1 := by omega
      have cB := cell_of_one hB.1
      go_wp2
      go_ret
      have ht := ht.out
      rw [List.drop_of_length_le (by rw [Hpl.out]; omega), mergeFrom] at ht
      · subst ht
        exact ⟨_, _, _, rfl, Hbw.out.trans (hb.mono hwO), F, hB.2.1, hB.2.2.1, fun q hq => ⟨by have := hF q hq; omega, Own.lt _ _ _ hB.2.1 q hq⟩⟩
      · intro _ _ _ _ h; cases h
end Go.Proofs.Ytfigfpoklppkgaa
