import Derived.Test.YtenkceeicmfjhaaGreatDoorUnitePlain
import Derived.Test.YtenkceeicmfjhaaGreatDoorZ43
import Derived.Test.YtenkceeicmfjhaaGreatDoorBases2
import Derived.Test.YtenkceeicmfjhaaGreatDoorZ31
import Derived.Test.YtenkceeicmfjhaaGreatDoorZ30
import Derived.Deep.RegionHeld3
/- Walks: UniteTree, the reference's. -/
namespace Go.Proofs.YtenkceeicmfjhaaGreatDoor
open Go.RowKit

set_option maxRecDepth 100000 in
set_option maxHeartbeats 2000000 in
theorem spec_l9Base_any (r : PRepo) (A0 A1 : Option Addr) (n0 c0 n1 c1 : Nat) (w : World) (lo hi : Nat) (h0 : Rep w lo hi (encCommits r.commits) (.slice A0 n0 c0)) (hh : hi ≤ w.heap.size) (hok : repoOk r = true) (a b : Nat) (ha : a < r.commits.length) (hb : b < r.commits.length) :
    Calls Tryz.prog 18 #[.agg #[.slice A0 n0 c0, .slice A1 n1 c1], .int .i64 a, .int .i64 b] w fun e w' => ∃ A n c, e = .returned (.slice A n c) ∧ Below w.heap.size w w' ∧ Rep w' lo hi (encFiles (baseTree r a b)) (.slice A n c) := by
  have hl0 := Commits.n h0
  have hbx := fun o => (Below.refl w.heap.size w).alloc (Nat.le_refl _) o
  have cb := fun W (h : Rep W lo hi (encCommits r.commits) (.slice A0 n0 c0)) hW => spec_l8Bases_any r A0 A1 n0 c0 n1 c1 W lo hi h hW hok a b ha hb
  have h16 : r.commits.length ≤ 16 := (repoOk_iff.1 hok).1
  have hbl := basesOf_len r a b
  have Hin := Lib.hid (fun x => basesOf_in (r := r) (a := a) (b := b) (x := x))
  have Hnone := Lib.hid (baseTree_none (r := r) (a := a) (b := b))
  have Hlast := Lib.hid (fun m k => baseTree_last (r := r) (a := a) (b := b) (m := m) (k := k))
  obtain ⟨T, hT⟩ : ∃ T, T = baseTree r a b := ⟨_, rfl⟩
  change ∀ W (h : Rep W lo hi (encCommits r.commits) (.slice A0 n0 c0)) (hW : hi ≤ W.heap.size), Calls _ _ _ W fun e w' => ∃ A n c, e = .returned (.slice A n c) ∧ Below W.heap.size W w' ∧ Fresh w' W.heap.size w'.heap.size (encInts (basesOf r a b)) (.slice A n c) at cb
  obtain ⟨L, hL⟩ : ∃ L, L = basesOf r a b := ⟨_, rfl⟩
  rw [← hL] at cb hbl Hin Hnone Hlast
  rw [← hT] at Hnone Hlast ⊢
  have Hl0 := Lib.hid hl0
  clear hT hL ha hb hok hl0
  go_enter Tryz.func18, Tryz.ntmps18
  go_wp2_with fail
  refine Calls.mono (cb _ (h0.keep (hbx _) hh) (by simp; omega)) ?_
  rintro e w1 ⟨A3, n3, c3, rfl, hb1, hf⟩
  have q0 := box_two (a := w.heap.size) (j := 0) (v := .slice A0 n0 c0) hb1 (by simp [go_sem]) (Nat.le_refl _)
  have q1 := box_two (a := w.heap.size) (j := 1) (v := .slice A1 n1 c1) hb1 (by simp [go_sem]) (Nat.le_refl _)
  have hbw : Below w.heap.size w w1 := (hbx _).trans (hb1.mono (by simp))
  have hsz := hbw.size
  have hR : Rep w1 w.heap.size w1.heap.size (encInts L) (.slice A3 n3 c3) := (hf.mono (lo' := w.heap.size) (by simp) (Nat.le_refl _)).rep
  have hn3 := Ints.n hR
  obtain ⟨hc3, hm3⟩ := Ints.cap hR
  subst hn3
  clear hb1 hf cb
  cases L with
  | nil =>
    have Ht := Lib.hid (Hnone.out rfl)
    clear hR
    go_wp2
    go_ret
    exact ⟨none, 0, 0, rfl, hbw, by rw [Ht.out]; exact (Fresh.nil _ lo hi _ _).rep⟩
  | cons x0 L0 =>
    obtain ⟨L, hL⟩ : ∃ L, L = x0 :: L0 := ⟨_, rfl⟩
    obtain ⟨m, hm⟩ : ∃ m, L.length = m + 1 := ⟨L0.length, by rw [hL]; rfl⟩
    rw [← hL] at hR hbl Hin Hlast hc3 ⊢
    clear hL Hnone
    have hmn : m < L.length := by omega
    obtain ⟨b3, o3, x, rfl, hb3lo, hb3, hx, d3⟩ := Ints.at hR hmn
    obtain ⟨k, rfl, hk⟩ := Hin.out x (List.mem_of_getElem? hx)
    have Ht := Lib.hid (Hlast.out m k hm hx)
    have hk0 : k < n0 := by rw [Hl0.out]; exact hk
    have hk0' : (k : Int) < (n0 : Int) := by omega
    obtain ⟨b1, o1, y, rfl, _, hbhi, hy, B0, m0, e0, B2, m2, e2, g0, r0, g1, g2, r2⟩ := Commits.at (h0.keep hbw hh) hk0
    rw [← treeAtC_eq hy] at r2
    have Hr2 := Lib.hid r2
    have hsub : IntKind.i64.wrap ((L.length : Int) - 1) = (m : Int) := by rw [IntKind.wrap_i64]; omega
    have hne : ((L.length : Int) == 0) = false := by rw [beq_eq_false_iff_ne]; omega
    have hne2 : ¬ (L.length : Int) = 0 := by omega
    have hmi : (m : Int) < (L.length : Int) := by omega
    clear hx hk Hlast Hin hm hy g0 g1 r0 r2 hR
    go_wp2
    go_quiet (fail)
    go_wp2
    go_ret
    exact ⟨_, _, _, rfl, below_drewN hbw _, by rw [Ht.out]; exact Hr2.out.drewN _⟩

set_option maxRecDepth 100000 in
set_option maxHeartbeats 4000000 in
theorem spec_UniteTree_any (a b : Int) (r : PRepo) (A0 A1 : Option Addr) (n0 c0 n1 c1 : Nat) (w : World) (lo hi : Nat) (h0 : Rep w lo hi (encCommits r.commits) (.slice A0 n0 c0)) (h1 : Rep w lo hi (encHeads r.heads) (.slice A1 n1 c1)) (hh : hi ≤ w.heap.size) (hr : okRepoS r) :
    Calls Tryz.prog 5 #[.agg #[.slice A0 n0 c0, .slice A1 n1 c1], .int .i64 a, .int .i64 b] w fun e w' => ∃ A n c, e = .returned (.tuple #[.slice A n c, .bool (uniteTree r a b).isSome]) ∧ Below w.heap.size w w' ∧ Fresh w' w.heap.size w'.heap.size (encFiles ((uniteTree r a b).getD [])) (.slice A n c) := by
  have hc := fun w (h0 : Rep w lo hi (encCommits r.commits) (.slice A0 n0 c0)) (h1 : Rep w lo hi (encHeads r.heads) (.slice A1 n1 c1)) hh => spec_l7Ok_any r A0 A1 n0 c0 n1 c1 w lo hi h0 h1 hh hr
  have hl0 := Commits.n h0
  have h16 : n0 ≤ 1048576 := by rw [hl0]; exact hr.1
  have ca := fun W => spec_l1In_any a 0 ((n0 : Int) - 1) W
  have cb := fun W => spec_l1In_any b 0 ((n0 : Int) - 1) W
  have hbx := fun o => (Below.refl w.heap.size w).alloc (Nat.le_refl _) o
  have Hl0 := Lib.hid hl0
  obtain ⟨v, hv9⟩ : ∃ v, v = uniteTree r a b := ⟨_, rfl⟩
  rw [← hv9]
  have hB : uniteOk r a b = (repoOk r && (inRange a 0 ((n0 : Int) - 1) && inRange b 0 ((n0 : Int) - 1))) := by
    unfold uniteOk areIn
    rw [← hl0]
    simp
  clear hl0
  cases t1 : repoOk r
  all_goals rw [t1] at hc hB
  · have Hv := Lib.hid (show v = none by rw [hv9]; exact unite_no (by rw [hB]; rfl))
    clear t1 hB hv9
    go_enter Tryz.func5, Tryz.ntmps5
    go_wp2_with fail
    refine Calls.mono (hc _ (h0.keep (hbx _) hh) (h1.keep (hbx _) hh) (by simp; omega)) ?_
    rintro e w1 ⟨rfl, hb1⟩
    have hbw : Below w.heap.size w w1 := (hbx _).trans (hb1.mono (by simp))
    clear hb1
    go_wp2
    go_ret2
    exact ⟨none, 0, 0, by rw [Hv.out]; rfl, hbw, by rw [Hv.out]; exact Fresh.nil _ _ _ _ _⟩
  · cases t2 : inRange a 0 ((n0 : Int) - 1)
    all_goals rw [t2] at ca hB
    · have Hv := Lib.hid (show v = none by rw [hv9]; exact unite_no (by rw [hB]; rfl))
      clear t1 t2 hB hv9
      go_enter Tryz.func5, Tryz.ntmps5
      go_wp2_with fail
      refine Calls.mono (hc _ (h0.keep (hbx _) hh) (h1.keep (hbx _) hh) (by simp; omega)) ?_
      rintro e w1 ⟨rfl, hb1⟩
      have q0 := box_two (a := w.heap.size) (j := 0) (v := .slice A0 n0 c0) hb1 (by simp [go_sem]) (Nat.le_refl _)
      have hbw : Below w.heap.size w w1 := (hbx _).trans (hb1.mono (by simp))
      clear hb1
      go_wp2_with fail
      refine Calls.mono (ca _) ?_
      rintro e w2 ⟨rfl, rfl⟩
      go_wp2
      go_ret2
      exact ⟨none, 0, 0, by rw [Hv.out]; rfl, hbw, by rw [Hv.out]; exact Fresh.nil _ _ _ _ _⟩
    · cases t3 : inRange b 0 ((n0 : Int) - 1)
      all_goals rw [t3] at cb hB
      · have Hv := Lib.hid (show v = none by rw [hv9]; exact unite_no (by rw [hB]; rfl))
        clear t1 t2 t3 hB hv9
        go_enter Tryz.func5, Tryz.ntmps5
        go_wp2_with fail
        refine Calls.mono (hc _ (h0.keep (hbx _) hh) (h1.keep (hbx _) hh) (by simp; omega)) ?_
        rintro e w1 ⟨rfl, hb1⟩
        have q0 := box_two (a := w.heap.size) (j := 0) (v := .slice A0 n0 c0) hb1 (by simp [go_sem]) (Nat.le_refl _)
        have hbw : Below w.heap.size w w1 := (hbx _).trans (hb1.mono (by simp))
        clear hb1
        go_wp2_with fail
        refine Calls.mono (ca _) ?_
        rintro e w2 ⟨rfl, rfl⟩
        go_wp2_with fail
        refine Calls.mono (cb _) ?_
        rintro e w2 ⟨rfl, rfl⟩
        go_wp2
        go_ret2
        exact ⟨none, 0, 0, by rw [Hv.out]; rfl, hbw, by rw [Hv.out]; exact Fresh.nil _ _ _ _ _⟩
      · obtain ⟨ka, rfl, hka⟩ := inRange_nat t2
        obtain ⟨kb, rfl, hkb⟩ := inRange_nat t3
        have hka' : ka < r.commits.length := by rw [← Hl0.out]; exact hka
        have hkb' : kb < r.commits.length := by rw [← Hl0.out]; exact hkb
        have ob := baseTree_ok (a := ka) (b := kb) t1
        have oa := treeAtC_ok t1 hka'
        have oc := treeAtC_ok t1 hkb'
        have hv10 : v = if (joinPair (baseTree r ka kb) (treeAtC r.commits ka) (treeAtC r.commits kb)).2.isEmpty = true then some (joinPair (baseTree r ka kb) (treeAtC r.commits ka) (treeAtC r.commits kb)).1 else none := by
          rw [hv9, unite_yes (by rw [hB]; rfl), joinTree_ok (by unfold trees3; rw [ob, oa, oc]; rfl)]
        have hbase := fun W (h : Rep W lo hi (encCommits r.commits) (.slice A0 n0 c0)) hW => spec_l9Base_any r A0 A1 n0 c0 n1 c1 W lo hi h hW t1 ka kb hka' hkb'
        have hj := fun X Y Z n c n' c' n'' c'' W hX hY hZ hW1 hW2 hW3 => spec_l6Join_any X Y Z n c n' c' n'' c'' (baseTree r ka kb) (treeAtC r.commits ka) (treeAtC r.commits kb) W lo hi lo hi lo hi hX hY hZ hW1 hW2 hW3 ob oa oc (okTree_base hr ka kb) (okTree_at hr ka) (okTree_at hr kb)
        have Hjok := Lib.hid (joinPair_ok (xs := baseTree r ka kb) (ys := treeAtC r.commits ka) (zs := treeAtC r.commits kb))
        obtain ⟨jp, hjp⟩ : ∃ jp, jp = joinPair (baseTree r ka kb) (treeAtC r.commits ka) (treeAtC r.commits kb) := ⟨_, rfl⟩
        rw [← hjp] at hv10 hj Hjok
        have Hv := Lib.hid hv10
        obtain ⟨T, hT⟩ : ∃ T, T = baseTree r ka kb := ⟨_, rfl⟩
        rw [← hT] at hbase hj
        obtain ⟨out, bad⟩ := jp
        dsimp only at hj Hv Hjok
        have hka2 : (ka : Int) < (n0 : Int) := by omega
        have hkb2 : (kb : Int) < (n0 : Int) := by omega
        clear t1 t2 t3 hB hv9 hv10 hjp hT ob oa oc hka' hkb'
        go_enter Tryz.func5, Tryz.ntmps5
        go_wp2_with fail
        refine Calls.mono (hc _ (h0.keep (hbx _) hh) (h1.keep (hbx _) hh) (by simp; omega)) ?_
        rintro e w1 ⟨rfl, hb1⟩
        have q0 := box_two (a := w.heap.size) (j := 0) (v := .slice A0 n0 c0) hb1 (by simp [go_sem]) (Nat.le_refl _)
        have q1 := box_two (a := w.heap.size) (j := 1) (v := .slice A1 n1 c1) hb1 (by simp [go_sem]) (Nat.le_refl _)
        have hbw : Below w.heap.size w w1 := (hbx _).trans (hb1.mono (by simp))
        have hsz := hbw.size
        have hs1 : w.heap.size < w1.heap.size := by have := hb1.size; simp at this; omega
        clear hb1
        go_wp2_with fail
        refine Calls.mono (ca _) ?_
        rintro e w2 ⟨rfl, rfl⟩
        go_wp2_with fail
        refine Calls.mono (cb _) ?_
        rintro e w2 ⟨rfl, rfl⟩
        clear ca cb hc
        have hRc := h0.keep hbw hh
        have hhW : hi ≤ w1.heap.size := by omega
        obtain ⟨b1, o1, y, rfl, _, hbhi, hy, B0, m0, e0, B2, m2, e2, g0, r0, g1, g2, r2⟩ := Commits.at hRc hka
        obtain ⟨b1', o1', y', hbb, _, _, hy', B0', m0', e0', B4, m4, e4, g0', r0', g1', g4, r4⟩ := Commits.at hRc hkb
        obtain ⟨rfl, rfl⟩ : b1 = b1' ∧ o1 = o1' := by
          have h9 := Option.some.inj hbb
          exact ⟨congrArg Addr.block h9, congrArg Addr.off h9⟩
        rw [← treeAtC_eq hy] at r2
        rw [← treeAtC_eq hy'] at r4
        have hb1w : b1 < w1.heap.size := by omega
        clear hy hy' g0 g1 r0 g0' g1' r0' hbb
        go_wp2
        go_region_held3 (fun w' => (w'.cell? ⟨w.heap.size, 0, none⟩ = some (.slice (some ⟨b1, o1, none⟩) n0 c0) ∧ w'.cell? ⟨w.heap.size, 1, none⟩ = some (.slice A1 n1 c1)) ∧ w'.cell? ⟨b1, o1 + ka * 3 + 2, none⟩ = some (.slice B2 m2 e2) ∧ w'.cell? ⟨b1, o1 + kb * 3 + 2, none⟩ = some (.slice B4 m4 e4)) (first | (with_reducible trivial) | (with_reducible exact ⟨⟨q0, q1⟩, g2, g4⟩) | (with_reducible exact x5) | (with_reducible exact x8) | go_keep) (first
          | (go_at_call 17; refine (hj A5 B2 B4 n5 c5 m2 e2 m4 e4 w5 hr5 (r2.keep hb5' hhW) (r4.keep hb5' hhW) hh5 hh5 hh5).mono ?_
             rintro e w8 ⟨A8, n8, c8, A9, n9, c9, rfl, hb8, hf8⟩
             have hb8' : Below w1.heap.size w1 w8 := hb5'.trans (hb8.mono hb5'.size)
             have x8 := (⟨⟨(hb8'.cell (p := ⟨w.heap.size, 0, none⟩) hs1).trans q0, (hb8'.cell (p := ⟨w.heap.size, 1, none⟩) hs1).trans q1⟩, (hb8'.cell (p := ⟨b1, o1 + ka * 3 + 2, none⟩) hb1w).trans g2, (hb8'.cell (p := ⟨b1, o1 + kb * 3 + 2, none⟩) hb1w).trans g4⟩ : (w8.cell? ⟨w.heap.size, 0, none⟩ = some (.slice (some ⟨b1, o1, none⟩) n0 c0) ∧ w8.cell? ⟨w.heap.size, 1, none⟩ = some (.slice A1 n1 c1)) ∧ w8.cell? ⟨b1, o1 + ka * 3 + 2, none⟩ = some (.slice B2 m2 e2) ∧ w8.cell? ⟨b1, o1 + kb * 3 + 2, none⟩ = some (.slice B4 m4 e4)))
          | (go_at_call 18; refine (hbase w1.drew (show Rep w1.drew lo hi _ (.slice (some ⟨b1, o1, none⟩) n0 c0) from hRc.drewN 1) (show hi ≤ w1.heap.size from hhW)).mono ?_
             rintro e w5 ⟨A5, n5, c5, rfl, hb5, hr5⟩
             have hb5' : Below w1.heap.size w1 w5 := ⟨hb5.os, hb5.tape, hb5.output, hb5.size, hb5.block⟩
             have hh5 : hi ≤ w5.heap.size := Nat.le_trans hhW hb5'.size
             have x5 := (⟨⟨(hb5'.cell (p := ⟨w.heap.size, 0, none⟩) hs1).trans q0, (hb5'.cell (p := ⟨w.heap.size, 1, none⟩) hs1).trans q1⟩, (hb5'.cell (p := ⟨b1, o1 + ka * 3 + 2, none⟩) hb1w).trans g2, (hb5'.cell (p := ⟨b1, o1 + kb * 3 + 2, none⟩) hb1w).trans g4⟩ : (w5.cell? ⟨w.heap.size, 0, none⟩ = some (.slice (some ⟨b1, o1, none⟩) n0 c0) ∧ w5.cell? ⟨w.heap.size, 1, none⟩ = some (.slice A1 n1 c1)) ∧ w5.cell? ⟨b1, o1 + ka * 3 + 2, none⟩ = some (.slice B2 m2 e2) ∧ w5.cell? ⟨b1, o1 + kb * 3 + 2, none⟩ = some (.slice B4 m4 e4))))
        have hn9 := Clashs.n hf8.swap.fst.rep
        subst hn9
        have hbz := hbw.trans (hb8'.mono hsz)
        have hf9 := hf8.fst
        have hsz8 := hb8'.size
        have hsz5 := hb5'.size
        clear hf8 hb8 hb8' x8 x5 hr5 hb5 hb5' r2 r4 g2 g4 hj hbase q0 q1
        cases bad with
        | nil =>
          have Hv2 := Lib.hid (show v = some out from Hv.out)
          have hcp := spec_l4Copy_any A8 n8 c8 out w8 _ _ hf9.rep (Nat.le_refl _) (smallTree_ok (Hjok.out rfl))
          clear hf9
          go_wp2_with fail
          refine Calls.mono hcp ?_
          rintro e w9 ⟨A9', n9', c9', rfl, hb9, hf9⟩
          have Hf9 := Lib.hid (hf9.mono (lo' := w.heap.size) (by omega) (Nat.le_refl _))
          have hbu := hbz.trans (hb9.mono hbz.size)
          clear hf9 hb9
          go_wp2
          go_ret2
          exact ⟨_, _, _, by rw [Hv2.out]; rfl, hbu, by rw [Hv2.out]; exact Hf9.out⟩
        | cons b0 bad =>
          have Hvk := Lib.hid (show v = none from Hv.out)
          have hpos : (0 : Int) < ((b0 :: bad).length : Int) := by simp only [List.length_cons]; omega
          obtain ⟨bl, hbl⟩ : ∃ bl, bl = (b0 :: bad).length := ⟨_, rfl⟩
          rw [← hbl] at hpos ⊢
          clear hbl hf9
          go_wp2
          go_ret2
          exact ⟨none, 0, 0, by rw [Hvk.out]; rfl, hbz, by rw [Hvk.out]; exact Fresh.nil _ _ _ _ _⟩
end Go.Proofs.YtenkceeicmfjhaaGreatDoor
