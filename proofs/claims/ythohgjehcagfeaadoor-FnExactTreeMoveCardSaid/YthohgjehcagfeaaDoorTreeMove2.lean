/- Walk: TreeMove: the reference's. -/
import Derived.Test.YthohgjehcagfeaaDoorTreeMove
namespace Go.Proofs.YthohgjehcagfeaaDoor
open Go.RowKit

theorem atOr_or (f p : Str) : atOr f p = (decide (f = p) || below p f) := rfl

set_option maxRecDepth 100000 in
set_option maxHeartbeats 1600000 in
theorem spec_TreeMove_any (A : Option Addr) (n c : Nat) (xs : List PFile) (s t : Str) (w : World) (lo hi : Nat) (h1 : Rep w lo hi (encFiles xs) (.slice A n c)) (hh1 : hi ≤ w.heap.size) (ht1 : okTree xs) (hz1 : szFiles xs ≤ 1048576) (hl2 : s.length ≤ 1048576) (hl3 : t.length ≤ 1048576) :
    Calls Tryd.prog 16 #[.slice A n c, .string ⟨s.toArray⟩, .string ⟨t.toArray⟩] w fun e w' => ∃ A n c, e = .returned (.tuple #[.slice A n c, .bool (treeMoveB xs s t)]) ∧ Below w.heap.size w w' ∧ Rep w' w.heap.size w'.heap.size (encFiles (treeMove xs s t)) (.slice A n c) := by
  have hcOk := spec_l4Ok_any A n c xs w lo hi h1 hh1 ht1
  have hln := Files.n h1
  subst hln
  obtain ⟨hc, hm⟩ := Files.cap h1
  cases ho : treeOk xs
  · have hv : treeMove xs s t = [] := by unfold treeMove; rw [ho]; rfl
    have hv2 : treeMoveB xs s t = false := by unfold treeMoveB; rw [ho]; rfl
    rw [hv, hv2]
    rw [ho] at hcOk
    clear hv hv2 ho
    go_enter Tryd.func16, Tryd.ntmps16
    go_wp2_with fail
    refine Calls.mono hcOk ?_
    rintro e w1 ⟨rfl, hb1⟩
    go_wp2
    go_ret2
    exact ⟨_, _, _, rfl, hb1, Rep.of_nil _ _ _ _ _⟩
  · have hsm := smallTree_ok ho
    have hx8 := hsm.1
    have hasc := ascT_of ho
    rw [ho] at hcOk
    have hBdef : treeMoveB xs s t = (decide ((restF xs s).length ≠ xs.length) && pathOk t && treeOk (moveF xs s t) && decide ((moveF xs s t).length = xs.length)) := by unfold treeMoveB; rw [ho]; rfl
    have HB := Lib.hid hBdef
    have Ho := Lib.hid ho
    have Hasc := Lib.hid hasc
    have Hok := Lib.hid ht1
    have Hsm := Lib.hid hsm
    have Hz := Lib.hid hz1
    have hdrop : xs.filter (fun f => !atOr f.path s) = restF xs s := rfl
    have hrl : (restF xs s).length ≤ xs.length := by rw [← hdrop]; exact List.length_filter_le _ _
    have Hdrop := Lib.hid hdrop
    have hpo := fun w => spec_l4Path_any t w (by omega)
    obtain ⟨R, hR0⟩ : ∃ R, R = restF xs s := ⟨_, rfl⟩
    rw [← hR0] at hrl
    have HR0 := Lib.hid hR0
    clear ho hasc ht1 hsm hz1 hBdef hdrop hR0
    go_enter Tryd.func16, Tryd.ntmps16
    go_wp2_with fail
    refine Calls.mono hcOk ?_
    rintro e w1 ⟨rfl, hb1⟩
    have hs1 := hb1.size
    clear hcOk
    go_wp2_with fail
    refine Calls.mono (spec_l4Copy_any _ _ _ xs w1 lo hi (h1.keep hb1 hh1) (by omega) Hsm.out) ?_
    rintro e w2 ⟨A2, n2, c2, rfl, hb2, hf2⟩
    have hs2 := hb2.size
    go_wp2_with fail
    refine Calls.mono (spec_l4Drop_any _ _ _ xs s w2 _ _ hf2.rep hs2 (Nat.le_refl _) hx8) ?_
    rintro e w3 ⟨A3, n3, c3, rfl, hb3, hr3⟩
    have hs3 := hb3.size
    rw [Hdrop.out, ← HR0.out] at hr3
    have hn3 := Files.n hr3
    subst hn3
    have hbw3 : Below w.heap.size w w3 := hb1.trans ((hb2.trans (hb3.mono hs2)).mono hs1)
    have hs03 := hbw3.size
    have Hr3 := Lib.hid (hr3.mono (lo' := w.heap.size) (by omega) (Nat.le_refl _))
    clear hr3 hf2
    by_cases hrx : R.length = xs.length
    · have hno : treeMoveB xs s t = false := by rw [HB.out, ← HR0.out, hrx]; simp
      have Hno := Lib.hid hno
      have hq1 : ((R.length : Int) == (xs.length : Int)) = true := by simp [hrx]
      have hq2 : (R.length : Int) = (xs.length : Int) := by omega
      clear hno hrx
      go_wp2_with fail
      refine Calls.mono (spec_l4Copy_any _ _ _ xs w3 lo hi (h1.keep hbw3 hh1) (by omega) Hsm.out) ?_
      rintro e w5 ⟨A5, n5, c5, rfl, hb5, hf5⟩
      go_wp2
      go_ret2
      exact ⟨_, _, _, by rw [Hno.out]; rfl, hbw3.trans (hb5.mono (by omega)), by rw [treeMove_no Ho.out Hno.out]; exact hf5.rep.mono (by omega) (Nat.le_refl _)⟩
    · have hq1 : ((R.length : Int) == (xs.length : Int)) = false := by simp; omega
      have hq2 : ¬ (R.length : Int) = (xs.length : Int) := by omega
      cases hpt : pathOk t
      · have hno : treeMoveB xs s t = false := by rw [HB.out, hpt]; simp
        have Hno := Lib.hid hno
        rw [hpt] at hpo
        clear hno hrx hpt
        go_wp2_with fail
        refine Calls.mono (hpo _) ?_
        rintro e w4 ⟨rfl, hb4⟩
        have hs4 := hb4.size
        have hbw4 := hbw3.trans (hb4.mono (by omega))
        go_wp2_with fail
        refine Calls.mono (spec_l4Copy_any _ _ _ xs w4 lo hi (h1.keep hbw4 hh1) (by omega) Hsm.out) ?_
        rintro e w5 ⟨A5, n5, c5, rfl, hb5, hf5⟩
        go_wp2
        go_ret2
        exact ⟨_, _, _, by rw [Hno.out]; rfl, hbw4.trans (hb5.mono (by omega)), by rw [treeMove_no Ho.out Hno.out]; exact hf5.rep.mono (by omega) (Nat.le_refl _)⟩
      · have hB2 : treeMoveB xs s t = (treeOk (moveF xs s t) && decide ((moveF xs s t).length = xs.length)) := by
          rw [HB.out, hpt, ← HR0.out, show decide (R.length ≠ xs.length) = true by simp; omega]; simp
        have HB2 := Lib.hid hB2
        rw [hpt] at hpo
        clear hB2 hrx hpt
        go_wp2_with fail
        refine Calls.mono (hpo _) ?_
        rintro e w4 ⟨rfl, hb4⟩
        have hs4 := hb4.size
        have hbw4 := hbw3.trans (hb4.mono (by omega))
        have Hr4 := Lib.hid ((Hr3.out.keep hb4 (Nat.le_refl _)).mono (Nat.le_refl _) hs4)
        have hR := h1.keep hbw4 hh1
        have hhr4 : hi ≤ w4.heap.size := by omega
        clear hb3 hb2 hpo
        obtain ⟨w3', rfl⟩ : ∃ w3' : World, w3' = w3 := ⟨_, rfl⟩
        go_wp2
        go_loopw [8, 10] (fun o i wr => ∃ (k : Nat) (A' : Option Addr) (n' c' : Nat), k ≤ xs.length ∧ i = .int .i64 k ∧ o = .slice A' n' c' ∧ Rep wr w.heap.size wr.heap.size (encFiles (moveK xs s t k)) (.slice A' n' c') ∧ Below w4.heap.size w4 wr) (fun _ i _ => xs.length - (intOf i).toNat)
        case atStart => exact ⟨0, A3, _, c3, Nat.zero_le _, rfl, rfl, by rw [moveK_zero, ← HR0.out]; exact Hr4.out, Below.refl _ _⟩
        case round =>
          clear Hr4
          obtain ⟨k, A', n', c', hk, rfl, rfl, hr, hb⟩ := hrel
          obtain ⟨w3, rfl⟩ : ∃ w3 : World, w3 = w4 := ⟨_, rfl⟩
          have hsz := hb.size
          have hn' := Files.n hr
          subst hn'
          by_cases hkn : k < xs.length
          · have hkn' : (k : Int) < (xs.length : Int) := by omega
            obtain ⟨b1, o1, x, rfl, _, hbhi, hx, Ax, nx, cx, d0, d1, r1⟩ := Files.at (hR.keep hb hhr4) hkn
            obtain ⟨sx1, sx2⟩ := Hok.out x (List.mem_of_getElem? hx)
            have hxt := Hsm.out.2 x (List.mem_of_getElem? hx)
            have hnx := Text.n r1
            subst hnx
            have hmn : moveK xs s t (k + 1) = if atOr x.path s then setF (moveK xs s t k) (movedF s t x) else moveK xs s t k := moveK_next hx
            have hcall := fun w => spec_l4In_any s x.path w
            have hwl : w.heap.size ≤ wr.heap.size := by omega
            have hhr : hi ≤ wr.heap.size := by omega
            have hb1lt : b1 < wr.heap.size := by omega
            obtain ⟨wo, rfl⟩ : ∃ wo : World, wo = wr := ⟨_, rfl⟩
            clear hx sx2
            by_cases he : x.path = s
            · have hb1 : (x.path == s) = true := by simp [he]
              have ta : atOr x.path s = true := by simp [atOr, he]
              clear he
              have hcut := Tryd.cutStrFrom x.path s.length (atOr_len ta)
              have happ := bytes_app t (x.path.drop s.length)
              have hlen9 : ¬ (9223372036854775807 < List.length t + (List.length x.path - List.length s)) := by omega
              have hmn2 : moveK xs s t (k + 1) = setF (moveK xs s t k) (movedF s t x) := by rw [hmn, ta]; rfl
              have Hmn := Lib.hid hmn2
              have Hr := Lib.hid hr
              have Hrx := Lib.hid r1
              have hkl8 : (moveK xs s t k).length ≤ 1000000 := Nat.le_trans (moveK_len Hasc.out _ _ _) hx8
              clear hmn hmn2 hr r1 ta
              go_wp2
              go_region_held3 (fun w' => w'.cell? ⟨b1, o1 + k * 2, none⟩ = some (.string ⟨x.path.toArray⟩) ∧ w'.cell? ⟨b1, o1 + k * 2 + 1, none⟩ = some (.slice Ax x.text.length cx)) (first | trivial | exact ⟨cw0, cw1⟩ | go_keep) (first
                | (go_at_call 20; refine (spec_l4Set_any _ _ _ _ _ _ (moveK xs s t k) (movedF s t x) wo.drew w.heap.size wo.heap.size lo hi (show Rep wo.drew _ _ _ _ from Hr.out.drewN 1) (show Rep wo.drew _ _ _ _ from Hrx.out.drewN 1) hwl (Nat.le_refl _) hhr hkl8 hxt).mono ?_
                   rintro e w4 ⟨A4, n4, c4, rfl, hb4, hr4⟩
                   have hb4 : Below wo.heap.size wo w4 := ⟨hb4.os, hb4.tape, hb4.output, hb4.size, hb4.block⟩
                   have cw0 : w4.cell? ⟨b1, o1 + k * 2, none⟩ = some (.string ⟨x.path.toArray⟩) := (hb4.cell (p := ⟨b1, o1 + k * 2, none⟩) hb1lt).trans d0
                   have cw1 : w4.cell? ⟨b1, o1 + k * 2 + 1, none⟩ = some (.slice Ax x.text.length cx) := (hb4.cell (p := ⟨b1, o1 + k * 2 + 1, none⟩) hb1lt).trans d1))
              rw [← Hmn.out] at hr4
              have Hr4 := Lib.hid hr4
              have hb34 : Below w3.heap.size w3 w4 := hb.trans (hb4.mono hsz)
              clear hr4 cw0 cw1
              go_wp2
              go_roundw
              case rel => exact ⟨k + 1, A4, _, c4, by omega, by go_num, rfl, Hr4.out, hb34⟩
              case measure => simp [intOf]; omega
            · have hb1 : (x.path == s) = false := by simp [he]
              have hst : atOr x.path s = below s x.path := by unfold atOr; rw [decide_eq_false he]; rfl
              cases tb : below s x.path
              · rw [tb] at hcall hst
                rw [hst] at hmn
                have Hmn := Lib.hid hmn
                have Hr := Lib.hid hr
                clear he hst hmn hr r1 tb
                go_wp2_with fail
                refine Calls.mono (hcall _) ?_
                rintro e w' ⟨rfl, rfl⟩
                go_wp2
                go_roundw
                case rel => exact ⟨k + 1, A', _, c', by omega, by go_num, rfl, by rw [Hmn.out]; exact Hr.out, hb⟩
                case measure => simp [intOf]; omega
              · rw [tb] at hcall hst
                have ta := hst
                clear he hst tb
                have hcut := Tryd.cutStrFrom x.path s.length (atOr_len ta)
                have happ := bytes_app t (x.path.drop s.length)
                have hlen9 : ¬ (9223372036854775807 < List.length t + (List.length x.path - List.length s)) := by omega
                have hmn2 : moveK xs s t (k + 1) = setF (moveK xs s t k) (movedF s t x) := by rw [hmn, ta]; rfl
                have Hmn := Lib.hid hmn2
                have Hr := Lib.hid hr
                have Hrx := Lib.hid r1
                have hkl8 : (moveK xs s t k).length ≤ 1000000 := Nat.le_trans (moveK_len Hasc.out _ _ _) hx8
                clear hmn hmn2 hr r1 ta
                go_wp2_with fail
                refine Calls.mono (hcall _) ?_
                rintro e w' ⟨rfl, rfl⟩
                go_wp2
                go_region_held3 (fun w' => w'.cell? ⟨b1, o1 + k * 2, none⟩ = some (.string ⟨x.path.toArray⟩) ∧ w'.cell? ⟨b1, o1 + k * 2 + 1, none⟩ = some (.slice Ax x.text.length cx)) (first | trivial | exact ⟨cw0, cw1⟩ | go_keep) (first
                  | (go_at_call 20; refine (spec_l4Set_any _ _ _ _ _ _ (moveK xs s t k) (movedF s t x) wo.drew w.heap.size wo.heap.size lo hi (show Rep wo.drew _ _ _ _ from Hr.out.drewN 1) (show Rep wo.drew _ _ _ _ from Hrx.out.drewN 1) hwl (Nat.le_refl _) hhr hkl8 hxt).mono ?_
                     rintro e w4 ⟨A4, n4, c4, rfl, hb4, hr4⟩
                     have hb4 : Below wo.heap.size wo w4 := ⟨hb4.os, hb4.tape, hb4.output, hb4.size, hb4.block⟩
                     have cw0 : w4.cell? ⟨b1, o1 + k * 2, none⟩ = some (.string ⟨x.path.toArray⟩) := (hb4.cell (p := ⟨b1, o1 + k * 2, none⟩) hb1lt).trans d0
                     have cw1 : w4.cell? ⟨b1, o1 + k * 2 + 1, none⟩ = some (.slice Ax x.text.length cx) := (hb4.cell (p := ⟨b1, o1 + k * 2 + 1, none⟩) hb1lt).trans d1))
                rw [← Hmn.out] at hr4
                have Hr4 := Lib.hid hr4
                have hb34 : Below w3.heap.size w3 w4 := hb.trans (hb4.mono hsz)
                clear hr4 cw0 cw1
                go_wp2
                go_roundw
                case rel => exact ⟨k + 1, A4, _, c4, by omega, by go_num, rfl, Hr4.out, hb34⟩
                case measure => simp [intOf]; omega
          · obtain rfl : k = xs.length := by omega
            rw [moveK_all] at hr
            have hbw : Below w.heap.size w wr := hbw4.trans (hb.mono (by omega))
            have hso := hbw.size
            have hok2 : okTree (moveF xs s t) := by rw [← moveK_all]; exact moveK_ok Hok.out Hz.out hl3
            have hcOk := spec_l4Ok_any _ _ _ (moveF xs s t) wr _ _ hr (Nat.le_refl _) hok2
            try rw [moveK_all]
            obtain ⟨wo, rfl⟩ : ∃ wo : World, wo = wr := ⟨_, rfl⟩
            obtain ⟨M, hM⟩ : ∃ M, M = moveF xs s t := ⟨_, rfl⟩
            rw [← hM] at hr hcOk ⊢
            have HM := Lib.hid hM
            have Hr := Lib.hid hr
            clear hr hok2 hM
            cases hv : treeOk M
            · have hno : treeMoveB xs s t = false := by rw [HB2.out, ← HM.out, hv]; rfl
              have Hno := Lib.hid hno
              rw [hv] at hcOk
              clear hno hv
              go_wp2_with fail
              refine Calls.mono hcOk ?_
              rintro e w5 ⟨rfl, hb5⟩
              have hs5 := hb5.size
              have hbw5 := hbw.trans (hb5.mono (by omega))
              go_wp2_with fail
              refine Calls.mono (spec_l4Copy_any _ _ _ xs w5 lo hi (h1.keep hbw5 hh1) (by omega) Hsm.out) ?_
              rintro e w6 ⟨A6, n6, c6, rfl, hb6, hf6⟩
              go_wp2
              go_ret2
              exact ⟨_, _, _, by rw [Hno.out]; rfl, hbw5.trans (hb6.mono (by omega)), by rw [treeMove_no Ho.out Hno.out]; exact hf6.rep.mono (by omega) (Nat.le_refl _)⟩
            · rw [hv] at hcOk
              by_cases hll : M.length = xs.length
              · have hyes : treeMoveB xs s t = true := by rw [HB2.out, ← HM.out, hv, hll]; simp
                have Hyes := Lib.hid hyes
                have hq3 : ((M.length : Int) == (xs.length : Int)) = true := by simp [hll]
                have hq4 : (M.length : Int) = (xs.length : Int) := by omega
                clear hyes hv hll
                go_wp2_with fail
                refine Calls.mono hcOk ?_
                rintro e w5 ⟨rfl, hb5⟩
                have hs5 := hb5.size
                go_wp2
                go_ret2
                refine ⟨_, _, _, by rw [Hyes.out]; rfl, hbw.trans (hb5.mono (by omega)), ?_⟩
                rw [treeMove_yes Ho.out Hyes.out, ← HM.out]
                exact (Hr.out.keep hb5 (Nat.le_refl _)).mono (Nat.le_refl _) hs5
              · have hno : treeMoveB xs s t = false := by rw [HB2.out, ← HM.out, hv, decide_eq_false hll]; rfl
                have Hno := Lib.hid hno
                have hq3 : ((M.length : Int) == (xs.length : Int)) = false := by simp; omega
                have hq4 : ¬ (M.length : Int) = (xs.length : Int) := by omega
                clear hno hv hll
                go_wp2_with fail
                refine Calls.mono hcOk ?_
                rintro e w5 ⟨rfl, hb5⟩
                have hs5 := hb5.size
                have hbw5 := hbw.trans (hb5.mono (by omega))
                go_wp2_with fail
                refine Calls.mono (spec_l4Copy_any _ _ _ xs w5 lo hi (h1.keep hbw5 hh1) (by omega) Hsm.out) ?_
                rintro e w6 ⟨A6, n6, c6, rfl, hb6, hf6⟩
                go_wp2
                go_ret2
                exact ⟨_, _, _, by rw [Hno.out]; rfl, hbw5.trans (hb6.mono (by omega)), by rw [treeMove_no Ho.out Hno.out]; exact hf6.rep.mono (by omega) (Nat.le_refl _)⟩
end Go.Proofs.YthohgjehcagfeaaDoor
