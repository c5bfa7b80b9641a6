/- Walk: TreeMove: the program's. -/
import Derived.Test.YthohgjehcagfeaaDoorTreeSet
import Derived.Test.YthohgjehcagfeaaDoorMovePlain
import Derived.Test.YthohgjehcagfeaaDoorStr
namespace Go.Proofs.YthohgjehcagfeaaDoor
open Go.RowKit

theorem atOr_len {f p : Str} (h : atOr f p = true) : p.length ≤ f.length := by
  unfold atOr below at h
  rw [Bool.or_eq_true] at h
  rcases h with h | h
  · simp at h; rw [h]; exact Nat.le_refl _
  · have := (List.isPrefixOf_iff_prefix.1 h).length_le
    simp at this
    omega
theorem sub_small {t l : List PFile} (h : smallTree t) (hl : l.length ≤ 1000000) (hm : ∀ y ∈ l, ∃ x ∈ t, y.text = x.text) : smallTree l := ⟨hl, fun y hy => by
  obtain ⟨x, hx, e⟩ := hm y hy
  rw [e]; exact h.2 x hx⟩
theorem path_le {t : List PFile} (hz : szFiles t ≤ 1048576) {x : PFile} (hx : x ∈ t) : x.path.length ≤ 1048576 := by
  have := szFile_le hx
  unfold szFile at this
  omega
theorem moveK_small {t : List PFile} {p q : Str} {k : Nat} (h : smallTree t) (ha : ascT t) : smallTree (moveK t p q k) := sub_small h (Nat.le_trans (moveK_len ha p q k) h.1) fun y hy => by
  rcases moveK_mem hy with m | ⟨x, hx, rfl⟩
  · exact ⟨y, m, rfl⟩
  · exact ⟨x, hx, rfl⟩
theorem moveK_ok {t : List PFile} {p q : Str} {k : Nat} (h : okTree t) (hz : szFiles t ≤ 1048576) (ht : q.length ≤ 1048576) : okTree (moveK t p q k) := fun y hy => by
  rcases moveK_mem hy with m | ⟨x, hx, rfl⟩
  · exact h y m
  · refine ⟨?_, (h x hx).2⟩
    have := path_le hz hx
    unfold movedF
    simp
    omega

set_option maxRecDepth 100000 in
set_option maxHeartbeats 1600000 in
theorem impl_TreeMove_any (A : Option Addr) (n c : Nat) (xs : List PFile) (s t : Str) (w : World) (lo hi : Nat) (h1 : Rep w lo hi (encFiles xs) (.slice A n c)) (hh1 : hi ≤ w.heap.size) (ht1 : okTree xs) (hz1 : szFiles xs ≤ 1048576) (hl2 : s.length ≤ 1048576) (hl3 : t.length ≤ 1048576) :
    Calls Tryd.prog 17 #[.slice A n c, .string ⟨s.toArray⟩, .string ⟨t.toArray⟩] w fun e w' => ∃ A n c, e = .returned (.tuple #[.slice A n c, .bool (treeMoveB xs s t)]) ∧ Below w.heap.size w w' ∧ Fresh w' w.heap.size w'.heap.size (encFiles (treeMove xs s t)) (.slice A n c) := by
  have hcOk := impl_TreeOk_any A n c xs w lo hi h1 hh1 ht1
  have hln := Files.n h1
  subst hln
  obtain ⟨hc, hm⟩ := Files.cap h1
  cases ho : treeOk xs
  · have hv : treeMove xs s t = [] := by unfold treeMove; rw [ho]; rfl
    have hv2 : treeMoveB xs s t = false := by unfold treeMoveB; rw [ho]; rfl
    rw [hv, hv2]
    rw [ho] at hcOk
    clear hv hv2 ho
    go_enter Tryd.func17, Tryd.ntmps17
    go_wp2_with fail
    refine Calls.mono hcOk ?_
    rintro e w1 ⟨rfl, hb1⟩
    go_wp2
    go_ret2
    exact ⟨_, _, _, rfl, hb1, Fresh.nil _ _ _ _ _⟩
  · have hsm := smallTree_ok ho
    have hx8 := hsm.1
    have hasc := ascT_of ho
    rw [ho] at hcOk
    have Ho := Lib.hid ho
    have Hasc := Lib.hid hasc
    have Hok := Lib.hid ht1
    have Hsm := Lib.hid hsm
    have Hz := Lib.hid hz1
    clear ho hasc ht1 hsm hz1
    go_enter Tryd.func17, Tryd.ntmps17
    go_wp2_with fail
    refine Calls.mono hcOk ?_
    rintro e w1 ⟨rfl, hb1⟩
    have hs1 := hb1.size
    have hR := h1.keep hb1 hh1
    have hhr1 : hi ≤ w1.heap.size := by omega
    clear hcOk
    go_wp2
    go_loopw [8, 21] (fun o i wr => ∃ (k : Nat) (A' : Option Addr) (n' c' : Nat), k ≤ xs.length ∧ i = .int .i64 k ∧ o = .slice A' n' c' ∧ Fresh wr w1.heap.size wr.heap.size (encFiles (restF (xs.take k) s)) (.slice A' n' c') ∧ Below w1.heap.size w1 wr) (fun _ i _ => xs.length - (intOf i).toNat)
    case atStart => exact ⟨0, none, 0, 0, Nat.zero_le _, rfl, rfl, by simp only [List.take_zero]; exact Fresh.nil _ _ _ _ _, Below.refl _ _⟩
    case round =>
      obtain ⟨k, A', n', c', hk, rfl, rfl, hf, hb⟩ := hrel
      have hsz := hb.size
      by_cases hkn : k < xs.length
      · have hkn' : (k : Int) < (xs.length : Int) := by omega
        obtain ⟨b1, o1, x, rfl, _, hbhi, hx, Ax, nx, cx, d0, d1, r1⟩ := Files.at (hR.keep hb hhr1) hkn
        obtain ⟨sx1, sx2⟩ := Hok.out x (List.mem_of_getElem? hx)
        have hxt := Hsm.out.2 x (List.mem_of_getElem? hx)
        have hnx := Text.n r1
        subst hnx
        have hcall := fun A n c w => impl_isAt_any x.path s A n c w sx1 (by omega)
        have hbx : Below wr.heap.size wr (wr.alloc (.cells #[.string ⟨x.path.toArray⟩, .slice Ax x.text.length cx] 32)) := (Below.refl _ _).alloc (Nat.le_refl _) _
        have hdl : (restF (xs.take k) s).length ≤ 1000000 := by
          have := filter_len_take (fun f : PFile => !atOr f.path s) xs k
          unfold restF
          omega
        have Hx := Lib.hid hx
        have Hf := Lib.hid hf
        have Hr := Lib.hid r1
        clear hx hf r1 sx2
        cases ta : atOr x.path s
        · rw [ta] at hcall
          have hset := rest_set Hasc.out Hx.out ta
          have Hset := Lib.hid hset
          clear hset ta
          go_wp2_with fail
          refine Calls.mono (hcall _ _ _ _) ?_
          rintro e w3 ⟨rfl, hb3⟩
          have hbx3 : Below wr.heap.size wr w3 := hbx.trans (hb3.mono (by simp))
          have hs3 := hb3.size
          simp only [World.size_alloc] at hs3
          have p0 : w3.cell? ⟨wr.heap.size, 0, none⟩ = some (.string ⟨x.path.toArray⟩) := by rw [hb3.cell (by simp)]; go_simp
          have p1 : w3.cell? ⟨wr.heap.size, 1, none⟩ = some (.slice Ax x.text.length cx) := by rw [hb3.cell (by simp)]; go_simp
          have hb13 : Below w1.heap.size w1 w3 := hb.trans (hbx3.mono hsz)
          clear hb3 hbx d0 d1 hcall
          go_wp2_with fail
          refine Calls.mono (impl_put_any _ _ _ _ _ _ (restF (xs.take k) s) x w3 _ _ _ _ ((Hf.out.keep hbx3 (Nat.le_refl _)).rep) (Hr.out.keep hbx3 (by omega)) (by omega) (by omega) (sub_small Hsm.out hdl (fun y hy => ⟨y, List.mem_of_mem_take (List.mem_filter.1 hy).1, rfl⟩)) hxt (ascT_filter (ascT_take Hasc.out k) _)) ?_
          rintro e w4 ⟨A4, n4, c4, rfl, hb4, hf4⟩
          have hb14 : Below w1.heap.size w1 w4 := hb13.trans (hb4.mono (by omega))
          rw [Hset.out] at hf4
          have Hf4 := Lib.hid (hf4.mono (lo' := w1.heap.size) (by omega) (Nat.le_refl _))
          clear hf4
          go_wp2
          go_roundw
          case rel => exact ⟨k + 1, A4, _, c4, by omega, by go_num, rfl, Hf4.out, hb14⟩
          case measure => simp [intOf]; omega
        · rw [ta] at hcall
          have hset := restF_next (p := s) Hx.out
          rw [ta] at hset
          have Hset := Lib.hid hset
          clear hset ta
          go_wp2_with fail
          refine Calls.mono (hcall _ _ _ _) ?_
          rintro e w3 ⟨rfl, hb3⟩
          have hbx3 : Below wr.heap.size wr w3 := hbx.trans (hb3.mono (by simp))
          have hs3 := hbx3.size
          have hb13 : Below w1.heap.size w1 w3 := hb.trans (hbx3.mono hsz)
          clear hb3 hbx hcall
          go_wp2
          go_roundw
          case rel => exact ⟨k + 1, A', n', c', by omega, by go_num, rfl, by rw [Hset.out]; simpa using (Hf.out.keep hbx3 (Nat.le_refl _)).mono (Nat.le_refl _) hs3, hb13⟩
          case measure => simp [intOf]; omega
      · obtain rfl : k = xs.length := by omega
        rw [List.take_length] at hf
        have Hf := Lib.hid hf
        obtain ⟨w2, rfl⟩ : ∃ w2 : World, w2 = wr := ⟨_, rfl⟩
        have hb12 := hb
        have hb2 : Below w.heap.size w w2 := hb1.trans (hb.mono hs1)
        have hs2 := hb2.size
        have hR2 := h1.keep hb2 hh1
        have hhr2 : hi ≤ w2.heap.size := by omega
        clear hf hb hR
        go_wp2
        go_loopw [8, 9, 14, 15, 38] (fun o fd _ _ i wr => ∃ (k : Nat) (A' : Option Addr) (n' c' : Nat), k ≤ xs.length ∧ i = .int .i64 k ∧ o = .slice A' n' c' ∧ fd = .bool (decide (goesF (xs.take k) s ≠ [])) ∧
          Hid ((moveK xs s t k).length = (restF xs s).length + (goesF (xs.take k) s).length) ∧ Fresh wr w1.heap.size wr.heap.size (encFiles (moveK xs s t k)) (.slice A' n' c') ∧ Below w2.heap.size w2 wr) (fun _ _ _ _ i _ => xs.length - (intOf i).toNat)
        case atStart => exact ⟨0, A', _, c', Nat.zero_le _, rfl, rfl, by simp [goesF], Lib.hid (by simp [moveK_zero, goesF]), by rw [moveK_zero]; exact Hf.out, Below.refl _ _⟩
        case round =>
          clear Hf
          obtain ⟨k, A', n', c', hk, rfl, rfl, rfl, hfree, hf, hb⟩ := hrel
          have hsz := hb.size
          by_cases hkn : k < xs.length
          · have hkn' : (k : Int) < (xs.length : Int) := by omega
            obtain ⟨b1, o1, x, rfl, _, hbhi, hx, Ax, nx, cx, d0, d1, r1⟩ := Files.at (hR2.keep hb hhr2) hkn
            obtain ⟨sx1, sx2⟩ := Hok.out x (List.mem_of_getElem? hx)
            have hxt := Hsm.out.2 x (List.mem_of_getElem? hx)
            have hnx := Text.n r1
            subst hnx
            have hcall := fun A n c w => impl_isAt_any x.path s A n c w sx1 (by omega)
            have hbx : Below wr.heap.size wr (wr.alloc (.cells #[.string ⟨x.path.toArray⟩, .slice Ax x.text.length cx] 32)) := (Below.refl _ _).alloc (Nat.le_refl _) _
            have Hx := Lib.hid hx
            have Hf := Lib.hid hf
            have Hr := Lib.hid r1
            have hmn : moveK xs s t (k + 1) = if atOr x.path s then setF (moveK xs s t k) (movedF s t x) else moveK xs s t k := moveK_next hx
            have hgn := goesF_next (p := s) hx
            clear hx hf r1 sx2
            cases ta : atOr x.path s
            · rw [ta] at hcall hmn hgn
              have Hmn := Lib.hid hmn
              have Hgn := Lib.hid hgn
              clear ta hmn hgn
              obtain ⟨fd, hfd⟩ : ∃ fd, fd = decide (goesF (xs.take k) s ≠ []) := ⟨_, rfl⟩
              rw [← hfd]
              have Hfd := Lib.hid hfd
              clear hfd
              go_wp2_with fail
              refine Calls.mono (hcall _ _ _ _) ?_
              rintro e w3 ⟨rfl, hb3⟩
              have hbx3 : Below wr.heap.size wr w3 := hbx.trans (hb3.mono (by simp))
              have hs3 := hbx3.size
              have hb23 : Below w2.heap.size w2 w3 := hb.trans (hbx3.mono hsz)
              clear hb3 hbx hcall
              go_wp2
              go_roundw
              case rel => exact ⟨k + 1, A', n', c', by omega, by go_num, rfl, by rw [Hfd.out, Hgn.out]; simp, Lib.hid (by rw [Hmn.out, Hgn.out]; simpa using hfree.out), by rw [Hmn.out]; simpa using (Hf.out.keep hbx3 (Nat.le_refl _)).mono (Nat.le_refl _) hs3, hb23⟩
              case measure => simp [intOf]; omega
            · rw [ta] at hcall hmn hgn
              have hcut := Tryd.cutStrFrom x.path s.length (atOr_len ta)
              have happ := bytes_app t (x.path.drop s.length)
              have hlen9 : ¬ (9223372036854775807 < List.length t + (List.length x.path - List.length s)) := by omega
              have Hta := Lib.hid ta
              have Hmn := Lib.hid hmn
              have Hgn := Lib.hid hgn
              clear ta hmn hgn
              obtain ⟨fd, hfd⟩ : ∃ fd, fd = decide (goesF (xs.take k) s ≠ []) := ⟨_, rfl⟩
              rw [← hfd]
              clear hfd
              go_wp2_with fail
              refine Calls.mono (hcall _ _ _ _) ?_
              rintro e w3 ⟨rfl, hb3⟩
              have hbx3 : Below wr.heap.size wr w3 := hbx.trans (hb3.mono (by simp))
              have hs3 := hb3.size
              simp only [World.size_alloc] at hs3
              have p0 : w3.cell? ⟨wr.heap.size, 0, none⟩ = some (.string ⟨x.path.toArray⟩) := by rw [hb3.cell (by simp)]; go_simp
              have p1 : w3.cell? ⟨wr.heap.size, 1, none⟩ = some (.slice Ax x.text.length cx) := by rw [hb3.cell (by simp)]; go_simp
              have hb23 : Below w2.heap.size w2 w3 := hb.trans (hbx3.mono hsz)
              have hlt3 : wr.heap.size < w3.heap.size := by omega
              have hF3 := Hf.out.keep hbx3 (Nat.le_refl _)
              have hR3 := Hr.out.keep hbx3 (by omega)
              have HF3 := Lib.hid hF3
              have HR3 := Lib.hid hR3
              have hn3 := Files.n hF3.rep
              subst hn3
              have hwl : wr.heap.size ≤ w3.heap.size := by omega
              have hwl2 : hi ≤ w3.heap.size := by omega
              clear hb3 hbx d0 d1 hcall hF3 hR3
              go_wp2
              go_region_held3 (fun w' => w'.cell? ⟨wr.heap.size, 0, none⟩ = some (.string ⟨x.path.toArray⟩) ∧ w'.cell? ⟨wr.heap.size, 1, none⟩ = some (.slice Ax x.text.length cx)) (first | trivial | exact ⟨cw0, cw1⟩ | go_keep) (first
                | (go_at_call 24; refine (impl_put_any _ _ _ _ _ _ (moveK xs s t k) (movedF s t x) w3.drew _ _ _ _ (show Rep w3.drew _ _ _ _ from (HF3.out.rep).drewN 1) (show Rep w3.drew _ _ _ _ from HR3.out.drewN 1) hwl hwl2 (moveK_small Hsm.out Hasc.out) hxt (moveK_asc Hasc.out _ _ _)).mono ?_
                   rintro e w4 ⟨A4, n4, c4, rfl, hb4, hf4⟩
                   have hb4 : Below w3.heap.size w3 w4 := ⟨hb4.os, hb4.tape, hb4.output, hb4.size, hb4.block⟩
                   have cw0 : w4.cell? ⟨wr.heap.size, 0, none⟩ = some (.string ⟨x.path.toArray⟩) := (hb4.cell (p := ⟨wr.heap.size, 0, none⟩) hlt3).trans p0
                   have cw1 : w4.cell? ⟨wr.heap.size, 1, none⟩ = some (.slice Ax x.text.length cx) := (hb4.cell (p := ⟨wr.heap.size, 1, none⟩) hlt3).trans p1))
              have hs4 := hb4.size
              have hb24 : Below w2.heap.size w2 w4 := hb23.trans (hb4.mono (by omega))
              have hf4 : Fresh w4 w3.heap.size w4.heap.size (encFiles (setF (moveK xs s t k) (movedF s t x))) (.slice A4 n4 c4) := hf4
              have hmn2 : moveK xs s t (k + 1) = setF (moveK xs s t k) (movedF s t x) := by rw [Hmn.out]; rfl
              rw [← hmn2] at hf4
              have Hf4 := Lib.hid (hf4.mono (lo' := w1.heap.size) (by have := hb12.size; omega) (Nat.le_refl _))
              cases hfr : hasF (moveK xs s t k) (movedF s t x).path
              · have hlen : (moveK xs s t (k + 1)).length = (restF xs s).length + (goesF (xs.take (k + 1)) s).length := by
                  rw [hmn2, setF_len (moveK_asc Hasc.out _ _ _), hfr, Hgn.out, hfree.out]
                  simp
                  omega
                have Hlen := Lib.hid hlen
                have hne : decide (goesF (xs.take (k + 1)) s ≠ []) = true := by rw [Hgn.out]; simp
                have Hne := Lib.hid hne
                clear hf4 hmn2 hlen hne hfr
                go_wp2
                go_roundw
                case rel => exact ⟨k + 1, A4, n4, c4, by omega, by go_num, rfl, by rw [Hne.out], Hlen, Hf4.out, hb24⟩
                case measure => simp [intOf]; omega
              · have hno := move_stuck Hasc.out Hx.out Hta.out hfr
                have Hno := Lib.hid hno
                have hbw4 : Below w.heap.size w w4 := hb2.trans (hb24.mono (by omega))
                clear hf4 hmn2 hno hfr
                go_wp2_with fail
                refine Calls.mono (impl_copyTree_any _ _ _ xs w4 lo hi (h1.keep hbw4 hh1) (by omega) Hsm.out) ?_
                rintro e w5 ⟨A5, n5, c5, rfl, hb5, hf5⟩
                go_wp2
                go_ret2
                exact ⟨_, _, _, by rw [Hno.out]; rfl, hbw4.trans (hb5.mono (by omega)), by rw [treeMove_no Ho.out Hno.out]; exact hf5.mono (by omega) (Nat.le_refl _)⟩
          · obtain rfl : k = xs.length := by omega
            rw [List.take_length, moveK_all] at hfree
            rw [moveK_all] at hf
            rw [List.take_length]
            have hmv := move_free Ho.out hfree.out
            have hbw : Below w.heap.size w wr := hb2.trans (hb.mono (by omega))
            have Hf := Lib.hid hf
            have Hmv := Lib.hid hmv
            obtain ⟨wo, rfl⟩ : ∃ wo : World, wo = wr := ⟨_, rfl⟩
            have hpo := fun w => impl_PathOk_any t w (by omega)
            have hso := hbw.size
            clear hf hmv hb hfree
            cases hfd : decide (goesF xs s ≠ [])
            · have hno : treeMoveB xs s t = false := by rw [Hmv.out, hfd]; rfl
              have Hno := Lib.hid hno
              clear hno hfd
              go_wp2_with fail
              refine Calls.mono (impl_copyTree_any _ _ _ xs wo lo hi (h1.keep hbw hh1) (by omega) Hsm.out) ?_
              rintro e w5 ⟨A5, n5, c5, rfl, hb5, hf5⟩
              go_wp2
              go_ret2
              exact ⟨_, _, _, by rw [Hno.out]; rfl, hbw.trans (hb5.mono (by omega)), by rw [treeMove_no Ho.out Hno.out]; exact hf5.mono (by omega) (Nat.le_refl _)⟩
            · cases hpt : pathOk t
              · have hno : treeMoveB xs s t = false := by rw [Hmv.out, hfd, hpt]; rfl
                have Hno := Lib.hid hno
                rw [hpt] at hpo
                clear hno hfd hpt
                go_wp2_with fail
                refine Calls.mono (hpo _) ?_
                rintro e w4 ⟨rfl, hb4⟩
                have hs4 := hb4.size
                have hbw4 := hbw.trans (hb4.mono (by omega))
                go_wp2_with fail
                refine Calls.mono (impl_copyTree_any _ _ _ xs w4 lo hi (h1.keep hbw4 hh1) (by omega) Hsm.out) ?_
                rintro e w5 ⟨A5, n5, c5, rfl, hb5, hf5⟩
                go_wp2
                go_ret2
                exact ⟨_, _, _, by rw [Hno.out]; rfl, hbw4.trans (hb5.mono (by omega)), by rw [treeMove_no Ho.out Hno.out]; exact hf5.mono (by omega) (Nat.le_refl _)⟩
              · have hyes : treeMoveB xs s t = treeOk (moveF xs s t) := by rw [Hmv.out, hfd, hpt]; simp
                have Hyes := Lib.hid hyes
                rw [hpt] at hpo
                clear hyes hfd hpt
                go_wp2_with fail
                refine Calls.mono (hpo _) ?_
                rintro e w4 ⟨rfl, hb4⟩
                have hs4 := hb4.size
                have hbw4 := hbw.trans (hb4.mono (by omega))
                have hok2 : okTree (moveF xs s t) := by rw [← moveK_all]; exact moveK_ok Hok.out Hz.out hl3
                have Hok2 := Lib.hid hok2
                clear hok2
                go_wp2_with fail
                refine Calls.mono (impl_changed_any _ _ _ _ _ _ xs (moveF xs s t) w4 lo hi _ _ (h1.keep hbw4 hh1) (Hf.out.keep hb4 (Nat.le_refl _)).rep (by omega) hs4 Hsm.out Hok2.out) ?_
                rintro e w5 ⟨A5, n5, c5, rfl, hb5, hy, hn⟩
                have hs5 := hb5.size
                have Hy := Lib.hid hy
                have Hn := Lib.hid hn
                clear hy hn
                go_wp2
                go_ret2
                refine ⟨_, _, _, by rw [Hyes.out]; rfl, hbw4.trans (hb5.mono (by omega)), ?_⟩
                cases hv : treeOk (moveF xs s t)
                · rw [treeMove_no Ho.out (by rw [Hyes.out, hv])]
                  exact (Hn.out hv).mono (by omega) (Nat.le_refl _)
                · rw [treeMove_yes Ho.out (by rw [Hyes.out, hv])]
                  change Fresh _ _ _ _ (Value.slice A5 n5 c5)
                  rw [Hy.out hv]
                  exact (((Hf.out.keep hb4 (Nat.le_refl _)).keep hb5 hs4).mono (by omega) (by omega))
end Go.Proofs.YthohgjehcagfeaaDoor
