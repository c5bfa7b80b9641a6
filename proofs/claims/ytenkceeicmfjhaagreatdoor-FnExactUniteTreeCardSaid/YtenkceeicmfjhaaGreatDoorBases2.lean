import Derived.Test.YtenkceeicmfjhaaGreatDoorZ32
import Derived.Test.YtenkceeicmfjhaaGreatDoorZ31
import Derived.Deep.RegionHeld3
/- Walks: the last common ancestors: the program's bases, the reference's l8Bases. -/
namespace Go.Proofs.YtenkceeicmfjhaaGreatDoor
open Go.RowKit

set_option maxRecDepth 100000 in
set_option maxHeartbeats 3200000 in
theorem impl_bases_any (r : PRepo) (A0 A1 : Option Addr) (n0 c0 n1 c1 : Nat) (w : World) (lo hi : Nat) (h0 : Rep w lo hi (encCommits r.commits) (.slice A0 n0 c0)) (hh : hi ≤ w.heap.size) (hok : repoOk r = true) (a b : Nat) (ha : a < r.commits.length) (hb : b < r.commits.length) :
    Calls Tryz.prog 46 #[.agg #[.slice A0 n0 c0, .slice A1 n1 c1], .int .i64 a, .int .i64 b] w fun e w' => ∃ A n c, e = .returned (.slice A n c) ∧ Below w.heap.size w w' ∧ Fresh w' w.heap.size w'.heap.size (encInts (idxOf (clearAll r.commits (bothM (ancs r.commits a) (ancs r.commits b)) (idxOf (bothM (ancs r.commits a) (ancs r.commits b)))))) (.slice A n c) := by
  have hbx := fun o => (Below.refl w.heap.size w).alloc (Nat.le_refl _) o
  have ca := fun W (h : Rep W lo hi (encCommits r.commits) (.slice A0 n0 c0)) hW => impl_ancestors_any r A0 A1 n0 c0 n1 c1 W lo hi h hW hok a ha
  have cb := fun W (h : Rep W lo hi (encCommits r.commits) (.slice A0 n0 c0)) hW => impl_ancestors_any r A0 A1 n0 c0 n1 c1 W lo hi h hW hok b hb
  have cp := fun (p : Nat) (hp : p < r.commits.length) W (h : Rep W lo hi (encCommits r.commits) (.slice A0 n0 c0)) hW => impl_ancestors_any r A0 A1 n0 c0 n1 c1 W lo hi h hW hok p hp
  have h16 := (repoOk_iff.1 hok).1
  have lb := ancs_len r.commits b
  have la := ancs_len r.commits a
  have hl0 := Commits.n h0
  rw [← hl0] at lb la h16
  obtain ⟨mb, hmb⟩ : ∃ mb, mb = ancs r.commits b := ⟨_, rfl⟩
  obtain ⟨ma, hma⟩ : ∃ ma, ma = ancs r.commits a := ⟨_, rfl⟩
  rw [← hmb] at cb lb ⊢
  rw [← hma] at ca la ⊢
  have Lb := Lib.hid lb
  have La := Lib.hid la
  have Hl0 := Lib.hid hl0
  have hN0 : 0 < n0 := by omega
  clear hmb hma lb la hok hb ha hl0
  obtain ⟨ib, bi0, bi1, bi2, bi3⟩ := info_parts Tryz.infoBool
  go_enter Tryz.func46, Tryz.ntmps46
  go_wp2
  refine name_world ?_
  intro W hW
  have hbW : Below w.heap.size w W := by rw [hW]; exact hbx _
  have q0 : W.cell? ⟨w.heap.size, 0, none⟩ = some (.slice A0 n0 c0) := by rw [hW]; simp [go_sem]
  have q1 : W.cell? ⟨w.heap.size, 1, none⟩ = some (.slice A1 n1 c1) := by rw [hW]; simp [go_sem]
  have hsW : w.heap.size < W.heap.size := by rw [hW]; simp
  have hhW : hi ≤ W.heap.size := by omega
  have hR0 := h0.keep hbW hh
  clear hW
  go_region_held3 (fun w' => w'.cell? ⟨w.heap.size, 0, none⟩ = some (.slice A0 n0 c0) ∧ w'.cell? ⟨w.heap.size, 1, none⟩ = some (.slice A1 n1 c1)) (first | trivial | exact ⟨cx0, cx1⟩ | exact ⟨cw0, cw1⟩ | go_keep) (first
    | (go_at_call 70; refine (cb w5 ((show Rep W.drew lo hi _ (.slice A0 n0 c0) from hR0.drewN 1).keep hb5 (show hi ≤ W.heap.size from hhW)) (Nat.le_trans hhW hb5.size)).mono ?_
       rintro e w7 ⟨A7, n7, c7, rfl, hb7, hf7⟩
       have cx0 : w7.cell? ⟨w.heap.size, 0, none⟩ = some (.slice A0 n0 c0) := (hb7.cell (p := ⟨w.heap.size, 0, none⟩) (Nat.lt_of_lt_of_le (show w.heap.size < W.heap.size from hsW) hb5.size)).trans cw0
       have cx1 : w7.cell? ⟨w.heap.size, 1, none⟩ = some (.slice A1 n1 c1) := (hb7.cell (p := ⟨w.heap.size, 1, none⟩) (Nat.lt_of_lt_of_le (show w.heap.size < W.heap.size from hsW) hb5.size)).trans cw1)
    | (go_at_call 70; refine (ca W.drew (show Rep W.drew lo hi _ (.slice A0 n0 c0) from hR0.drewN 1) (show hi ≤ W.heap.size from hhW)).mono ?_
       rintro e w5 ⟨A5, n5, c5, rfl, hb5, hf5⟩
       have cw0 : w5.cell? ⟨w.heap.size, 0, none⟩ = some (.slice A0 n0 c0) := (hb5.cell (p := ⟨w.heap.size, 0, none⟩) (by exact hsW)).trans q0
       have cw1 : w5.cell? ⟨w.heap.size, 1, none⟩ = some (.slice A1 n1 c1) := (hb5.cell (p := ⟨w.heap.size, 1, none⟩) (by exact hsW)).trans q1))
  have hs5 : W.heap.size ≤ w5.heap.size := hb5.size
  have hs7 := hb7.size
  have hbw : Below w.heap.size w w7 := (hbW.trans ((⟨hb5.os, hb5.tape, hb5.output, hb5.size, hb5.block⟩ : Below W.heap.size W w5).mono hbW.size)).trans (hb7.mono (by omega))
  have hRa : Rep w7 W.heap.size w5.heap.size (encBools ma) (.slice A5 n5 c5) := hf5.rep.keep hb7 (Nat.le_refl _)
  have hRb : Rep w7 w5.heap.size w7.heap.size (encBools mb) (.slice A7 n7 c7) := hf7.rep
  have hn5 := ((Bools.n hRa).trans La.out).symm
  have hn7 := ((Bools.n hRb).trans Lb.out).symm
  obtain ⟨hc5, hm5⟩ := Bools.cap hRa
  obtain ⟨hc7, hm7⟩ := Bools.cap hRb
  subst hn5 hn7
  have hs0 : w.heap.size < w7.heap.size := by omega
  clear hf5 hf7 hb5 hb7 cw0 cw1 q0 q1 hR0 ca cb hbx
  go_wp2_with (at_make; refine wpList_make_full _ rfl _ _ _ rfl w7.heap.size 4 ib _ 1 Tryz.underlying108 bi0 bi1 bi2 _ _ _ _ n0 rfl rfl rfl rfl ?c1 ?c2 ?c3 ?_)
  case c1 => first | omega | (rw [bi3]; omega)
  case c2 => first | omega | (unfold maxLen; omega)
  try (case c3 => first | omega | (simp; done) | (simp; omega) | exact Nat.le_refl _)
  intro w8 hown hg
  have hb8 : Below w7.heap.size w7 w8 := (Below.refl _ _).grown hg (Nat.le_refl _) (by simp)
  have y0 : w8.cell? ⟨w.heap.size, 0, none⟩ = some (.slice A0 n0 c0) := (hb8.cell (by exact hs0)).trans cx0
  have y1 : w8.cell? ⟨w.heap.size, 1, none⟩ = some (.slice A1 n1 c1) := (hb8.cell (by exact hs0)).trans cx1
  have hs8 := (hown.lt _ rfl).2
  clear hg
  go_wp2
  go_loopw [28] (fun i wr => ∃ (k : Nat) (us : List Value), k ≤ n0 ∧ i = .int .i64 k ∧ wr.ownsRow w7.heap.size 4 1 (.slice (some ⟨w7.heap.size, 0, none⟩) n0 n0) n0 us ∧ Hid (us.take k = ((bothM ma mb).take k).map fun s => .bool s) ∧
      Below w7.heap.size w7 wr ∧ w7.heap.size < wr.heap.size) (fun i _ => n0 - (intOf i).toNat)
  case atStart => exact ⟨0, _, Nat.zero_le _, rfl, hown, Lib.hid (by simp), hb8, hs8⟩
  case round =>
    clear hown hb8 hs8 y0 y1
    obtain ⟨k, us, hk, rfl, hown, ht, hb, hsz2⟩ := hrel
    have hul := hown.1
    by_cases hkn : k < n0
    · have hkn' : (k : Int) < (n0 : Int) := by omega
      obtain ⟨u0, hu0⟩ : ∃ u0, us[k]? = some u0 := ⟨us[k]'(by omega), List.getElem?_eq_getElem (by omega)⟩
      have hcell := hown.cellAt k (by omega)
      rw [hu0] at hcell
      have hfr := hown.frozenAt k
      obtain ⟨b1, o1, xa, rfl, _, hl1, hxa, da⟩ := Bools.at (hRa.keep hb (by omega)) hkn
      obtain ⟨b2, o2, xb, rfl, _, hl2, hxb, db⟩ := Bools.at (hRb.keep hb (Nat.le_refl _)) hkn
      have hm : (bothM ma mb)[k]? = some (xa && xb) := by
        unfold bothM
        rw [List.getElem?_map, List.getElem?_range (by rw [La.out]; exact hkn)]
        simp [List.getD, hxa, hxb]
      have hnew := hown.stored k (.bool (xa && xb))
      have hstep : (us.set k (.bool (xa && xb))).take (k + 1) = ((bothM ma mb).take (k + 1)).map fun s => .bool s := by
        have ht := ht.out
        rw [List.take_add_one, List.take_add_one, hm, List.take_set_of_le (by omega), ht, List.getElem?_set_self (by omega)]
        simp
      have H1 := Lib.hid hstep
      clear hstep hu0 hul hm hxa hxb
      cases xa
      · simp only [Bool.false_and] at hnew H1
        go_wp2
        go_roundw
        case rel => exact ⟨k + 1, _, by omega, by go_num, hnew.1, H1, hb.setCell (Nat.le_refl _) _, by simpa using hsz2⟩
        case measure => first | (simp [intOf]; done) | (simp [intOf]; omega)
      · simp only [Bool.true_and] at hnew H1
        go_wp2
        go_roundw
        case rel => exact ⟨k + 1, _, by omega, by go_num, hnew.1, H1, hb.setCell (Nat.le_refl _) _, by simpa using hsz2⟩
        case measure => first | (simp [intOf]; done) | (simp [intOf]; omega)
    · obtain rfl : k = n0 := by omega
      have hus : us = (bothM ma mb).map fun s => (.bool s : Value) := by
        have := ht.out
        rw [List.take_of_length_le (by omega), List.take_of_length_le (by simp [bothM, La.out])] at this
        exact this
      subst hus
      have hML : (bothM ma mb).length = k := by simp [bothM, La.out]
      obtain ⟨M, hM⟩ : ∃ M, M = bothM ma mb := ⟨_, rfl⟩
      rw [← hM] at hown hML
      have HM := Lib.hid hM
      have HML := Lib.hid hML
      have hrng := idxOf_nonneg M
      rw [hML] at hrng
      have hpl := idxOf_len M
      rw [hML] at hpl
      obtain ⟨ps, hps⟩ : ∃ ps, ps = idxOf M := ⟨_, rfl⟩
      rw [← hps] at hrng hpl
      have Hps := Lib.hid hps
      have Hrng := Lib.hid hrng
      have hbw8 := hbw.trans (hb.mono hbw.size)
      have y0 : wr.cell? ⟨w.heap.size, 0, none⟩ = some (.slice A0 k c0) := (hb.cell (by exact hs0)).trans cx0
      have hRm : Rep wr 0 wr.heap.size (encBools M) (.slice (some ⟨w7.heap.size, 0, none⟩) k k) := ((Fresh.of_row hown (owns_bools _ M)).mono (Nat.zero_le _) (Nat.le_refl _)).rep
      clear hrng hps hM ht hML hul
      go_wp2_with fail
      refine Calls.mono (clone_bools_any _ _ _ _ _ _ _ hRm (Nat.le_refl _) (by rw [HML.out]; omega)) ?_
      rintro e w9 ⟨A9, n9, c9, rfl, hb9, hf9⟩
      obtain ⟨g, rfl, hg1, hg2, hn9, hownG⟩ := hf9.bools (by rw [HML.out]; exact hN0)
      have hn9' := (hn9.trans HML.out).symm
      obtain ⟨hc9, hm9⟩ := Bools.cap hf9.rep
      subst hn9'
      have hsz := hb.size
      have hs9 := hb9.size
      have hRm9 := hRm.keep hb9 (Nat.le_refl _)
      have hbw9 := hbw8.trans (hb9.mono hbw8.size)
      have y09 : w9.cell? ⟨w.heap.size, 0, none⟩ = some (.slice A0 k c0) := (hb9.cell (by show w.heap.size < _; omega)).trans y0
      have y1 : wr.cell? ⟨w.heap.size, 1, none⟩ = some (.slice A1 n1 c1) := (hb.cell (by exact hs0)).trans cx1
      have y19 : w9.cell? ⟨w.heap.size, 1, none⟩ = some (.slice A1 n1 c1) := (hb9.cell (by show w.heap.size < _; omega)).trans y1
      clear hf9 hn9 y0 y1 hown
      go_wp2_with fail
      refine Calls.mono (impl_listOf_any _ _ _ _ _ _ _ hRm9 (by omega) (by rw [HML.out]; omega)) ?_
      rintro e w10 ⟨A5, n5, c5, rfl, hb10, hf5⟩
      rw [← Hps.out] at hf5
      have hR5 := hf5.rep
      have hn5 := Ints.n hR5
      obtain ⟨hc5, hm5⟩ := Ints.cap hR5
      subst hn5
      have hs10 := hb10.size
      have hbw10 := hbw9.trans (hb10.mono hbw9.size)
      have hown10 := ownsRow_same (w' := w10) hownG (fun q hq => hb10.block q (by have := hownG.lt q (by simpa using hq); exact this.2))
      have q00 : w10.cell? ⟨w.heap.size, 0, none⟩ = some (.slice A0 k c0) := (hb10.cell (by show w.heap.size < _; omega)).trans y09
      have q10 : w10.cell? ⟨w.heap.size, 1, none⟩ = some (.slice A1 n1 c1) := (hb10.cell (by show w.heap.size < _; omega)).trans y19
      clear hf5 y09 y19 hownG hRm9 hRm
      go_wp2
      go_loopw [50] (fun i wr => ∃ (l : Nat) (m' : List Bool), l ≤ ps.length ∧ i = .int .i64 l ∧ m'.length = k ∧ Hid (m' = clearAll r.commits M (ps.take l)) ∧
          wr.ownsRow 0 4 1 (.slice (some ⟨g, 0, none⟩) k c9) k (m'.map fun s => .bool s) ∧ Below w.heap.size w wr ∧ w10.heap.size ≤ wr.heap.size ∧ Rep wr w9.heap.size w10.heap.size (encInts ps) (.slice A5 ps.length c5) ∧
          wr.cell? ⟨w.heap.size, 0, none⟩ = some (.slice A0 k c0) ∧ wr.cell? ⟨w.heap.size, 1, none⟩ = some (.slice A1 n1 c1)) (fun i _ => ps.length - (intOf i).toNat)
      case atStart => exact ⟨0, M, Nat.zero_le _, rfl, HML.out, Lib.hid (by simp [clearAll]), hown10, hbw10, Nat.le_refl _, hR5, q00, q10⟩
      case round =>
        clear hown10 hbw10 hR5 q00 q10 hbw9 hbw8
        obtain ⟨l, m', hl, rfl, hlm, ht', hown, hbw, hsw, hR, q0, q1⟩ := hrel
        obtain ⟨wo, rfl⟩ : ∃ wo : World, wo = wr := ⟨_, rfl⟩
        by_cases hln : l < ps.length
        · have hln' : (l : Int) < (ps.length : Int) := by omega
          obtain ⟨b5, o5, q, rfl, _, _, hqx, f5⟩ := Ints.at hR hln
          obtain ⟨hq0, hq1⟩ := Hrng.out q (List.mem_of_getElem? hqx)
          obtain ⟨p, rfl⟩ : ∃ p : Nat, q = p := ⟨q.toNat, by omega⟩
          have hpa : p < k := by omega
          have cpp := cp p (by rw [← Hl0.out]; exact hpa)
          have lp := ancs_len r.commits p
          rw [← Hl0.out] at lp
          obtain ⟨mp, hmp⟩ : ∃ mp, mp = ancs r.commits p := ⟨_, rfl⟩
          rw [← hmp] at cpp lp
          have hnext : clearAll r.commits M (ps.take (l + 1)) = clearPs m' ((idxOf mp).filter fun y => !(y == (p : Int))) := by
            rw [List.take_add_one, hqx, Option.toList, clearAll_snoc, ← ht'.out, hmp]; rfl
          have Hnext := Lib.hid hnext
          have Lp := Lib.hid lp
          have hrq := idxOf_nonneg mp
          rw [lp] at hrq
          have hql := idxOf_len mp
          rw [lp] at hql
          obtain ⟨qs, hqs⟩ : ∃ qs, qs = idxOf mp := ⟨_, rfl⟩
          rw [← hqs] at hrq hql
          have Hqs := Lib.hid hqs
          have Hrq := Lib.hid hrq
          clear hnext lp hrq hqs hmp hqx
          go_wp2_with fail
          refine Calls.mono (cpp _ (h0.keep hbw hh) (by have := hbw.size; omega)) ?_
          rintro e w4 ⟨A4, n4, c4, rfl, hb4, hf4⟩
          have hR4 := hf4.rep
          clear hf4
          go_wp2_with fail
          refine Calls.mono (impl_listOf_any _ _ _ _ _ _ _ hR4 (Nat.le_refl _) (by rw [Lp.out]; omega)) ?_
          rintro e w5' ⟨A6, n6, c6, rfl, hb5, hf6⟩
          rw [← Hqs.out] at hf6
          have hR6 := hf6.rep
          have hn6 := Ints.n hR6
          obtain ⟨hc6, hm6⟩ := Ints.cap hR6
          subst hn6
          have hs4 := hb4.size
          have hs5' := hb5.size
          have hb45 := hb4.trans (hb5.mono hs4)
          have hbw5 := hbw.trans (hb45.mono hbw.size)
          have hown5 := ownsRow_same (w' := w5') hown (fun q hq => hb45.block q (by have := hown.lt q (by simpa using hq); exact this.2))
          have hgo : g < w9.heap.size := by omega
          have q05 : w5'.cell? ⟨w.heap.size, 0, none⟩ = some (.slice A0 k c0) := (hb45.cell (by show w.heap.size < _; omega)).trans q0
          have q15 : w5'.cell? ⟨w.heap.size, 1, none⟩ = some (.slice A1 n1 c1) := (hb45.cell (by show w.heap.size < _; omega)).trans q1
          have hRk := hR.keep hb45 hsw
          clear hf6 hR4 q0 q1 hown hb4 hb5 hb45 hbw f5 hR
          go_wp2
          go_loopw [59] (fun i wr => ∃ (t : Nat) (m2 : List Bool), t ≤ qs.length ∧ i = .int .i64 t ∧ m2.length = k ∧ Hid (m2 = clearPs m' ((qs.take t).filter fun y => !(y == (p : Int)))) ∧
              wr.ownsRow 0 4 1 (.slice (some ⟨g, 0, none⟩) k c9) k (m2.map fun s => .bool s) ∧ Below w.heap.size w wr ∧ w5'.heap.size ≤ wr.heap.size ∧ Rep wr w4.heap.size w5'.heap.size (encInts qs) (.slice A6 qs.length c6) ∧
              Rep wr w9.heap.size w10.heap.size (encInts ps) (.slice (some ⟨b5, o5, none⟩) ps.length c5) ∧
              wr.cell? ⟨w.heap.size, 0, none⟩ = some (.slice A0 k c0) ∧ wr.cell? ⟨w.heap.size, 1, none⟩ = some (.slice A1 n1 c1)) (fun i _ => qs.length - (intOf i).toNat)
          case atStart => exact ⟨0, m', Nat.zero_le _, rfl, hlm, Lib.hid rfl, hown5, hbw5, Nat.le_refl _, hR6, hRk, q05, q15⟩
          case round =>
            clear hown5 hbw5 hR6 hRk q05 q15
            obtain ⟨t, m2, htl, rfl, hlm2, ht2, hown, hbw, hsw5, hR6, hRk, q0, q1⟩ := hrel
            by_cases htn : t < qs.length
            · have htn' : (t : Int) < (qs.length : Int) := by omega
              obtain ⟨b7, o7, y, rfl, _, _, hy, f7⟩ := Ints.at hR6 htn
              obtain ⟨hy0, hy1⟩ := Hrq.out y (List.mem_of_getElem? hy)
              obtain ⟨z, rfl⟩ : ∃ z : Nat, y = z := ⟨y.toNat, by omega⟩
              have hza : z < k := by omega
              have hst : clearPs m' ((qs.take (t + 1)).filter fun y => !(y == (p : Int))) = if (z : Int) = (p : Int) then m2 else m2.set z false := by
                rw [List.take_add_one, hy, Option.toList, List.filter_append]
                by_cases hzp : (z : Int) = (p : Int)
                · rw [if_pos hzp]; simp only [List.filter_cons, List.filter_nil, hzp, beq_self_eq_true, Bool.not_true, Bool.false_eq_true, if_false, List.append_nil]; exact ht2.out.symm
                · rw [if_neg hzp]
                  have : ((z : Int) == (p : Int)) = false := by simpa using hzp
                  simp only [List.filter_cons, List.filter_nil, this, Bool.not_false, if_true]
                  rw [clearPs_snoc, ← ht2.out]; rfl
              by_cases hzp : (z : Int) = (p : Int)
              · rw [if_pos hzp] at hst
                have Hst := Lib.hid hst
                clear hst hy
                go_wp2
                go_roundw
                case rel => exact ⟨t + 1, m2, by omega, by go_num, hlm2, Lib.hid Hst.out.symm, hown, hbw, hsw5, hR6, hRk, q0, q1⟩
                case measure => first | (simp [intOf]; done) | (simp [intOf]; omega)
              · rw [if_neg hzp] at hst
                have Hst := Lib.hid hst
                have hcell := hown.cellAt z (by omega)
                obtain ⟨bz, hbz⟩ : ∃ bz, m2[z]? = some bz := ⟨m2[z]'(by omega), List.getElem?_eq_getElem (by omega)⟩
                rw [List.getElem?_map, hbz] at hcell
                have hfr := hown.frozenAt z
                have hnew := hown.stored z (.bool false)
                rw [row_set_f] at hnew
                have r0 : (wr.setCell ⟨g, z, none⟩ (.bool false)).cell? ⟨w.heap.size, 0, none⟩ = some (.slice A0 k c0) := by
                  rw [World.cell?_of_block (hnew.2.block w.heap.size (by omega) (by simp; omega))]; exact q0
                have r1 : (wr.setCell ⟨g, z, none⟩ (.bool false)).cell? ⟨w.heap.size, 1, none⟩ = some (.slice A1 n1 c1) := by
                  rw [World.cell?_of_block (hnew.2.block w.heap.size (by omega) (by simp; omega))]; exact q1
                have hR6' := hR6.same (w' := wr.setCell ⟨g, z, none⟩ (.bool false)) (fun k' h1 h2 => hnew.2.block k' (by omega) (by simp; omega))
                have hRk' := hRk.same (w' := wr.setCell ⟨g, z, none⟩ (.bool false)) (fun k' h1 h2 => hnew.2.block k' (by omega) (by simp; omega))
                have hlm3 : (m2.set z false).length = k := by simpa using hlm2
                clear hst hbz hy
                go_wp2
                go_roundw
                case rel => exact ⟨t + 1, _, by omega, by go_num, hlm3, Lib.hid Hst.out.symm, hnew.1, hbw.setCell (by show w.heap.size ≤ g; omega) _, by simpa using hsw5, hR6', hRk', r0, r1⟩
                case measure => first | (simp [intOf]; done) | (simp [intOf]; omega)
            · obtain rfl : t = qs.length := by omega
              have hm2 : m2 = clearAll r.commits M (ps.take (l + 1)) := by rw [Hnext.out, ← Hqs.out, ht2.out, List.take_length]
              have Hm2 := Lib.hid hm2
              clear hm2
              go_wp2
              go_roundw
              case rel => exact ⟨l + 1, m2, by omega, by go_num, hlm2, Hm2, hown, hbw, by omega, hRk, q0, q1⟩
              case measure => first | (simp [intOf]; done) | (simp [intOf]; omega)
        · obtain rfl : l = ps.length := by omega
          have hm : m' = clearAll r.commits (bothM ma mb) (idxOf (bothM ma mb)) := by rw [ht'.out, List.take_length, ← HM.out, ← Hps.out]
          have hRz : Rep wo 0 wo.heap.size (encBools m') (.slice (some ⟨g, 0, none⟩) k c9) := (Fresh.of_row hown (owns_bools _ _)).rep
          have Hm := Lib.hid hm
          clear hm
          go_wp2_with fail
          refine Calls.mono (impl_listOf_any _ _ _ _ _ _ _ hRz (Nat.le_refl _) (by omega)) ?_
          rintro e w5' ⟨A6, n6, c6, rfl, hb5, hf6⟩
          have hf7 := hf6.mono (lo' := w.heap.size) hbw.size (Nat.le_refl _)
          rw [Hm.out] at hf7
          have Hf := Lib.hid hf7
          have hbz := hbw.trans (hb5.mono hbw.size)
          clear hf6 hf7
          go_wp2
          go_ret
          exact ⟨_, _, _, rfl, hbz, Hf.out⟩
set_option maxRecDepth 100000 in
set_option maxHeartbeats 3200000 in
theorem spec_l8Bases_any (r : PRepo) (A0 A1 : Option Addr) (n0 c0 n1 c1 : Nat) (w : World) (lo hi : Nat) (h0 : Rep w lo hi (encCommits r.commits) (.slice A0 n0 c0)) (hh : hi ≤ w.heap.size) (hok : repoOk r = true) (a b : Nat) (ha : a < r.commits.length) (hb : b < r.commits.length) :
    Calls Tryz.prog 39 #[.agg #[.slice A0 n0 c0, .slice A1 n1 c1], .int .i64 a, .int .i64 b] w fun e w' => ∃ A n c, e = .returned (.slice A n c) ∧ Below w.heap.size w w' ∧ Fresh w' w.heap.size w'.heap.size (encInts (idxOf (clearAll r.commits (bothM (ancs r.commits a) (ancs r.commits b)) (idxOf (bothM (ancs r.commits a) (ancs r.commits b)))))) (.slice A n c) := by
  have hbx := fun o => (Below.refl w.heap.size w).alloc (Nat.le_refl _) o
  have ca := fun W (h : Rep W lo hi (encCommits r.commits) (.slice A0 n0 c0)) hW => spec_l8All_any r A0 A1 n0 c0 n1 c1 W lo hi h hW hok a ha
  have cb := fun W (h : Rep W lo hi (encCommits r.commits) (.slice A0 n0 c0)) hW => spec_l8All_any r A0 A1 n0 c0 n1 c1 W lo hi h hW hok b hb
  have cp := fun (p : Nat) (hp : p < r.commits.length) W (h : Rep W lo hi (encCommits r.commits) (.slice A0 n0 c0)) hW => spec_l8All_any r A0 A1 n0 c0 n1 c1 W lo hi h hW hok p hp
  have h16 := (repoOk_iff.1 hok).1
  have hl0 := Commits.n h0
  have hboth := bothM_idx (ancs r.commits a) (ancs r.commits b) (by rw [ancs_len, ancs_len])
  rw [bases_law, hboth]
  have hla := idxOf_len (ancs r.commits a)
  have hlb := idxOf_len (ancs r.commits b)
  rw [ancs_len] at hla hlb
  have hra := idxOf_nonneg (ancs r.commits a)
  rw [ancs_len, ← hl0] at hra
  have hna := idxOf_nodup (ancs r.commits a)
  rw [← hl0] at h16 hla hlb
  obtain ⟨xs, hxs⟩ : ∃ xs, xs = idxOf (ancs r.commits a) := ⟨_, rfl⟩
  obtain ⟨ys, hys⟩ : ∃ ys, ys = idxOf (ancs r.commits b) := ⟨_, rfl⟩
  rw [← hxs] at ca hla hra hna ⊢
  rw [← hys] at cb hlb ⊢
  have Hra := Lib.hid hra
  have Hna := Lib.hid hna
  have Hl0 := Lib.hid hl0
  clear hboth hxs hys hok ha hb hl0 hra hna
  obtain ⟨ii, gi0, gi1, gi2, gi3⟩ := info_parts Tryz.infoIntA
  go_enter Tryz.func39, Tryz.ntmps39
  go_wp2_with fail
  refine Calls.mono (ca _ (h0.keep (hbx _) hh) (by simp; omega)) ?_
  rintro e w2 ⟨A3, n3, c3, rfl, hb2, hf3⟩
  have q0 := box_two (a := w.heap.size) (j := 0) (v := .slice A0 n0 c0) hb2 (by simp [go_sem]) (Nat.le_refl _)
  have q1 := box_two (a := w.heap.size) (j := 1) (v := .slice A1 n1 c1) hb2 (by simp [go_sem]) (Nat.le_refl _)
  have hbw2 : Below w.heap.size w w2 := (hbx _).trans (hb2.mono (by simp))
  have hs2 : w.heap.size < w2.heap.size := by have := hb2.size; simp at this; omega
  have hR3 := hf3.rep
  clear hf3 hb2
  go_wp2_with fail
  refine Calls.mono (cb _ (h0.keep hbw2 hh) (by omega)) ?_
  rintro e w3 ⟨A4, n4, c4, rfl, hb3, hf4⟩
  have hs3 := hb3.size
  have hX := hR3.keep hb3 (Nat.le_refl _)
  have hY := hf4.rep
  have hbw3 := hbw2.trans (hb3.mono (by omega))
  have q03 : w3.cell? ⟨w.heap.size, 0, none⟩ = some (.slice A0 n0 c0) := (hb3.cell (by exact hs2)).trans q0
  have q13 : w3.cell? ⟨w.heap.size, 1, none⟩ = some (.slice A1 n1 c1) := (hb3.cell (by exact hs2)).trans q1
  have hn3 := Ints.n hX
  obtain ⟨hc3, hm3⟩ := Ints.cap hX
  subst hn3
  clear hf4 hR3 q0 q1 hbw2 ca cb hbx hb3
  go_wp2
  go_loopw [9, 10] (fun t i wr => ∃ (k : Nat) (A' : Option Addr) (n' c' : Nat), k ≤ xs.length ∧ i = .int .i64 k ∧ t = .slice A' n' c' ∧ n' = ((xs.take k).filter (hasI ys)).length ∧
      wr.ownsRow w3.heap.size 3 1 (.slice A' n' c') n' (((xs.take k).filter (hasI ys)).map fun x => .int .i64 x) ∧ Below w3.heap.size w3 wr) (fun _ i _ => xs.length - (intOf i).toNat)
  case atStart => exact ⟨0, _, _, _, Nat.zero_le _, rfl, rfl, by simp, by simpa using World.ownsRow_made w3 #[] 0 (Nat.le_refl _) (Nat.zero_le _) rfl, (Below.refl _ _).alloc (Nat.le_refl _) _⟩
  case round =>
    obtain ⟨k, A', n', c', hk, rfl, rfl, hn', hown, hb⟩ := hrel
    have hsr := hb.size
    by_cases hkn : k < xs.length
    · have hkn' : (k : Int) < (xs.length : Int) := by omega
      obtain ⟨b5, o5, y, rfl, _, _, hy, d5⟩ := Ints.at (hX.keep hb (by omega)) hkn
      have c5 := spec_l8Has_any _ _ _ ys y wr _ _ (hY.keep hb (Nat.le_refl _)) hsr (by omega)
      have hstep : (xs.take (k + 1)).filter (hasI ys) = (xs.take k).filter (hasI ys) ++ (if hasI ys y then [y] else []) := by
        rw [List.take_add_one, hy, List.filter_append]
        congr 1
        simp only [Option.toList, List.filter_cons, List.filter_nil]
      have hlen : ((xs.take k).filter (hasI ys)).length ≤ 16 := Nat.le_trans (List.length_filter_le _ _) (by simp; omega)
      obtain ⟨done, hdone⟩ : ∃ done, done = (xs.take k).filter (hasI ys) := ⟨_, rfl⟩
      rw [← hdone] at hn' hown hstep hlen
      subst hn'
      clear hy hdone
      cases hh5 : hasI ys y
      · rw [hh5] at c5 hstep
        have Hstep := Lib.hid hstep
        clear hstep hh5
        go_wp2_with fail
        refine Calls.mono c5 ?_
        rintro e wx ⟨rfl, rfl⟩
        go_wp2
        go_roundw
        case rel => exact ⟨k + 1, A', _, c', by omega, by go_num, rfl, by rw [Hstep.out]; simp, by rw [Hstep.out]; simpa using hown, hb⟩
        case measure => first | (simp [intOf]; done) | (simp [intOf]; omega)
      · rw [hh5] at c5 hstep
        have Hstep := Lib.hid hstep
        clear hstep hh5
        go_wp2_with fail
        refine Calls.mono c5 ?_
        rintro e wx ⟨rfl, rfl⟩
        go_wp2_with (at_builtin; refine wpList_append_src _ rfl (.tmp 34) (.tmp 39) _ rfl w3.heap.size 3 ii _ 1 8 Tryz.underlying48 gi0 gi1 gi2 gi3 rfl (by omega) _ done.length _ rfl (hown.alloc _) _ 1 1 [.int .i64 y] rfl (Src.lit wr 3 [.int .i64 y] 1 1 rfl) ?e2 ?e3 ?e4 ?e5 ?_)
        case e2 => first | rfl | (intro u hu; simp at hu; subst hu; rfl)
        case e3 => unfold maxLen; omega
        case e4 => omega
        case e5 => first | omega | (simp; omega)
        intro A7 c7 w7 hown7 hg7 hat7
        have hb7 : Below w3.heap.size w3 w7 := (hb.alloc (by omega) _).grown hg7 (by simp; omega) (fun g hg => (hown.lt g hg).1)
        clear hat7 hg7
        go_wp2
        go_roundw
        case rel => exact ⟨k + 1, A7, _, c7, by omega, by go_num, rfl, by rw [Hstep.out]; simp, by rw [Hstep.out]; simpa using hown7, hb7⟩
        case measure => first | (simp [intOf]; done) | (simp [intOf]; omega)
    · obtain rfl : k = xs.length := by omega
      rw [List.take_length] at hn' hown
      subst hn'
      have hbl : (xs.filter (hasI ys)).length ≤ 16 := Nat.le_trans (List.length_filter_le _ _) (by omega)
      have hrb : ∀ p ∈ xs.filter (hasI ys), 0 ≤ p ∧ p < (n0 : Int) := fun p hp => Hra.out p (List.mem_filter.1 hp).1
      have hnb : (xs.filter (hasI ys)).Nodup := List.Nodup.sublist List.filter_sublist Hna.out
      obtain ⟨bo, hbo⟩ : ∃ bo, bo = xs.filter (hasI ys) := ⟨_, rfl⟩
      rw [← hbo] at hown hbl hrb hnb ⊢
      have Hbo := Lib.hid hbo
      have Hrb := Lib.hid hrb
      have Hnb := Lib.hid hnb
      have hRb : Rep wr w3.heap.size wr.heap.size (encInts bo) (.slice A' bo.length c') := (Fresh.of_row hown (owns_ints _ _)).rep
      have hbw := hbw3.trans (hb.mono hbw3.size)
      have p0 : wr.cell? ⟨w.heap.size, 0, none⟩ = some (.slice A0 n0 c0) := (hb.cell (by show w.heap.size < _; omega)).trans q03
      have p1 : wr.cell? ⟨w.heap.size, 1, none⟩ = some (.slice A1 n1 c1) := (hb.cell (by show w.heap.size < _; omega)).trans q13
      obtain ⟨w4, rfl⟩ : ∃ w4 : World, w4 = wr := ⟨_, rfl⟩
      clear hbo hrb hnb hown q03 q13 hX hY
      have hcap := Ints.cap hRb
      go_wp2
      go_loopw [11, 12] (fun t i wr => ∃ (k : Nat) (A2 : Option Addr) (n2 c2 : Nat), k ≤ bo.length ∧ i = .int .i64 k ∧ t = .slice A2 n2 c2 ∧ n2 = ((bo.take k).filter (best r.commits bo)).length ∧
          wr.ownsRow w4.heap.size 3 1 (.slice A2 n2 c2) n2 (((bo.take k).filter (best r.commits bo)).map fun x => .int .i64 x) ∧ Below w4.heap.size w4 wr) (fun _ i _ => bo.length - (intOf i).toNat)
      case atStart => exact ⟨0, _, _, _, Nat.zero_le _, rfl, rfl, by simp, by simpa using World.ownsRow_made w4 #[] 0 (Nat.le_refl _) (Nat.zero_le _) rfl, (Below.refl _ _).alloc (Nat.le_refl _) _⟩
      case round =>
        obtain ⟨k, A2, n2, c2, hk, rfl, rfl, hn2, hown, hb⟩ := hrel
        obtain ⟨wo, rfl⟩ : ∃ wo : World, wo = wr := ⟨_, rfl⟩
        have hso := hb.size
        by_cases hkn : k < bo.length
        · have hkn' : (k : Int) < (bo.length : Int) := by omega
          obtain ⟨b5, o5, y, hA', _, hbl, hy, dk⟩ := Ints.at (hRb.keep hb (Nat.le_refl _)) hkn
          have hstep : (bo.take (k + 1)).filter (best r.commits bo) = (bo.take k).filter (best r.commits bo) ++ (if best r.commits bo y then [y] else []) := by
            rw [List.take_add_one, hy, List.filter_append]
            congr 1
            simp only [Option.toList, List.filter_cons, List.filter_nil]
          have hball := bestAt_all r.commits Hnb.out hy
          have hyk : bo.getD k 0 = y := by simp [List.getD, hy]
          obtain ⟨hy0, hy1⟩ := Hrb.out y (List.mem_of_getElem? hy)
          have Hy := Lib.hid hy
          have Hyk := Lib.hid hyk
          have Hstep := Lib.hid hstep
          have Hball := Lib.hid hball
          have hbl8 : ((bo.take k).filter (best r.commits bo)).length ≤ 16 := Nat.le_trans (List.length_filter_le _ _) (by simp; omega)
          obtain ⟨done, hdone⟩ : ∃ done, done = (bo.take k).filter (best r.commits bo) := ⟨_, rfl⟩
          rw [← hdone] at hn2 hown hbl8
          have Hdone := Lib.hid hdone
          subst hn2
          subst hA'
          have o0 : wo.cell? ⟨w.heap.size, 0, none⟩ = some (.slice A0 n0 c0) := (hb.cell (by show w.heap.size < _; omega)).trans p0
          have o1 : wo.cell? ⟨w.heap.size, 1, none⟩ = some (.slice A1 n1 c1) := (hb.cell (by show w.heap.size < _; omega)).trans p1
          have hbwo := hbw.trans (hb.mono hbw.size)
          clear hstep hball hyk hy hdone
          go_wp2
          go_loopw [13, 14] (fun t i wr => ∃ l : Nat, l ≤ bo.length ∧ i = .int .i64 l ∧ t = .bool (bestAt r.commits bo k l) ∧ Below wo.heap.size wo wr) (fun _ i _ => bo.length - (intOf i).toNat)
          case atStart => exact ⟨0, Nat.zero_le _, rfl, rfl, Below.refl _ _⟩
          case round =>
            obtain ⟨l, hl, rfl, rfl, hbi⟩ := hrel
            have hsi := hbi.size
            by_cases hln : l < bo.length
            · have hln' : (l : Int) < (bo.length : Int) := by omega
              obtain ⟨b6, o6, q, hA6, _, _, hqx, dl⟩ := Ints.at (hRb.keep (hb.trans (hbi.mono hso)) (Nat.le_refl _)) hln
              cases hA6
              have hql : bo.getD l 0 = q := by simp [List.getD, hqx]
              obtain ⟨hq0, hq1⟩ := Hrb.out q (List.mem_of_getElem? hqx)
              obtain ⟨p, rfl⟩ : ∃ p : Nat, q = p := ⟨q.toNat, by omega⟩
              have hpa : p < n0 := by omega
              have hnext := bestAt_succ r.commits bo k l
              rw [hql, Hyk.out] at hnext
              have Hnext := Lib.hid hnext
              have dki : wr.cell? ⟨b5, o5 + k, none⟩ = some (.int .i64 y) := (hbi.cell (by exact Nat.lt_of_lt_of_le hbl hso)).trans dk
              have r0 : wr.cell? ⟨w.heap.size, 0, none⟩ = some (.slice A0 n0 c0) := (hbi.cell (by show w.heap.size < _; omega)).trans o0
              have r1 : wr.cell? ⟨w.heap.size, 1, none⟩ = some (.slice A1 n1 c1) := (hbi.cell (by show w.heap.size < _; omega)).trans o1
              clear hnext hql hqx
              cases hbest : bestAt r.commits bo k l
              · have hn := Hnext.out
                rw [hbest, Bool.false_and] at hn
                have Hn := Lib.hid hn
                clear hn hbest
                go_wp2
                go_quiet (fail)
                go_wp2
                go_roundw
                case rel => exact ⟨l + 1, by omega, by go_num, by rw [Hn.out], below_drewN hbi _⟩
                case measure => first | (simp [intOf]; done) | (simp [intOf]; omega)
              · have hn := Hnext.out
                rw [hbest, Bool.true_and] at hn
                by_cases hlk : l = k
                · subst hlk
                  have hlk2 : ((l : Int) == (l : Int)) = true := by simp
                  rw [decide_eq_true rfl, Bool.true_or] at hn
                  have Hn := Lib.hid hn
                  clear hn hbest
                  go_wp2
                  go_quiet (fail)
                  go_wp2
                  go_roundw
                  case rel => exact ⟨l + 1, by omega, by go_num, by rw [Hn.out], below_drewN hbi _⟩
                  case measure => first | (simp [intOf]; done) | (simp [intOf]; omega)
                · have hlk2 : ((l : Int) == (k : Int)) = false := by simp; omega
                  rw [decide_eq_false hlk, Bool.false_or, Int.toNat_natCast] at hn
                  have Hn := Lib.hid hn
                  have cpp := cp p (by rw [← Hl0.out]; exact hpa)
                  have hRr := h0.keep (hbwo.trans (hbi.mono hbwo.size)) hh
                  have hhr : hi ≤ wr.heap.size := by have := hbwo.size; omega
                  have hlen := idxOf_len (ancs r.commits p)
                  rw [ancs_len, ← Hl0.out] at hlen
                  have hb5lt : b5 < wr.heap.size := by omega
                  have hwlt : w.heap.size < wr.heap.size := by omega
                  obtain ⟨ms, hms⟩ : ∃ ms, ms = idxOf (ancs r.commits p) := ⟨_, rfl⟩
                  rw [← hms] at cpp hlen
                  have Hms := Lib.hid hms
                  clear hn hbest hlk hms
                  go_wp2
                  go_region_held3 (fun w' => w'.cell? ⟨w.heap.size, 0, none⟩ = some (.slice A0 n0 c0) ∧ w'.cell? ⟨w.heap.size, 1, none⟩ = some (.slice A1 n1 c1) ∧ w'.cell? ⟨b5, o5 + l, none⟩ = some (.int .i64 p) ∧ w'.cell? ⟨b5, o5 + k, none⟩ = some (.int .i64 y)) (first | trivial | exact ⟨r0, r1, dl, dki⟩ | exact ⟨cx0, cx1, cx2, cx3⟩ | go_keep) (first
                    | (go_at_call 59; refine (spec_l8Has_any A5 n5 c5 ms y w5 wr.heap.size w5.heap.size hf5.rep (Nat.le_refl _) (by omega)).mono ?_
                       rintro e w6 ⟨rfl, rfl⟩)
                    | (go_at_call 58; refine (cpp wr.drew (show Rep wr.drew lo hi _ (.slice A0 n0 c0) from hRr.drewN 1) (show hi ≤ wr.heap.size from hhr)).mono ?_
                       rintro e w5 ⟨A5, n5, c5, rfl, hb5, hf5⟩
                       have cx0 : w5.cell? ⟨w.heap.size, 0, none⟩ = some (.slice A0 n0 c0) := (hb5.cell (p := ⟨w.heap.size, 0, none⟩) (by exact hwlt)).trans r0
                       have cx1 : w5.cell? ⟨w.heap.size, 1, none⟩ = some (.slice A1 n1 c1) := (hb5.cell (p := ⟨w.heap.size, 1, none⟩) (by exact hwlt)).trans r1
                       have cx2 : w5.cell? ⟨b5, o5 + l, none⟩ = some (.int .i64 p) := (hb5.cell (p := ⟨b5, o5 + l, none⟩) (by exact hb5lt)).trans dl
                       have cx3 : w5.cell? ⟨b5, o5 + k, none⟩ = some (.int .i64 y) := (hb5.cell (p := ⟨b5, o5 + k, none⟩) (by exact hb5lt)).trans dki))
                  have hb5' : Below wr.heap.size wr w5 := ⟨hb5.os, hb5.tape, hb5.output, hb5.size, hb5.block⟩
                  have hbn := hbi.trans (hb5'.mono hsi)
                  clear hb5 hf5 hb5'
                  go_wp2
                  go_roundw
                  case rel => exact ⟨l + 1, by omega, by go_num, by rw [Hn.out, Hms.out], hbn⟩
                  case measure => first | (simp [intOf]; done) | (simp [intOf]; omega)
            · obtain rfl : l = bo.length := by omega
              have hdk : wr.cell? ⟨b5, o5 + k, none⟩ = some (.int .i64 y) := (hbi.cell (by exact Nat.lt_of_lt_of_le hbl hso)).trans dk
              have hown2 := ownsRow_same (w' := wr) hown (fun q hq => hbi.block q (by have := hown.lt q (by simpa using hq); exact this.2))
              have hbz := hb.trans (hbi.mono hso)
              rw [Hball.out]
              cases hbest : best r.commits bo y
              · have hst := Hstep.out
                rw [hbest, ← Hdone.out] at hst
                have Hst := Lib.hid hst
                clear hst hbest
                go_wp2
                go_roundw
                case rel => exact ⟨k + 1, A2, _, c2, by omega, by go_num, rfl, by rw [Hst.out]; simp, by rw [Hst.out]; simpa using hown2, hbz⟩
                case measure => first | (simp [intOf]; done) | (simp [intOf]; omega)
              · have hst := Hstep.out
                rw [hbest, ← Hdone.out] at hst
                have Hst := Lib.hid hst
                clear hst hbest
                go_wp2_with (at_builtin; refine wpList_append_src _ rfl (.tmp 75) (.tmp 80) _ rfl w4.heap.size 3 ii _ 1 8 Tryz.underlying48 gi0 gi1 gi2 gi3 rfl (by omega) _ done.length _ rfl (hown2.alloc _) _ 1 1 [.int .i64 y] rfl (Src.lit wr 3 [.int .i64 y] 1 1 rfl) ?e2 ?e3 ?e4 ?e5 ?_)
                case e2 => first | rfl | (intro u hu; simp at hu; subst hu; rfl)
                case e3 => unfold maxLen; omega
                case e4 => omega
                case e5 => first | omega | (simp; omega)
                intro A7 c7 w7 hown7 hg7 hat7
                have hb7 : Below w4.heap.size w4 w7 := (hbz.alloc (by omega) _).grown hg7 (by simp; omega) (fun g hg => (hown2.lt g hg).1)
                clear hat7 hg7
                go_wp2
                go_roundw
                case rel => exact ⟨k + 1, A7, _, c7, by omega, by go_num, rfl, by rw [Hst.out]; simp, by rw [Hst.out]; simpa using hown7, hb7⟩
                case measure => first | (simp [intOf]; done) | (simp [intOf]; omega)
        · obtain rfl : k = bo.length := by omega
          rw [List.take_length] at hn2 hown
          subst hn2
          have hf := (Fresh.of_row hown (owns_ints _ _)).mono (lo' := w.heap.size) hbw.size (Nat.le_refl _)
          have Hf := Lib.hid hf
          have hbz := hbw.trans (hb.mono hbw.size)
          clear hf hown
          go_wp2
          go_ret
          exact ⟨_, _, _, rfl, hbz, by have hf := Hf.out; rw [Hbo.out] at hf ⊢; exact hf⟩
end Go.Proofs.YtenkceeicmfjhaaGreatDoor
