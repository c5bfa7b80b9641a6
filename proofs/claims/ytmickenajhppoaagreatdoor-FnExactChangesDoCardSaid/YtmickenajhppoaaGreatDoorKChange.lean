import Derived.Test.YtmickenajhppoaaGreatDoorZ13
import Derived.Test.YtmickenajhppoaaGreatDoorKHunk
/- Walks: the laws' own helpers that mark a slice of Change, and look whether the marks stand. Printed by wip/marks.py. -/
namespace Go.Proofs.YtmickenajhppoaaGreatDoor
open Go.RowKit
def cntChange (x : PChange) : Nat := 1 + 1 + 1 + (x.text.length) + (cntHunks x.patch)
def cntChanges (xs : List PChange) : Nat := (xs.map cntChange).sum
def markChange (k : Int) (x : PChange) : PChange := ⟨k, markT (k + 1), markT ((k + 1) + 1), markTs (((k + 1) + 1) + 1) x.text, markHunks ((((k + 1) + 1) + 1) + (x.text.length : Nat)) x.patch⟩
def markChanges (k : Int) (xs : List PChange) : List PChange := marksWith cntChange markChange k xs
set_option maxHeartbeats 1600000 in
theorem markChangeS_any (A : Option Addr) (n c : Nat) (xs : List PChange) (k : Int) (w : World) (F : List Nat) (h : Own w (encChanges xs) (.slice A n c) F) (hnd : F.Nodup) (h0 : 0 ≤ k) (h1 : k + cntChanges xs ≤ 1099511627776) :
    Calls Tryz.prog 13 #[.slice A n c, .int .i64 k] w fun e w' => e = .returned (.int .i64 (k + cntChanges xs)) ∧ Own w' (encChanges (markChanges k xs)) (.slice A n c) F ∧ Only F w w' := by
  obtain ⟨us, G, hown, hF, ho, hl, hc, hm, hA⟩ := Own.open_ h
  have hl : n = xs.length := by rw [length_flatMap_z cChanges_len] at hl; omega
  subst hl
  clear h
  rw [← halfWith_zero cntChange markChange k xs] at ho
  have hGn : G.Nodup := by rw [hF] at hnd; exact (List.nodup_append.1 hnd).2.1
  have hGF : ∀ q ∈ G, q ∈ F := fun q hq => by rw [hF]; exact List.mem_append_right _ hq
  go_enter Tryz.func13, Tryz.ntmps13
  go_wp2
  go_loopw [1, 5] (fun kk i wr => ∃ (m : Nat) (us : List Value), m ≤ xs.length ∧ i = .int .i64 m ∧ kk = .int .i64 (k + (((xs.take m).map cntChange).sum : Nat)) ∧ wr.ownsRow 0 52 5 (.slice A xs.length c) xs.length us ∧ Owns wr ((halfWith cntChange markChange k xs m).flatMap cChanges) us G ∧ Only F w wr) (fun _ i _ => xs.length - (intOf i).toNat)
  case atStart => exact ⟨0, us, Nat.zero_le _, rfl, by simp, hown, ho, Only.refl _ _⟩
  case round =>
    clear hown ho
    obtain ⟨m, us, hk, rfl, rfl, hown, ho, hon⟩ := hrel
    by_cases hkn : m < xs.length
    · obtain ⟨g, rfl⟩ := hA (by omega)
      have hkn' : (m : Int) < (xs.length : Int) := by omega
      obtain ⟨x, hx⟩ : ∃ x, xs[m]? = some x := ⟨_, List.getElem?_eq_getElem hkn⟩
      have hgG := own_row_ne hF hnd
      have hgF : g ∈ F := by rw [hF]; simp [Value.ownBlock]
      have hs1 := sum_take_succ (cnt := cntChange) hx
      have hs2 := sum_take_le (cnt := cntChange) xs (m + 1)
      have hstep := halfWith_step cntChange markChange k hx
      have hpx : ∀ j, j < 5 → ((halfWith cntChange markChange k xs m).flatMap cChanges)[m * 5 + j]? = (cChanges x)[j]? := by
        intro j hj
        rw [flatMap_at cChanges_len _ _ _ hj, halfWith_at, hx]; rfl
      have hfin := flatMap_set cChanges_len (markChange (k + (((xs.take m).map cntChange).sum : Nat)) x) (halfWith cntChange markChange k xs m) m (by rw [halfWith_length]; exact hkn)
      rw [hstep] at hfin
      have hK0 : 0 ≤ k + (((xs.take m).map cntChange).sum : Nat) := by omega
      have hK1 : k + (((xs.take m).map cntChange).sum : Nat) + (cntChange x : Nat) ≤ 1099511627776 := by unfold cntChanges at h1; omega
      have hK2 : k + (((xs.take (m + 1)).map cntChange).sum : Nat) = k + (((xs.take m).map cntChange).sum : Nat) + (cntChange x : Nat) := by omega
      obtain ⟨K, eK⟩ : ∃ K : Int, K = k + (((xs.take m).map cntChange).sum : Nat) := ⟨_, rfl⟩
      rw [← eK] at hfin hK0 hK1 hK2 ⊢
      obtain ⟨ps, eps⟩ : ∃ ps, ps = (halfWith cntChange markChange k xs m).flatMap cChanges := ⟨_, rfl⟩
      rw [← eps] at ho hpx hfin
      have Hfin := Lib.hid hfin
      have HK2 := Lib.hid hK2
      unfold cntChange at hK1
      have hul := hown.1
      have hp_0 : Hid (ps[m * 5]? = some (.int .i64 x.kind)) := Lib.hid (hpx 0 (by omega))
      have hp_1 : Hid (ps[m * 5 + 1]? = some (.str x.path)) := Lib.hid (hpx 1 (by omega))
      have hp_2 : Hid (ps[m * 5 + 2]? = some (.str x.dest)) := Lib.hid (hpx 2 (by omega))
      have hp_3 : Hid (ps[m * 5 + 3]? = some (encText x.text)) := Lib.hid (hpx 3 (by omega))
      have hp_4 : Hid (ps[m * 5 + 4]? = some (encHunks x.patch)) := Lib.hid (hpx 4 (by omega))
      clear hx hs1 hs2 hstep hpx hfin hK2 eK eps hk
      obtain ⟨v0, hu0⟩ : ∃ u, us[m * 5]? = some u := ⟨us[m * 5]'(by omega), List.getElem?_eq_getElem (by omega)⟩
      have hu_0 := Lib.hid hu0
      obtain ⟨v1, hu1⟩ : ∃ u, us[m * 5 + 1]? = some u := ⟨us[m * 5 + 1]'(by omega), List.getElem?_eq_getElem (by omega)⟩
      have hu_1 := Lib.hid hu1
      obtain ⟨v2, hu2⟩ : ∃ u, us[m * 5 + 2]? = some u := ⟨us[m * 5 + 2]'(by omega), List.getElem?_eq_getElem (by omega)⟩
      have hu_2 := Lib.hid hu2
      obtain ⟨v3, _, _, _, hu3, _, q3, _⟩ := Owns.at ho hp_3.out
      obtain ⟨A3, n3, c3, rfl⟩ := q3.shape
      have hu_3 := Lib.hid hu3
      obtain ⟨v4, _, _, _, hu4, _, q4, _⟩ := Owns.at ho hp_4.out
      obtain ⟨A4, n4, c4, rfl⟩ := q4.shape
      have hu_4 := Lib.hid hu4
      clear hu0 hu1 hu2 hu3 hu4 q3 q4 hul
      have y0 := hown.cellAt (m * 5) (by omega)
      rw [hu_0.out] at y0
      have y1 := hown.cellAt (m * 5 + 1) (by omega)
      rw [hu_1.out] at y1
      have y2 := hown.cellAt (m * 5 + 2) (by omega)
      rw [hu_2.out] at y2
      have y3 := hown.cellAt (m * 5 + 3) (by omega)
      rw [hu_3.out] at y3
      have y4 := hown.cellAt (m * 5 + 4) (by omega)
      rw [hu_4.out] at y4
      have hfr := fun j => hown.frozenAt j
      have own1 := (hown.stored (m * 5) (.int .i64 K)).1
      have oo1 := ho.plain_set (w' := wr.setCell ⟨g, m * 5, none⟩ (.int .i64 K)) (p' := .int .i64 K) (u' := .int .i64 K) hp_0.out (fun w u F h => h.2) (fun q hq => Below.heap_setCell wr ⟨g, m * 5, none⟩ _ q (hgG q hq)) (fun w => ⟨rfl, rfl⟩)
      have on1 := hon.setCell (p := ⟨g, m * 5, none⟩) hgF (.int .i64 K)
      have hul1 := hown.1
      have hu1_0 : Hid ((us.set (m * 5) (.int .i64 K))[m * 5]? = some (.int .i64 K)) := Lib.hid (List.getElem?_set_self (by omega))
      have hp1_0 : Hid ((ps.set (m * 5) (.int .i64 K))[m * 5]? = some (.int .i64 K)) := Lib.hid (List.getElem?_set_self (List.getElem?_eq_some_iff.1 hp_0.out).1)
      have hu1_1 : Hid ((us.set (m * 5) (.int .i64 K))[m * 5 + 1]? = _) := Lib.hid ((List.getElem?_set_ne (by omega)).trans hu_1.out)
      have hp1_1 : Hid ((ps.set (m * 5) (.int .i64 K))[m * 5 + 1]? = _) := Lib.hid ((List.getElem?_set_ne (by omega)).trans hp_1.out)
      have hu1_2 : Hid ((us.set (m * 5) (.int .i64 K))[m * 5 + 2]? = _) := Lib.hid ((List.getElem?_set_ne (by omega)).trans hu_2.out)
      have hp1_2 : Hid ((ps.set (m * 5) (.int .i64 K))[m * 5 + 2]? = _) := Lib.hid ((List.getElem?_set_ne (by omega)).trans hp_2.out)
      have hu1_3 : Hid ((us.set (m * 5) (.int .i64 K))[m * 5 + 3]? = _) := Lib.hid ((List.getElem?_set_ne (by omega)).trans hu_3.out)
      have hp1_3 : Hid ((ps.set (m * 5) (.int .i64 K))[m * 5 + 3]? = _) := Lib.hid ((List.getElem?_set_ne (by omega)).trans hp_3.out)
      have hu1_4 : Hid ((us.set (m * 5) (.int .i64 K))[m * 5 + 4]? = _) := Lib.hid ((List.getElem?_set_ne (by omega)).trans hu_4.out)
      have hp1_4 : Hid ((ps.set (m * 5) (.int .i64 K))[m * 5 + 4]? = _) := Lib.hid ((List.getElem?_set_ne (by omega)).trans hp_4.out)
      clear hown ho hon hul1 hu_0 hu_1 hu_2 hu_3 hu_4 hp_0 hp_1 hp_2 hp_3 hp_4
      go_wp2_with fail
      refine Calls.mono (markText_any (K + 1) _ (by omega)) ?_
      rintro e w2 ⟨rfl, hb2⟩
      have ln2 := own1.lt g rfl
      have lo2 := oo1.lt
      have own2 := ownsRow_same (w' := w2) own1 (fun q hq => hb2.block q (by have := own1.lt q (by simpa using hq); exact this.2))
      have oo2 := Owns.same _ _ _ oo1 (w' := w2) (fun q hq => hb2.block q (lo2 q hq))
      have on2 := on1.trans (Only.of_below hb2)
      clear y0 y1 y2 y3 y4 hfr own1 oo1 on1 hb2 ln2 lo2
      have y0 := own2.cellAt (m * 5) (by omega)
      rw [hu1_0.out] at y0
      have y1 := own2.cellAt (m * 5 + 1) (by omega)
      rw [hu1_1.out] at y1
      have y2 := own2.cellAt (m * 5 + 2) (by omega)
      rw [hu1_2.out] at y2
      have y3 := own2.cellAt (m * 5 + 3) (by omega)
      rw [hu1_3.out] at y3
      have y4 := own2.cellAt (m * 5 + 4) (by omega)
      rw [hu1_4.out] at y4
      have hfr := fun j => own2.frozenAt j
      have own3 := (own2.stored (m * 5 + 1) (.string ⟨(markT (K + 1)).toArray⟩)).1
      have oo3 := oo2.plain_set (w' := w2.setCell ⟨g, m * 5 + 1, none⟩ (.string ⟨(markT (K + 1)).toArray⟩)) (p' := .str (markT (K + 1))) (u' := .string ⟨(markT (K + 1)).toArray⟩) hp1_1.out (fun w u F h => h.2) (fun q hq => Below.heap_setCell w2 ⟨g, m * 5 + 1, none⟩ _ q (hgG q hq)) (fun w => ⟨rfl, rfl⟩)
      have on3 := on2.setCell (p := ⟨g, m * 5 + 1, none⟩) hgF (.string ⟨(markT (K + 1)).toArray⟩)
      have hul3 := own2.1
      have hu3_0 : Hid (((us.set (m * 5) (.int .i64 K)).set (m * 5 + 1) (.string ⟨(markT (K + 1)).toArray⟩))[m * 5]? = _) := Lib.hid ((List.getElem?_set_ne (by omega)).trans hu1_0.out)
      have hp3_0 : Hid (((ps.set (m * 5) (.int .i64 K)).set (m * 5 + 1) (.str (markT (K + 1))))[m * 5]? = _) := Lib.hid ((List.getElem?_set_ne (by omega)).trans hp1_0.out)
      have hu3_1 : Hid (((us.set (m * 5) (.int .i64 K)).set (m * 5 + 1) (.string ⟨(markT (K + 1)).toArray⟩))[m * 5 + 1]? = some (.string ⟨(markT (K + 1)).toArray⟩)) := Lib.hid (List.getElem?_set_self (by omega))
      have hp3_1 : Hid (((ps.set (m * 5) (.int .i64 K)).set (m * 5 + 1) (.str (markT (K + 1))))[m * 5 + 1]? = some (.str (markT (K + 1)))) := Lib.hid (List.getElem?_set_self (List.getElem?_eq_some_iff.1 hp1_1.out).1)
      have hu3_2 : Hid (((us.set (m * 5) (.int .i64 K)).set (m * 5 + 1) (.string ⟨(markT (K + 1)).toArray⟩))[m * 5 + 2]? = _) := Lib.hid ((List.getElem?_set_ne (by omega)).trans hu1_2.out)
      have hp3_2 : Hid (((ps.set (m * 5) (.int .i64 K)).set (m * 5 + 1) (.str (markT (K + 1))))[m * 5 + 2]? = _) := Lib.hid ((List.getElem?_set_ne (by omega)).trans hp1_2.out)
      have hu3_3 : Hid (((us.set (m * 5) (.int .i64 K)).set (m * 5 + 1) (.string ⟨(markT (K + 1)).toArray⟩))[m * 5 + 3]? = _) := Lib.hid ((List.getElem?_set_ne (by omega)).trans hu1_3.out)
      have hp3_3 : Hid (((ps.set (m * 5) (.int .i64 K)).set (m * 5 + 1) (.str (markT (K + 1))))[m * 5 + 3]? = _) := Lib.hid ((List.getElem?_set_ne (by omega)).trans hp1_3.out)
      have hu3_4 : Hid (((us.set (m * 5) (.int .i64 K)).set (m * 5 + 1) (.string ⟨(markT (K + 1)).toArray⟩))[m * 5 + 4]? = _) := Lib.hid ((List.getElem?_set_ne (by omega)).trans hu1_4.out)
      have hp3_4 : Hid (((ps.set (m * 5) (.int .i64 K)).set (m * 5 + 1) (.str (markT (K + 1))))[m * 5 + 4]? = _) := Lib.hid ((List.getElem?_set_ne (by omega)).trans hp1_4.out)
      clear own2 oo2 on2 hul3 hu1_0 hu1_1 hu1_2 hu1_3 hu1_4 hp1_0 hp1_1 hp1_2 hp1_3 hp1_4
      go_wp2_with fail
      refine Calls.mono (markText_any ((K + 1) + 1) _ (by omega)) ?_
      rintro e w4 ⟨rfl, hb4⟩
      have ln4 := own3.lt g rfl
      have lo4 := oo3.lt
      have own4 := ownsRow_same (w' := w4) own3 (fun q hq => hb4.block q (by have := own3.lt q (by simpa using hq); exact this.2))
      have oo4 := Owns.same _ _ _ oo3 (w' := w4) (fun q hq => hb4.block q (lo4 q hq))
      have on4 := on3.trans (Only.of_below hb4)
      clear y0 y1 y2 y3 y4 hfr own3 oo3 on3 hb4 ln4 lo4
      have y0 := own4.cellAt (m * 5) (by omega)
      rw [hu3_0.out] at y0
      have y1 := own4.cellAt (m * 5 + 1) (by omega)
      rw [hu3_1.out] at y1
      have y2 := own4.cellAt (m * 5 + 2) (by omega)
      rw [hu3_2.out] at y2
      have y3 := own4.cellAt (m * 5 + 3) (by omega)
      rw [hu3_3.out] at y3
      have y4 := own4.cellAt (m * 5 + 4) (by omega)
      rw [hu3_4.out] at y4
      have hfr := fun j => own4.frozenAt j
      have own5 := (own4.stored (m * 5 + 2) (.string ⟨(markT ((K + 1) + 1)).toArray⟩)).1
      have oo5 := oo4.plain_set (w' := w4.setCell ⟨g, m * 5 + 2, none⟩ (.string ⟨(markT ((K + 1) + 1)).toArray⟩)) (p' := .str (markT ((K + 1) + 1))) (u' := .string ⟨(markT ((K + 1) + 1)).toArray⟩) hp3_2.out (fun w u F h => h.2) (fun q hq => Below.heap_setCell w4 ⟨g, m * 5 + 2, none⟩ _ q (hgG q hq)) (fun w => ⟨rfl, rfl⟩)
      have on5 := on4.setCell (p := ⟨g, m * 5 + 2, none⟩) hgF (.string ⟨(markT ((K + 1) + 1)).toArray⟩)
      have hul5 := own4.1
      have hu5_0 : Hid ((((us.set (m * 5) (.int .i64 K)).set (m * 5 + 1) (.string ⟨(markT (K + 1)).toArray⟩)).set (m * 5 + 2) (.string ⟨(markT ((K + 1) + 1)).toArray⟩))[m * 5]? = _) := Lib.hid ((List.getElem?_set_ne (by omega)).trans hu3_0.out)
      have hp5_0 : Hid ((((ps.set (m * 5) (.int .i64 K)).set (m * 5 + 1) (.str (markT (K + 1)))).set (m * 5 + 2) (.str (markT ((K + 1) + 1))))[m * 5]? = _) := Lib.hid ((List.getElem?_set_ne (by omega)).trans hp3_0.out)
      have hu5_1 : Hid ((((us.set (m * 5) (.int .i64 K)).set (m * 5 + 1) (.string ⟨(markT (K + 1)).toArray⟩)).set (m * 5 + 2) (.string ⟨(markT ((K + 1) + 1)).toArray⟩))[m * 5 + 1]? = _) := Lib.hid ((List.getElem?_set_ne (by omega)).trans hu3_1.out)
      have hp5_1 : Hid ((((ps.set (m * 5) (.int .i64 K)).set (m * 5 + 1) (.str (markT (K + 1)))).set (m * 5 + 2) (.str (markT ((K + 1) + 1))))[m * 5 + 1]? = _) := Lib.hid ((List.getElem?_set_ne (by omega)).trans hp3_1.out)
      have hu5_2 : Hid ((((us.set (m * 5) (.int .i64 K)).set (m * 5 + 1) (.string ⟨(markT (K + 1)).toArray⟩)).set (m * 5 + 2) (.string ⟨(markT ((K + 1) + 1)).toArray⟩))[m * 5 + 2]? = some (.string ⟨(markT ((K + 1) + 1)).toArray⟩)) := Lib.hid (List.getElem?_set_self (by omega))
      have hp5_2 : Hid ((((ps.set (m * 5) (.int .i64 K)).set (m * 5 + 1) (.str (markT (K + 1)))).set (m * 5 + 2) (.str (markT ((K + 1) + 1))))[m * 5 + 2]? = some (.str (markT ((K + 1) + 1)))) := Lib.hid (List.getElem?_set_self (List.getElem?_eq_some_iff.1 hp3_2.out).1)
      have hu5_3 : Hid ((((us.set (m * 5) (.int .i64 K)).set (m * 5 + 1) (.string ⟨(markT (K + 1)).toArray⟩)).set (m * 5 + 2) (.string ⟨(markT ((K + 1) + 1)).toArray⟩))[m * 5 + 3]? = _) := Lib.hid ((List.getElem?_set_ne (by omega)).trans hu3_3.out)
      have hp5_3 : Hid ((((ps.set (m * 5) (.int .i64 K)).set (m * 5 + 1) (.str (markT (K + 1)))).set (m * 5 + 2) (.str (markT ((K + 1) + 1))))[m * 5 + 3]? = _) := Lib.hid ((List.getElem?_set_ne (by omega)).trans hp3_3.out)
      have hu5_4 : Hid ((((us.set (m * 5) (.int .i64 K)).set (m * 5 + 1) (.string ⟨(markT (K + 1)).toArray⟩)).set (m * 5 + 2) (.string ⟨(markT ((K + 1) + 1)).toArray⟩))[m * 5 + 4]? = _) := Lib.hid ((List.getElem?_set_ne (by omega)).trans hu3_4.out)
      have hp5_4 : Hid ((((ps.set (m * 5) (.int .i64 K)).set (m * 5 + 1) (.str (markT (K + 1)))).set (m * 5 + 2) (.str (markT ((K + 1) + 1))))[m * 5 + 4]? = _) := Lib.hid ((List.getElem?_set_ne (by omega)).trans hp3_4.out)
      clear own4 oo4 on4 hul5 hu3_0 hu3_1 hu3_2 hu3_3 hu3_4 hp3_0 hp3_1 hp3_2 hp3_3 hp3_4
      obtain ⟨t6, Fa6, F6, Fb6, ht6, hG6, hq6, hset6⟩ := Owns.at oo5 hp5_3.out
      obtain rfl := Option.some.inj (ht6.symm.trans hu5_3.out)
      have hnd6 : (Fa6 ++ (F6 ++ Fb6)).Nodup := hG6 ▸ hGn
      have sub6 : ∀ q ∈ F6, q ∈ F := fun q hq => hGF q (by rw [hG6]; simp [hq])
      have hgn6 : ∀ q ∈ F6, q ≠ g := fun q hq => hgG q (by rw [hG6]; simp [hq])
      have hlt6 := oo5.lt
      rw [hG6] at hlt6
      have HT6 := Lib.hid ht6
      clear ht6
      go_wp2_with fail
      refine Calls.mono (markStringS_any _ _ _ x.text (((K + 1) + 1) + 1) _ F6 hq6 (nodup_mid hnd6).1 (by omega) (by omega)) ?_
      rintro e w6 ⟨rfl, hr6, hc6⟩
      have own6 := ownsRow_same (w' := w6) own5 (fun q hq => hc6.block q (own5.lt q (by simpa using hq)).2 (fun hm => hgn6 q hm (by simp [Value.ownBlock] at hq; exact hq)))
      have oo6 := Owns.changed HT6.out hlt6 hnd6 hc6 hr6 hset6
      rw [← hG6] at oo6
      have on6 := on5.trans (hc6.mono sub6)
      have hp6_0 : Hid (((((ps.set (m * 5) (.int .i64 K)).set (m * 5 + 1) (.str (markT (K + 1)))).set (m * 5 + 2) (.str (markT ((K + 1) + 1)))).set (m * 5 + 3) (encText (markTs (((K + 1) + 1) + 1) x.text)))[m * 5]? = _) := Lib.hid ((List.getElem?_set_ne (by omega)).trans hp5_0.out)
      have hp6_1 : Hid (((((ps.set (m * 5) (.int .i64 K)).set (m * 5 + 1) (.str (markT (K + 1)))).set (m * 5 + 2) (.str (markT ((K + 1) + 1)))).set (m * 5 + 3) (encText (markTs (((K + 1) + 1) + 1) x.text)))[m * 5 + 1]? = _) := Lib.hid ((List.getElem?_set_ne (by omega)).trans hp5_1.out)
      have hp6_2 : Hid (((((ps.set (m * 5) (.int .i64 K)).set (m * 5 + 1) (.str (markT (K + 1)))).set (m * 5 + 2) (.str (markT ((K + 1) + 1)))).set (m * 5 + 3) (encText (markTs (((K + 1) + 1) + 1) x.text)))[m * 5 + 2]? = _) := Lib.hid ((List.getElem?_set_ne (by omega)).trans hp5_2.out)
      have hp6_3 : Hid (((((ps.set (m * 5) (.int .i64 K)).set (m * 5 + 1) (.str (markT (K + 1)))).set (m * 5 + 2) (.str (markT ((K + 1) + 1)))).set (m * 5 + 3) (encText (markTs (((K + 1) + 1) + 1) x.text)))[m * 5 + 3]? = some (encText (markTs (((K + 1) + 1) + 1) x.text))) := Lib.hid (List.getElem?_set_self (List.getElem?_eq_some_iff.1 hp5_3.out).1)
      have hp6_4 : Hid (((((ps.set (m * 5) (.int .i64 K)).set (m * 5 + 1) (.str (markT (K + 1)))).set (m * 5 + 2) (.str (markT ((K + 1) + 1)))).set (m * 5 + 3) (encText (markTs (((K + 1) + 1) + 1) x.text)))[m * 5 + 4]? = _) := Lib.hid ((List.getElem?_set_ne (by omega)).trans hp5_4.out)
      clear own5 oo5 on5 hq6 hr6 hc6 hset6 hlt6 hnd6 sub6 hgn6 HT6 y0 y1 y2 y3 y4 hfr hp5_0 hp5_1 hp5_2 hp5_3 hp5_4
      have HG6 := Lib.hid hG6
      clear hG6
      have hul6 := own6.1
      have hul'6 : ((((us.set (m * 5) (.int .i64 K)).set (m * 5 + 1) (.string ⟨(markT (K + 1)).toArray⟩)).set (m * 5 + 2) (.string ⟨(markT ((K + 1) + 1)).toArray⟩))).length = us.length := by simp
      have y0 := own6.cellAt (m * 5) (by omega)
      rw [hu5_0.out] at y0
      have y1 := own6.cellAt (m * 5 + 1) (by omega)
      rw [hu5_1.out] at y1
      have y2 := own6.cellAt (m * 5 + 2) (by omega)
      rw [hu5_2.out] at y2
      have y3 := own6.cellAt (m * 5 + 3) (by omega)
      rw [hu5_3.out] at y3
      have y4 := own6.cellAt (m * 5 + 4) (by omega)
      rw [hu5_4.out] at y4
      have hfr := fun j => own6.frozenAt j
      clear hul6 hul'6
      obtain ⟨t7, Fa7, F7, Fb7, ht7, hG7, hq7, hset7⟩ := Owns.at oo6 hp6_4.out
      obtain rfl := Option.some.inj (ht7.symm.trans hu5_4.out)
      have hnd7 : (Fa7 ++ (F7 ++ Fb7)).Nodup := hG7 ▸ hGn
      have sub7 : ∀ q ∈ F7, q ∈ F := fun q hq => hGF q (by rw [hG7]; simp [hq])
      have hgn7 : ∀ q ∈ F7, q ≠ g := fun q hq => hgG q (by rw [hG7]; simp [hq])
      have hlt7 := oo6.lt
      rw [hG7] at hlt7
      have HT7 := Lib.hid ht7
      clear ht7
      go_wp2_with fail
      refine Calls.mono (markHunkS_any _ _ _ x.patch ((((K + 1) + 1) + 1) + (x.text.length : Nat)) _ F7 hq7 (nodup_mid hnd7).1 (by omega) (by omega)) ?_
      rintro e w7 ⟨rfl, hr7, hc7⟩
      have own7 := ownsRow_same (w' := w7) own6 (fun q hq => hc7.block q (own6.lt q (by simpa using hq)).2 (fun hm => hgn7 q hm (by simp [Value.ownBlock] at hq; exact hq)))
      have oo7 := Owns.changed HT7.out hlt7 hnd7 hc7 hr7 hset7
      rw [← hG7] at oo7
      have on7 := on6.trans (hc7.mono sub7)
      have hp7_0 : Hid ((((((ps.set (m * 5) (.int .i64 K)).set (m * 5 + 1) (.str (markT (K + 1)))).set (m * 5 + 2) (.str (markT ((K + 1) + 1)))).set (m * 5 + 3) (encText (markTs (((K + 1) + 1) + 1) x.text))).set (m * 5 + 4) (encHunks (markHunks ((((K + 1) + 1) + 1) + (x.text.length : Nat)) x.patch)))[m * 5]? = _) := Lib.hid ((List.getElem?_set_ne (by omega)).trans hp6_0.out)
      have hp7_1 : Hid ((((((ps.set (m * 5) (.int .i64 K)).set (m * 5 + 1) (.str (markT (K + 1)))).set (m * 5 + 2) (.str (markT ((K + 1) + 1)))).set (m * 5 + 3) (encText (markTs (((K + 1) + 1) + 1) x.text))).set (m * 5 + 4) (encHunks (markHunks ((((K + 1) + 1) + 1) + (x.text.length : Nat)) x.patch)))[m * 5 + 1]? = _) := Lib.hid ((List.getElem?_set_ne (by omega)).trans hp6_1.out)
      have hp7_2 : Hid ((((((ps.set (m * 5) (.int .i64 K)).set (m * 5 + 1) (.str (markT (K + 1)))).set (m * 5 + 2) (.str (markT ((K + 1) + 1)))).set (m * 5 + 3) (encText (markTs (((K + 1) + 1) + 1) x.text))).set (m * 5 + 4) (encHunks (markHunks ((((K + 1) + 1) + 1) + (x.text.length : Nat)) x.patch)))[m * 5 + 2]? = _) := Lib.hid ((List.getElem?_set_ne (by omega)).trans hp6_2.out)
      have hp7_3 : Hid ((((((ps.set (m * 5) (.int .i64 K)).set (m * 5 + 1) (.str (markT (K + 1)))).set (m * 5 + 2) (.str (markT ((K + 1) + 1)))).set (m * 5 + 3) (encText (markTs (((K + 1) + 1) + 1) x.text))).set (m * 5 + 4) (encHunks (markHunks ((((K + 1) + 1) + 1) + (x.text.length : Nat)) x.patch)))[m * 5 + 3]? = _) := Lib.hid ((List.getElem?_set_ne (by omega)).trans hp6_3.out)
      have hp7_4 : Hid ((((((ps.set (m * 5) (.int .i64 K)).set (m * 5 + 1) (.str (markT (K + 1)))).set (m * 5 + 2) (.str (markT ((K + 1) + 1)))).set (m * 5 + 3) (encText (markTs (((K + 1) + 1) + 1) x.text))).set (m * 5 + 4) (encHunks (markHunks ((((K + 1) + 1) + 1) + (x.text.length : Nat)) x.patch)))[m * 5 + 4]? = some (encHunks (markHunks ((((K + 1) + 1) + 1) + (x.text.length : Nat)) x.patch))) := Lib.hid (List.getElem?_set_self (List.getElem?_eq_some_iff.1 hp6_4.out).1)
      clear own6 oo6 on6 hq7 hr7 hc7 hset7 hlt7 hnd7 sub7 hgn7 HT7 y0 y1 y2 y3 y4 hfr hp6_0 hp6_1 hp6_2 hp6_3 hp6_4
      have HG7 := Lib.hid hG7
      clear hG7
      have hul7 := own7.1
      have hul'7 : ((((us.set (m * 5) (.int .i64 K)).set (m * 5 + 1) (.string ⟨(markT (K + 1)).toArray⟩)).set (m * 5 + 2) (.string ⟨(markT ((K + 1) + 1)).toArray⟩))).length = us.length := by simp
      have y0 := own7.cellAt (m * 5) (by omega)
      rw [hu5_0.out] at y0
      have y1 := own7.cellAt (m * 5 + 1) (by omega)
      rw [hu5_1.out] at y1
      have y2 := own7.cellAt (m * 5 + 2) (by omega)
      rw [hu5_2.out] at y2
      have y3 := own7.cellAt (m * 5 + 3) (by omega)
      rw [hu5_3.out] at y3
      have y4 := own7.cellAt (m * 5 + 4) (by omega)
      rw [hu5_4.out] at y4
      have hfr := fun j => own7.frozenAt j
      clear hul7 hul'7
      go_wp2
      go_roundw
      case rel => exact ⟨m + 1, _, by omega, by go_num, by rw [HK2.out]; unfold cntChange; go_num, own7, Hfin.out ▸ oo7, on7⟩
      case measure => simp [intOf]; omega
    · obtain rfl : m = xs.length := by omega
      rw [halfWith_all _ _ _ _ (Nat.le_refl _)] at ho
      go_wp2
      go_ret
      exact ⟨by rw [List.take_length]; rfl, Own.shut hown hF ho, hon⟩
end Go.Proofs.YtmickenajhppoaaGreatDoor
