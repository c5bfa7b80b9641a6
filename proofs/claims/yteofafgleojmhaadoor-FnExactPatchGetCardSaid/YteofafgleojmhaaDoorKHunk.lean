/- Walks: the laws' own helpers that mark a slice of Hunk, and look whether the marks stand. Printed by wip/marks.py. -/
import Derived.Test.YteofafgleojmhaaDoorMark
namespace Go.Proofs.YteofafgleojmhaaDoor
open Go.RowKit
def cntHunk (x : PHunk) : Nat := 1 + (x.less.length) + (x.more.length)
def cntHunks (xs : List PHunk) : Nat := (xs.map cntHunk).sum
def markHunk (k : Int) (x : PHunk) : PHunk := ⟨k, markTs (k + 1) x.less, markTs ((k + 1) + (x.less.length : Nat)) x.more⟩
def markHunks (k : Int) (xs : List PHunk) : List PHunk := marksWith cntHunk markHunk k xs
set_option maxHeartbeats 1600000 in
theorem markHunkS_any (A : Option Addr) (n c : Nat) (xs : List PHunk) (k : Int) (w : World) (F : List Nat) (h : Own w (encHunks xs) (.slice A n c) F) (hnd : F.Nodup) (h0 : 0 ≤ k) (h1 : k + cntHunks xs ≤ 1099511627776) :
    Calls Tryd.prog 7 #[.slice A n c, .int .i64 k] w fun e w' => e = .returned (.int .i64 (k + cntHunks xs)) ∧ Own w' (encHunks (markHunks k xs)) (.slice A n c) F ∧ Only F w w' := by
  obtain ⟨us, G, hown, hF, ho, hl, hc, hm, hA⟩ := Own.open_ h
  have hl : n = xs.length := by rw [length_flatMap_z cHunks_len] at hl; omega
  subst hl
  clear h
  rw [← halfWith_zero cntHunk markHunk k xs] at ho
  have hGn : G.Nodup := by rw [hF] at hnd; exact (List.nodup_append.1 hnd).2.1
  have hGF : ∀ q ∈ G, q ∈ F := fun q hq => by rw [hF]; exact List.mem_append_right _ hq
  go_enter Tryd.func7, Tryd.ntmps7
  go_wp2
  go_loopw [1, 5] (fun kk i wr => ∃ (m : Nat) (us : List Value), m ≤ xs.length ∧ i = .int .i64 m ∧ kk = .int .i64 (k + (((xs.take m).map cntHunk).sum : Nat)) ∧ wr.ownsRow 0 32 3 (.slice A xs.length c) xs.length us ∧ Owns wr ((halfWith cntHunk markHunk k xs m).flatMap cHunks) us G ∧ Only F w wr) (fun _ i _ => xs.length - (intOf i).toNat)
  case atStart => exact ⟨0, us, Nat.zero_le _, rfl, by simp, hown, ho, Only.refl _ _⟩
  case round =>
    clear hown ho
    obtain ⟨m, us, hk, rfl, rfl, hown, ho, hon⟩ := hrel
    by_cases hkn : m < xs.length
    · obtain ⟨g, rfl⟩ := hA (by omega)
      have hkn' : (m : Int) < (xs.length : Int) := by omega
      obtain ⟨x, hx⟩ : ∃ x, xs[m]? = some x := ⟨_, List.getElem?_eq_getElem hkn⟩
      have hgG := own_row_ne hF hnd
      have hgF : g ∈ F := by rw [hF]; simp [Value.ownBlock]
      have hs1 := sum_take_succ (cnt := cntHunk) hx
      have hs2 := sum_take_le (cnt := cntHunk) xs (m + 1)
      have hstep := halfWith_step cntHunk markHunk k hx
      have hpx : ∀ j, j < 3 → ((halfWith cntHunk markHunk k xs m).flatMap cHunks)[m * 3 + j]? = (cHunks x)[j]? := by
        intro j hj
        rw [flatMap_at cHunks_len _ _ _ hj, halfWith_at, hx]; rfl
      have hfin := flatMap_set cHunks_len (markHunk (k + (((xs.take m).map cntHunk).sum : Nat)) x) (halfWith cntHunk markHunk k xs m) m (by rw [halfWith_length]; exact hkn)
      rw [hstep] at hfin
      have hK0 : 0 ≤ k + (((xs.take m).map cntHunk).sum : Nat) := by omega
      have hK1 : k + (((xs.take m).map cntHunk).sum : Nat) + (cntHunk x : Nat) ≤ 1099511627776 := by unfold cntHunks at h1; omega
      have hK2 : k + (((xs.take (m + 1)).map cntHunk).sum : Nat) = k + (((xs.take m).map cntHunk).sum : Nat) + (cntHunk x : Nat) := by omega
      obtain ⟨K, eK⟩ : ∃ K : Int, K = k + (((xs.take m).map cntHunk).sum : Nat) := ⟨_, rfl⟩
      rw [← eK] at hfin hK0 hK1 hK2 ⊢
      obtain ⟨ps, eps⟩ : ∃ ps, ps = (halfWith cntHunk markHunk k xs m).flatMap cHunks := ⟨_, rfl⟩
      rw [← eps] at ho hpx hfin
      have Hfin := Lib.hid hfin
      have HK2 := Lib.hid hK2
      unfold cntHunk at hK1
      have hul := hown.1
      have hp_0 : Hid (ps[m * 3]? = some (.int .i64 x.at_)) := Lib.hid (hpx 0 (by omega))
      have hp_1 : Hid (ps[m * 3 + 1]? = some (encText x.less)) := Lib.hid (hpx 1 (by omega))
      have hp_2 : Hid (ps[m * 3 + 2]? = some (encText x.more)) := Lib.hid (hpx 2 (by omega))
      clear hx hs1 hs2 hstep hpx hfin hK2 eK eps hk
      obtain ⟨v0, hu0⟩ : ∃ u, us[m * 3]? = some u := ⟨us[m * 3]'(by omega), List.getElem?_eq_getElem (by omega)⟩
      have hu_0 := Lib.hid hu0
      obtain ⟨v1, _, _, _, hu1, _, q1, _⟩ := Owns.at ho hp_1.out
      obtain ⟨A1, n1, c1, rfl⟩ := q1.shape
      have hu_1 := Lib.hid hu1
      obtain ⟨v2, _, _, _, hu2, _, q2, _⟩ := Owns.at ho hp_2.out
      obtain ⟨A2, n2, c2, rfl⟩ := q2.shape
      have hu_2 := Lib.hid hu2
      clear hu0 hu1 hu2 q1 q2 hul
      have y0 := hown.cellAt (m * 3) (by omega)
      rw [hu_0.out] at y0
      have y1 := hown.cellAt (m * 3 + 1) (by omega)
      rw [hu_1.out] at y1
      have y2 := hown.cellAt (m * 3 + 2) (by omega)
      rw [hu_2.out] at y2
      have hfr := fun j => hown.frozenAt j
      have own1 := (hown.stored (m * 3) (.int .i64 K)).1
      have oo1 := ho.plain_set (w' := wr.setCell ⟨g, m * 3, none⟩ (.int .i64 K)) (p' := .int .i64 K) (u' := .int .i64 K) hp_0.out (fun w u F h => h.2) (fun q hq => Below.heap_setCell wr ⟨g, m * 3, none⟩ _ q (hgG q hq)) (fun w => ⟨rfl, rfl⟩)
      have on1 := hon.setCell (p := ⟨g, m * 3, none⟩) hgF (.int .i64 K)
      have hul1 := hown.1
      have hu1_0 : Hid ((us.set (m * 3) (.int .i64 K))[m * 3]? = some (.int .i64 K)) := Lib.hid (List.getElem?_set_self (by omega))
      have hp1_0 : Hid ((ps.set (m * 3) (.int .i64 K))[m * 3]? = some (.int .i64 K)) := Lib.hid (List.getElem?_set_self (List.getElem?_eq_some_iff.1 hp_0.out).1)
      have hu1_1 : Hid ((us.set (m * 3) (.int .i64 K))[m * 3 + 1]? = _) := Lib.hid ((List.getElem?_set_ne (by omega)).trans hu_1.out)
      have hp1_1 : Hid ((ps.set (m * 3) (.int .i64 K))[m * 3 + 1]? = _) := Lib.hid ((List.getElem?_set_ne (by omega)).trans hp_1.out)
      have hu1_2 : Hid ((us.set (m * 3) (.int .i64 K))[m * 3 + 2]? = _) := Lib.hid ((List.getElem?_set_ne (by omega)).trans hu_2.out)
      have hp1_2 : Hid ((ps.set (m * 3) (.int .i64 K))[m * 3 + 2]? = _) := Lib.hid ((List.getElem?_set_ne (by omega)).trans hp_2.out)
      clear hown ho hon hul1 hu_0 hu_1 hu_2 hp_0 hp_1 hp_2
      obtain ⟨t2, Fa2, F2, Fb2, ht2, hG2, hq2, hset2⟩ := Owns.at oo1 hp1_1.out
      obtain rfl := Option.some.inj (ht2.symm.trans hu1_1.out)
      have hnd2 : (Fa2 ++ (F2 ++ Fb2)).Nodup := hG2 ▸ hGn
      have sub2 : ∀ q ∈ F2, q ∈ F := fun q hq => hGF q (by rw [hG2]; simp [hq])
      have hgn2 : ∀ q ∈ F2, q ≠ g := fun q hq => hgG q (by rw [hG2]; simp [hq])
      have hlt2 := oo1.lt
      rw [hG2] at hlt2
      have HT2 := Lib.hid ht2
      clear ht2
      go_wp2_with fail
      refine Calls.mono (markStringS_any _ _ _ x.less (K + 1) _ F2 hq2 (nodup_mid hnd2).1 (by omega) (by omega)) ?_
      rintro e w2 ⟨rfl, hr2, hc2⟩
      have own2 := ownsRow_same (w' := w2) own1 (fun q hq => hc2.block q (own1.lt q (by simpa using hq)).2 (fun hm => hgn2 q hm (by simp [Value.ownBlock] at hq; exact hq)))
      have oo2 := Owns.changed HT2.out hlt2 hnd2 hc2 hr2 hset2
      rw [← hG2] at oo2
      have on2 := on1.trans (hc2.mono sub2)
      have hp2_0 : Hid (((ps.set (m * 3) (.int .i64 K)).set (m * 3 + 1) (encText (markTs (K + 1) x.less)))[m * 3]? = _) := Lib.hid ((List.getElem?_set_ne (by omega)).trans hp1_0.out)
      have hp2_1 : Hid (((ps.set (m * 3) (.int .i64 K)).set (m * 3 + 1) (encText (markTs (K + 1) x.less)))[m * 3 + 1]? = some (encText (markTs (K + 1) x.less))) := Lib.hid (List.getElem?_set_self (List.getElem?_eq_some_iff.1 hp1_1.out).1)
      have hp2_2 : Hid (((ps.set (m * 3) (.int .i64 K)).set (m * 3 + 1) (encText (markTs (K + 1) x.less)))[m * 3 + 2]? = _) := Lib.hid ((List.getElem?_set_ne (by omega)).trans hp1_2.out)
      clear own1 oo1 on1 hq2 hr2 hc2 hset2 hlt2 hnd2 sub2 hgn2 HT2 y0 y1 y2 hfr hp1_0 hp1_1 hp1_2
      have HG2 := Lib.hid hG2
      clear hG2
      have hul2 := own2.1
      have hul'2 : ((us.set (m * 3) (.int .i64 K))).length = us.length := by simp
      have y0 := own2.cellAt (m * 3) (by omega)
      rw [hu1_0.out] at y0
      have y1 := own2.cellAt (m * 3 + 1) (by omega)
      rw [hu1_1.out] at y1
      have y2 := own2.cellAt (m * 3 + 2) (by omega)
      rw [hu1_2.out] at y2
      have hfr := fun j => own2.frozenAt j
      clear hul2 hul'2
      obtain ⟨t3, Fa3, F3, Fb3, ht3, hG3, hq3, hset3⟩ := Owns.at oo2 hp2_2.out
      obtain rfl := Option.some.inj (ht3.symm.trans hu1_2.out)
      have hnd3 : (Fa3 ++ (F3 ++ Fb3)).Nodup := hG3 ▸ hGn
      have sub3 : ∀ q ∈ F3, q ∈ F := fun q hq => hGF q (by rw [hG3]; simp [hq])
      have hgn3 : ∀ q ∈ F3, q ≠ g := fun q hq => hgG q (by rw [hG3]; simp [hq])
      have hlt3 := oo2.lt
      rw [hG3] at hlt3
      have HT3 := Lib.hid ht3
      clear ht3
      go_wp2_with fail
      refine Calls.mono (markStringS_any _ _ _ x.more ((K + 1) + (x.less.length : Nat)) _ F3 hq3 (nodup_mid hnd3).1 (by omega) (by omega)) ?_
      rintro e w3 ⟨rfl, hr3, hc3⟩
      have own3 := ownsRow_same (w' := w3) own2 (fun q hq => hc3.block q (own2.lt q (by simpa using hq)).2 (fun hm => hgn3 q hm (by simp [Value.ownBlock] at hq; exact hq)))
      have oo3 := Owns.changed HT3.out hlt3 hnd3 hc3 hr3 hset3
      rw [← hG3] at oo3
      have on3 := on2.trans (hc3.mono sub3)
      have hp3_0 : Hid ((((ps.set (m * 3) (.int .i64 K)).set (m * 3 + 1) (encText (markTs (K + 1) x.less))).set (m * 3 + 2) (encText (markTs ((K + 1) + (x.less.length : Nat)) x.more)))[m * 3]? = _) := Lib.hid ((List.getElem?_set_ne (by omega)).trans hp2_0.out)
      have hp3_1 : Hid ((((ps.set (m * 3) (.int .i64 K)).set (m * 3 + 1) (encText (markTs (K + 1) x.less))).set (m * 3 + 2) (encText (markTs ((K + 1) + (x.less.length : Nat)) x.more)))[m * 3 + 1]? = _) := Lib.hid ((List.getElem?_set_ne (by omega)).trans hp2_1.out)
      have hp3_2 : Hid ((((ps.set (m * 3) (.int .i64 K)).set (m * 3 + 1) (encText (markTs (K + 1) x.less))).set (m * 3 + 2) (encText (markTs ((K + 1) + (x.less.length : Nat)) x.more)))[m * 3 + 2]? = some (encText (markTs ((K + 1) + (x.less.length : Nat)) x.more))) := Lib.hid (List.getElem?_set_self (List.getElem?_eq_some_iff.1 hp2_2.out).1)
      clear own2 oo2 on2 hq3 hr3 hc3 hset3 hlt3 hnd3 sub3 hgn3 HT3 y0 y1 y2 hfr hp2_0 hp2_1 hp2_2
      have HG3 := Lib.hid hG3
      clear hG3
      have hul3 := own3.1
      have hul'3 : ((us.set (m * 3) (.int .i64 K))).length = us.length := by simp
      have y0 := own3.cellAt (m * 3) (by omega)
      rw [hu1_0.out] at y0
      have y1 := own3.cellAt (m * 3 + 1) (by omega)
      rw [hu1_1.out] at y1
      have y2 := own3.cellAt (m * 3 + 2) (by omega)
      rw [hu1_2.out] at y2
      have hfr := fun j => own3.frozenAt j
      clear hul3 hul'3
      go_wp2
      go_roundw
      case rel => exact ⟨m + 1, _, by omega, by go_num, by rw [HK2.out]; unfold cntHunk; go_num, own3, Hfin.out ▸ oo3, on3⟩
      case measure => simp [intOf]; omega
    · obtain rfl : m = xs.length := by omega
      rw [halfWith_all _ _ _ _ (Nat.le_refl _)] at ho
      go_wp2
      go_ret
      exact ⟨by rw [List.take_length]; rfl, Own.shut hown hF ho, hon⟩
set_option maxHeartbeats 1600000 in
theorem heldHunkS_any (A : Option Addr) (n c : Nat) (xs : List PHunk) (k : Int) (w : World) (lo hi : Nat) (h : Rep w lo hi (encHunks (markHunks k xs)) (.slice A n c)) (hh : hi ≤ w.heap.size) (h0 : 0 ≤ k) (h1 : k + cntHunks xs ≤ 1099511627776) :
    Calls Tryd.prog 8 #[.slice A n c, .int .i64 k] w fun e w' => e = .returned (.int .i64 (k + cntHunks xs)) ∧ Below w.heap.size w w' := by
  have hl := Hunks.n h
  obtain ⟨hc, hm⟩ := Hunks.cap h
  rw [markHunks, marksWith_length] at hl
  subst hl
  go_enter Tryd.func8, Tryd.ntmps8
  go_wp2
  go_loopw [1, 5] (fun kk i wr => ∃ m : Nat, m ≤ xs.length ∧ i = .int .i64 m ∧ kk = .int .i64 (k + (((xs.take m).map cntHunk).sum : Nat)) ∧ Below w.heap.size w wr) (fun _ i _ => xs.length - (intOf i).toNat)
  case atStart => exact ⟨0, Nat.zero_le _, rfl, by simp, Below.refl _ _⟩
  case round =>
    obtain ⟨m, hk, rfl, rfl, hb⟩ := hrel
    by_cases hkn : m < xs.length
    · obtain ⟨b1, o1, x', rfl, hblo, hbhi, hx', A1, n1, c1, A2, n2, c2, d0, d1, r1, d2, r2⟩ := Hunks.at (h.keep hb hh) hkn
      have hkn' : (m : Int) < (xs.length : Int) := by omega
      obtain ⟨x, hx⟩ : ∃ x, xs[m]? = some x := ⟨_, List.getElem?_eq_getElem hkn⟩
      rw [markHunks, marksWith_get, hx, Option.map_some, Option.some.injEq] at hx'
      subst hx'
      have hs1 := sum_take_succ (cnt := cntHunk) hx
      have hs2 := sum_take_le (cnt := cntHunk) xs (m + 1)
      have hK0 : 0 ≤ k + (((xs.take m).map cntHunk).sum : Nat) := by omega
      have hK1 : k + (((xs.take m).map cntHunk).sum : Nat) + (cntHunk x : Nat) ≤ 1099511627776 := by unfold cntHunks at h1; omega
      have hK2 : k + (((xs.take (m + 1)).map cntHunk).sum : Nat) = k + (((xs.take m).map cntHunk).sum : Nat) + (cntHunk x : Nat) := by omega
      obtain ⟨K, eK⟩ : ∃ K : Int, K = k + (((xs.take m).map cntHunk).sum : Nat) := ⟨_, rfl⟩
      rw [← eK] at hK0 hK1 hK2 d0 r1 r2 ⊢
      have HK2 := Lib.hid hK2
      unfold cntHunk at hK1
      dsimp only [markHunk] at d0 r1 r2
      clear hs1 hs2 hK2 eK hx hk
      go_wp2_with fail
      refine Calls.mono (heldStringS_any _ _ _ x.less (K + 1) _ lo hi r1 (Nat.le_trans hh hb.size) (by omega) (by omega)) ?_
      rintro e w1 ⟨rfl, hb1⟩
      have d2' : w1.cell? _ = _ := (hb1.cell (World.block_lt_of_cell? _ _ d2)).trans d2
      clear d2
      have d2 := d2'
      clear d2'
      replace r2 := r2.keep hb1 (Nat.le_trans hh hb.size)
      have bl1 := hb.trans (hb1.mono hb.size)
      clear hb1
      go_wp2_with fail
      refine Calls.mono (heldStringS_any _ _ _ x.more ((K + 1) + (x.less.length : Nat)) _ lo hi r2 (Nat.le_trans hh bl1.size) (by omega) (by omega)) ?_
      rintro e w2 ⟨rfl, hb2⟩
      have bl2 := bl1.trans (hb2.mono bl1.size)
      clear hb2
      go_wp2
      go_roundw
      case rel => exact ⟨m + 1, by omega, by go_num, by rw [HK2.out]; unfold cntHunk; go_num, bl2⟩
      case measure => simp [intOf]; omega
    · obtain rfl : m = xs.length := by omega
      go_wp2
      go_ret
      exact ⟨by rw [List.take_length]; rfl, hb⟩
end Go.Proofs.YteofafgleojmhaaDoor
