/- Walks: the laws' own helpers that mark a slice of Part, and look whether the marks stand. Printed by wip/marks.py. -/
import Derived.Test.YtbnhebmfgjdocaaMark
namespace Go.Proofs.Ytbnhebmfgjdocaa
open Go.RowKit
def cntPart (x : PPart) : Nat := 1 + (x.lines.length) + (x.old.length) + (x.one.length) + (x.two.length)
def cntParts (xs : List PPart) : Nat := (xs.map cntPart).sum
def markPart (k : Int) (x : PPart) : PPart := ⟨decide (k % 3 = 0), markTs (k + 1) x.lines, markTs ((k + 1) + (x.lines.length : Nat)) x.old, markTs (((k + 1) + (x.lines.length : Nat)) + (x.old.length : Nat)) x.one, markTs ((((k + 1) + (x.lines.length : Nat)) + (x.old.length : Nat)) + (x.one.length : Nat)) x.two⟩
def markParts (k : Int) (xs : List PPart) : List PPart := marksWith cntPart markPart k xs
set_option maxHeartbeats 1600000 in
theorem markPartS_any (A : Option Addr) (n c : Nat) (xs : List PPart) (k : Int) (w : World) (F : List Nat) (h : Own w (encParts xs) (.slice A n c) F) (hnd : F.Nodup) (h0 : 0 ≤ k) (h1 : k + cntParts xs ≤ 1099511627776) :
    Calls Try.prog 33 #[.slice A n c, .int .i64 k] w fun e w' => e = .returned (.int .i64 (k + cntParts xs)) ∧ Own w' (encParts (markParts k xs)) (.slice A n c) F ∧ Only F w w' := by
  obtain ⟨us, G, hown, hF, ho, hl, hc, hm, hA⟩ := Own.open_ h
  have hl : n = xs.length := by rw [length_flatMap_z cParts_len] at hl; omega
  subst hl
  clear h
  rw [← halfWith_zero cntPart markPart k xs] at ho
  have hGn : G.Nodup := by rw [hF] at hnd; exact (List.nodup_append.1 hnd).2.1
  have hGF : ∀ q ∈ G, q ∈ F := fun q hq => by rw [hF]; exact List.mem_append_right _ hq
  go_enter Try.func33, Try.ntmps33
  go_wp2
  go_loopw [1, 5] (fun kk i wr => ∃ (m : Nat) (us : List Value), m ≤ xs.length ∧ i = .int .i64 m ∧ kk = .int .i64 (k + (((xs.take m).map cntPart).sum : Nat)) ∧ wr.ownsRow 0 39 5 (.slice A xs.length c) xs.length us ∧ Owns wr ((halfWith cntPart markPart k xs m).flatMap cParts) us G ∧ Only F w wr) (fun _ i _ => xs.length - (intOf i).toNat)
  case atStart => exact ⟨0, us, Nat.zero_le _, rfl, by simp, hown, ho, Only.refl _ _⟩
  case round =>
    clear hown ho
    obtain ⟨m, us, hk, rfl, rfl, hown, ho, hon⟩ := hrel
    by_cases hkn : m < xs.length
    · obtain ⟨g, rfl⟩ := hA (by omega)
      have hkn' : (m : Int) < (xs.length : Int) := by omega
      obtain ⟨x, hx⟩ : ∃ x, xs[m]? = some x := ⟨_, List.getElem?_eq_getElem hkn⟩
      have hgG := own_row_ne hF hnd
      have hgF : g ∈ F := by rw [hF]; simp [Value.ownBlock]
      have hs1 := sum_take_succ (cnt := cntPart) hx
      have hs2 := sum_take_le (cnt := cntPart) xs (m + 1)
      have hstep := halfWith_step cntPart markPart k hx
      have hpx : ∀ j, j < 5 → ((halfWith cntPart markPart k xs m).flatMap cParts)[m * 5 + j]? = (cParts x)[j]? := by
        intro j hj
        rw [flatMap_at cParts_len _ _ _ hj, halfWith_at, hx]; rfl
      have hfin := flatMap_set cParts_len (markPart (k + (((xs.take m).map cntPart).sum : Nat)) x) (halfWith cntPart markPart k xs m) m (by rw [halfWith_length]; exact hkn)
      rw [hstep] at hfin
      have hK0 : 0 ≤ k + (((xs.take m).map cntPart).sum : Nat) := by omega
      have hK1 : k + (((xs.take m).map cntPart).sum : Nat) + (cntPart x : Nat) ≤ 1099511627776 := by unfold cntParts at h1; omega
      have hK2 : k + (((xs.take (m + 1)).map cntPart).sum : Nat) = k + (((xs.take m).map cntPart).sum : Nat) + (cntPart x : Nat) := by omega
      obtain ⟨K, eK⟩ : ∃ K : Int, K = k + (((xs.take m).map cntPart).sum : Nat) := ⟨_, rfl⟩
      rw [← eK] at hfin hK0 hK1 hK2 ⊢
      obtain ⟨ps, eps⟩ : ∃ ps, ps = (halfWith cntPart markPart k xs m).flatMap cParts := ⟨_, rfl⟩
      rw [← eps] at ho hpx hfin
      have Hfin := Lib.hid hfin
      have HK2 := Lib.hid hK2
      unfold cntPart at hK1
      have hul := hown.1
      have hp_0 : Hid (ps[m * 5]? = some (.bool x.clash)) := Lib.hid (hpx 0 (by omega))
      have hp_1 : Hid (ps[m * 5 + 1]? = some (encText x.lines)) := Lib.hid (hpx 1 (by omega))
      have hp_2 : Hid (ps[m * 5 + 2]? = some (encText x.old)) := Lib.hid (hpx 2 (by omega))
      have hp_3 : Hid (ps[m * 5 + 3]? = some (encText x.one)) := Lib.hid (hpx 3 (by omega))
      have hp_4 : Hid (ps[m * 5 + 4]? = some (encText x.two)) := Lib.hid (hpx 4 (by omega))
      clear hx hs1 hs2 hstep hpx hfin hK2 eK eps hk
      obtain ⟨v0, hu0⟩ : ∃ u, us[m * 5]? = some u := ⟨us[m * 5]'(by omega), List.getElem?_eq_getElem (by omega)⟩
      have hu_0 := Lib.hid hu0
      obtain ⟨v1, _, _, _, hu1, _, q1, _⟩ := Owns.at ho hp_1.out
      obtain ⟨A1, n1, c1, rfl⟩ := q1.shape
      have hu_1 := Lib.hid hu1
      obtain ⟨v2, _, _, _, hu2, _, q2, _⟩ := Owns.at ho hp_2.out
      obtain ⟨A2, n2, c2, rfl⟩ := q2.shape
      have hu_2 := Lib.hid hu2
      obtain ⟨v3, _, _, _, hu3, _, q3, _⟩ := Owns.at ho hp_3.out
      obtain ⟨A3, n3, c3, rfl⟩ := q3.shape
      have hu_3 := Lib.hid hu3
      obtain ⟨v4, _, _, _, hu4, _, q4, _⟩ := Owns.at ho hp_4.out
      obtain ⟨A4, n4, c4, rfl⟩ := q4.shape
      have hu_4 := Lib.hid hu4
      clear hu0 hu1 hu2 hu3 hu4 q1 q2 q3 q4 hul
      have y0 := hown.cellAt (m * 5) (by omega)
      rw [hu_0.out] at y0
      have y1 := hown.cellAt (m * 5 + 1) (by omega)
      rw [hu_1.out] at y1
      have y2 := hown.cellAt (m * 5 + 2) (by omega)
      rw [hu_2.out] at y2
      have y3 := hown.cellAt (m * 5 + 3) (by omega)
      rw [hu_3.out] at y3
      have y4 := hown.cellAt (m * 5 + 4) (by omega)
      rw [hu_4.out] at y4
      have hfr := fun j => hown.frozenAt j
      have own1 := (hown.stored (m * 5) (.bool (decide (K % 3 = 0)))).1
      have oo1 := ho.plain_set (w' := wr.setCell ⟨g, m * 5, none⟩ (.bool (decide (K % 3 = 0)))) (p' := .bool (decide (K % 3 = 0))) (u' := .bool (decide (K % 3 = 0))) hp_0.out (fun w u F h => h.2) (fun q hq => Below.heap_setCell wr ⟨g, m * 5, none⟩ _ q (hgG q hq)) (fun w => ⟨rfl, rfl⟩)
      have on1 := hon.setCell (p := ⟨g, m * 5, none⟩) hgF (.bool (decide (K % 3 = 0)))
      have hul1 := hown.1
      have hu1_0 : Hid ((us.set (m * 5) (.bool (decide (K % 3 = 0))))[m * 5]? = some (.bool (decide (K % 3 = 0)))) := Lib.hid (List.getElem?_set_self (by omega))
      have hp1_0 : Hid ((ps.set (m * 5) (.bool (decide (K % 3 = 0))))[m * 5]? = some (.bool (decide (K % 3 = 0)))) := Lib.hid (List.getElem?_set_self (List.getElem?_eq_some_iff.1 hp_0.out).1)
      have hu1_1 : Hid ((us.set (m * 5) (.bool (decide (K % 3 = 0))))[m * 5 + 1]? = _) := Lib.hid ((List.getElem?_set_ne (by omega)).trans hu_1.out)
      have hp1_1 : Hid ((ps.set (m * 5) (.bool (decide (K % 3 = 0))))[m * 5 + 1]? = _) := Lib.hid ((List.getElem?_set_ne (by omega)).trans hp_1.out)
      have hu1_2 : Hid ((us.set (m * 5) (.bool (decide (K % 3 = 0))))[m * 5 + 2]? = _) := Lib.hid ((List.getElem?_set_ne (by omega)).trans hu_2.out)
      have hp1_2 : Hid ((ps.set (m * 5) (.bool (decide (K % 3 = 0))))[m * 5 + 2]? = _) := Lib.hid ((List.getElem?_set_ne (by omega)).trans hp_2.out)
      have hu1_3 : Hid ((us.set (m * 5) (.bool (decide (K % 3 = 0))))[m * 5 + 3]? = _) := Lib.hid ((List.getElem?_set_ne (by omega)).trans hu_3.out)
      have hp1_3 : Hid ((ps.set (m * 5) (.bool (decide (K % 3 = 0))))[m * 5 + 3]? = _) := Lib.hid ((List.getElem?_set_ne (by omega)).trans hp_3.out)
      have hu1_4 : Hid ((us.set (m * 5) (.bool (decide (K % 3 = 0))))[m * 5 + 4]? = _) := Lib.hid ((List.getElem?_set_ne (by omega)).trans hu_4.out)
      have hp1_4 : Hid ((ps.set (m * 5) (.bool (decide (K % 3 = 0))))[m * 5 + 4]? = _) := Lib.hid ((List.getElem?_set_ne (by omega)).trans hp_4.out)
      clear hown ho hon hul1 hu_0 hu_1 hu_2 hu_3 hu_4 hp_0 hp_1 hp_2 hp_3 hp_4
      obtain ⟨t2, Fa2, F2, Fb2, ht2, hG2, hq2, hset2⟩ := Owns.at oo1 hp1_1.out
      obtain rfl := Option.some.inj (ht2.symm.trans hu1_1.out)
      have hnd2 : (Fa2 ++ (F2 ++ Fb2)).Nodup := hG2 ▸ hGn
      have sub2 : ∀ q ∈ F2, q ∈ F := fun q hq => hGF q (by rw [hG2]; simp [hq])
      have hgn2 : ∀ q ∈ F2, q ≠ g := fun q hq => hgG q (by rw [hG2]; simp [hq])
      have hlt2 := oo1.lt
      rw [hG2] at hlt2
      have HT2 := Lib.hid ht2
      clear ht2
      go_wp2_with fail
      refine Calls.mono (markStringS_any _ _ _ x.lines (K + 1) _ F2 hq2 (nodup_mid hnd2).1 (by omega) (by omega)) ?_
      rintro e w2 ⟨rfl, hr2, hc2⟩
      have own2 := ownsRow_same (w' := w2) own1 (fun q hq => hc2.block q (own1.lt q (by simpa using hq)).2 (fun hm => hgn2 q hm (by simp [Value.ownBlock] at hq; exact hq)))
      have oo2 := Owns.changed HT2.out hlt2 hnd2 hc2 hr2 hset2
      rw [← hG2] at oo2
      have on2 := on1.trans (hc2.mono sub2)
      have hp2_0 : Hid (((ps.set (m * 5) (.bool (decide (K % 3 = 0)))).set (m * 5 + 1) (encText (markTs (K + 1) x.lines)))[m * 5]? = _) := Lib.hid ((List.getElem?_set_ne (by omega)).trans hp1_0.out)
      have hp2_1 : Hid (((ps.set (m * 5) (.bool (decide (K % 3 = 0)))).set (m * 5 + 1) (encText (markTs (K + 1) x.lines)))[m * 5 + 1]? = some (encText (markTs (K + 1) x.lines))) := Lib.hid (List.getElem?_set_self (List.getElem?_eq_some_iff.1 hp1_1.out).1)
      have hp2_2 : Hid (((ps.set (m * 5) (.bool (decide (K % 3 = 0)))).set (m * 5 + 1) (encText (markTs (K + 1) x.lines)))[m * 5 + 2]? = _) := Lib.hid ((List.getElem?_set_ne (by omega)).trans hp1_2.out)
      have hp2_3 : Hid (((ps.set (m * 5) (.bool (decide (K % 3 = 0)))).set (m * 5 + 1) (encText (markTs (K + 1) x.lines)))[m * 5 + 3]? = _) := Lib.hid ((List.getElem?_set_ne (by omega)).trans hp1_3.out)
      have hp2_4 : Hid (((ps.set (m * 5) (.bool (decide (K % 3 = 0)))).set (m * 5 + 1) (encText (markTs (K + 1) x.lines)))[m * 5 + 4]? = _) := Lib.hid ((List.getElem?_set_ne (by omega)).trans hp1_4.out)
      clear own1 oo1 on1 hq2 hr2 hc2 hset2 hlt2 hnd2 sub2 hgn2 HT2 y0 y1 y2 y3 y4 hfr hp1_0 hp1_1 hp1_2 hp1_3 hp1_4
      have HG2 := Lib.hid hG2
      clear hG2
      have hul2 := own2.1
      have hul'2 : ((us.set (m * 5) (.bool (decide (K % 3 = 0))))).length = us.length := by simp
      have y0 := own2.cellAt (m * 5) (by omega)
      rw [hu1_0.out] at y0
      have y1 := own2.cellAt (m * 5 + 1) (by omega)
      rw [hu1_1.out] at y1
      have y2 := own2.cellAt (m * 5 + 2) (by omega)
      rw [hu1_2.out] at y2
      have y3 := own2.cellAt (m * 5 + 3) (by omega)
      rw [hu1_3.out] at y3
      have y4 := own2.cellAt (m * 5 + 4) (by omega)
      rw [hu1_4.out] at y4
      have hfr := fun j => own2.frozenAt j
      clear hul2 hul'2
      obtain ⟨t3, Fa3, F3, Fb3, ht3, hG3, hq3, hset3⟩ := Owns.at oo2 hp2_2.out
      obtain rfl := Option.some.inj (ht3.symm.trans hu1_2.out)
      have hnd3 : (Fa3 ++ (F3 ++ Fb3)).Nodup := hG3 ▸ hGn
      have sub3 : ∀ q ∈ F3, q ∈ F := fun q hq => hGF q (by rw [hG3]; simp [hq])
      have hgn3 : ∀ q ∈ F3, q ≠ g := fun q hq => hgG q (by rw [hG3]; simp [hq])
      have hlt3 := oo2.lt
      rw [hG3] at hlt3
      have HT3 := Lib.hid ht3
      clear ht3
      go_wp2_with fail
      refine Calls.mono (markStringS_any _ _ _ x.old ((K + 1) + (x.lines.length : Nat)) _ F3 hq3 (nodup_mid hnd3).1 (by omega) (by omega)) ?_
      rintro e w3 ⟨rfl, hr3, hc3⟩
      have own3 := ownsRow_same (w' := w3) own2 (fun q hq => hc3.block q (own2.lt q (by simpa using hq)).2 (fun hm => hgn3 q hm (by simp [Value.ownBlock] at hq; exact hq)))
      have oo3 := Owns.changed HT3.out hlt3 hnd3 hc3 hr3 hset3
      rw [← hG3] at oo3
      have on3 := on2.trans (hc3.mono sub3)
      have hp3_0 : Hid ((((ps.set (m * 5) (.bool (decide (K % 3 = 0)))).set (m * 5 + 1) (encText (markTs (K + 1) x.lines))).set (m * 5 + 2) (encText (markTs ((K + 1) + (x.lines.length : Nat)) x.old)))[m * 5]? = _) := Lib.hid ((List.getElem?_set_ne (by omega)).trans hp2_0.out)
      have hp3_1 : Hid ((((ps.set (m * 5) (.bool (decide (K % 3 = 0)))).set (m * 5 + 1) (encText (markTs (K + 1) x.lines))).set (m * 5 + 2) (encText (markTs ((K + 1) + (x.lines.length : Nat)) x.old)))[m * 5 + 1]? = _) := Lib.hid ((List.getElem?_set_ne (by omega)).trans hp2_1.out)
      have hp3_2 : Hid ((((ps.set (m * 5) (.bool (decide (K % 3 = 0)))).set (m * 5 + 1) (encText (markTs (K + 1) x.lines))).set (m * 5 + 2) (encText (markTs ((K + 1) + (x.lines.length : Nat)) x.old)))[m * 5 + 2]? = some (encText (markTs ((K + 1) + (x.lines.length : Nat)) x.old))) := Lib.hid (List.getElem?_set_self (List.getElem?_eq_some_iff.1 hp2_2.out).1)
      have hp3_3 : Hid ((((ps.set (m * 5) (.bool (decide (K % 3 = 0)))).set (m * 5 + 1) (encText (markTs (K + 1) x.lines))).set (m * 5 + 2) (encText (markTs ((K + 1) + (x.lines.length : Nat)) x.old)))[m * 5 + 3]? = _) := Lib.hid ((List.getElem?_set_ne (by omega)).trans hp2_3.out)
      have hp3_4 : Hid ((((ps.set (m * 5) (.bool (decide (K % 3 = 0)))).set (m * 5 + 1) (encText (markTs (K + 1) x.lines))).set (m * 5 + 2) (encText (markTs ((K + 1) + (x.lines.length : Nat)) x.old)))[m * 5 + 4]? = _) := Lib.hid ((List.getElem?_set_ne (by omega)).trans hp2_4.out)
      clear own2 oo2 on2 hq3 hr3 hc3 hset3 hlt3 hnd3 sub3 hgn3 HT3 y0 y1 y2 y3 y4 hfr hp2_0 hp2_1 hp2_2 hp2_3 hp2_4
      have HG3 := Lib.hid hG3
      clear hG3
      have hul3 := own3.1
      have hul'3 : ((us.set (m * 5) (.bool (decide (K % 3 = 0))))).length = us.length := by simp
      have y0 := own3.cellAt (m * 5) (by omega)
      rw [hu1_0.out] at y0
      have y1 := own3.cellAt (m * 5 + 1) (by omega)
      rw [hu1_1.out] at y1
      have y2 := own3.cellAt (m * 5 + 2) (by omega)
      rw [hu1_2.out] at y2
      have y3 := own3.cellAt (m * 5 + 3) (by omega)
      rw [hu1_3.out] at y3
      have y4 := own3.cellAt (m * 5 + 4) (by omega)
      rw [hu1_4.out] at y4
      have hfr := fun j => own3.frozenAt j
      clear hul3 hul'3
      obtain ⟨t4, Fa4, F4, Fb4, ht4, hG4, hq4, hset4⟩ := Owns.at oo3 hp3_3.out
      obtain rfl := Option.some.inj (ht4.symm.trans hu1_3.out)
      have hnd4 : (Fa4 ++ (F4 ++ Fb4)).Nodup := hG4 ▸ hGn
      have sub4 : ∀ q ∈ F4, q ∈ F := fun q hq => hGF q (by rw [hG4]; simp [hq])
      have hgn4 : ∀ q ∈ F4, q ≠ g := fun q hq => hgG q (by rw [hG4]; simp [hq])
      have hlt4 := oo3.lt
      rw [hG4] at hlt4
      have HT4 := Lib.hid ht4
      clear ht4
      go_wp2_with fail
      refine Calls.mono (markStringS_any _ _ _ x.one (((K + 1) + (x.lines.length : Nat)) + (x.old.length : Nat)) _ F4 hq4 (nodup_mid hnd4).1 (by omega) (by omega)) ?_
      rintro e w4 ⟨rfl, hr4, hc4⟩
      have own4 := ownsRow_same (w' := w4) own3 (fun q hq => hc4.block q (own3.lt q (by simpa using hq)).2 (fun hm => hgn4 q hm (by simp [Value.ownBlock] at hq; exact hq)))
      have oo4 := Owns.changed HT4.out hlt4 hnd4 hc4 hr4 hset4
      rw [← hG4] at oo4
      have on4 := on3.trans (hc4.mono sub4)
      have hp4_0 : Hid (((((ps.set (m * 5) (.bool (decide (K % 3 = 0)))).set (m * 5 + 1) (encText (markTs (K + 1) x.lines))).set (m * 5 + 2) (encText (markTs ((K + 1) + (x.lines.length : Nat)) x.old))).set (m * 5 + 3) (encText (markTs (((K + 1) + (x.lines.length : Nat)) + (x.old.length : Nat)) x.one)))[m * 5]? = _) := Lib.hid ((List.getElem?_set_ne (by omega)).trans hp3_0.out)
      have hp4_1 : Hid (((((ps.set (m * 5) (.bool (decide (K % 3 = 0)))).set (m * 5 + 1) (encText (markTs (K + 1) x.lines))).set (m * 5 + 2) (encText (markTs ((K + 1) + (x.lines.length : Nat)) x.old))).set (m * 5 + 3) (encText (markTs (((K + 1) + (x.lines.length : Nat)) + (x.old.length : Nat)) x.one)))[m * 5 + 1]? = _) := Lib.hid ((List.getElem?_set_ne (by omega)).trans hp3_1.out)
      have hp4_2 : Hid (((((ps.set (m * 5) (.bool (decide (K % 3 = 0)))).set (m * 5 + 1) (encText (markTs (K + 1) x.lines))).set (m * 5 + 2) (encText (markTs ((K + 1) + (x.lines.length : Nat)) x.old))).set (m * 5 + 3) (encText (markTs (((K + 1) + (x.lines.length : Nat)) + (x.old.length : Nat)) x.one)))[m * 5 + 2]? = _) := Lib.hid ((List.getElem?_set_ne (by omega)).trans hp3_2.out)
      have hp4_3 : Hid (((((ps.set (m * 5) (.bool (decide (K % 3 = 0)))).set (m * 5 + 1) (encText (markTs (K + 1) x.lines))).set (m * 5 + 2) (encText (markTs ((K + 1) + (x.lines.length : Nat)) x.old))).set (m * 5 + 3) (encText (markTs (((K + 1) + (x.lines.length : Nat)) + (x.old.length : Nat)) x.one)))[m * 5 + 3]? = some (encText (markTs (((K + 1) + (x.lines.length : Nat)) + (x.old.length : Nat)) x.one))) := Lib.hid (List.getElem?_set_self (List.getElem?_eq_some_iff.1 hp3_3.out).1)
      have hp4_4 : Hid (((((ps.set (m * 5) (.bool (decide (K % 3 = 0)))).set (m * 5 + 1) (encText (markTs (K + 1) x.lines))).set (m * 5 + 2) (encText (markTs ((K + 1) + (x.lines.length : Nat)) x.old))).set (m * 5 + 3) (encText (markTs (((K + 1) + (x.lines.length : Nat)) + (x.old.length : Nat)) x.one)))[m * 5 + 4]? = _) := Lib.hid ((List.getElem?_set_ne (by omega)).trans hp3_4.out)
      clear own3 oo3 on3 hq4 hr4 hc4 hset4 hlt4 hnd4 sub4 hgn4 HT4 y0 y1 y2 y3 y4 hfr hp3_0 hp3_1 hp3_2 hp3_3 hp3_4
      have HG4 := Lib.hid hG4
      clear hG4
      have hul4 := own4.1
      have hul'4 : ((us.set (m * 5) (.bool (decide (K % 3 = 0))))).length = us.length := by simp
      have y0 := own4.cellAt (m * 5) (by omega)
      rw [hu1_0.out] at y0
      have y1 := own4.cellAt (m * 5 + 1) (by omega)
      rw [hu1_1.out] at y1
      have y2 := own4.cellAt (m * 5 + 2) (by omega)
      rw [hu1_2.out] at y2
      have y3 := own4.cellAt (m * 5 + 3) (by omega)
      rw [hu1_3.out] at y3
      have y4 := own4.cellAt (m * 5 + 4) (by omega)
      rw [hu1_4.out] at y4
      have hfr := fun j => own4.frozenAt j
      clear hul4 hul'4
      obtain ⟨t5, Fa5, F5, Fb5, ht5, hG5, hq5, hset5⟩ := Owns.at oo4 hp4_4.out
      obtain rfl := Option.some.inj (ht5.symm.trans hu1_4.out)
      have hnd5 : (Fa5 ++ (F5 ++ Fb5)).Nodup := hG5 ▸ hGn
      have sub5 : ∀ q ∈ F5, q ∈ F := fun q hq => hGF q (by rw [hG5]; simp [hq])
      have hgn5 : ∀ q ∈ F5, q ≠ g := fun q hq => hgG q (by rw [hG5]; simp [hq])
      have hlt5 := oo4.lt
      rw [hG5] at hlt5
      have HT5 := Lib.hid ht5
      clear ht5
      go_wp2_with fail
      refine Calls.mono (markStringS_any _ _ _ x.two ((((K + 1) + (x.lines.length : Nat)) + (x.old.length : Nat)) + (x.one.length : Nat)) _ F5 hq5 (nodup_mid hnd5).1 (by omega) (by omega)) ?_
      rintro e w5 ⟨rfl, hr5, hc5⟩
      have own5 := ownsRow_same (w' := w5) own4 (fun q hq => hc5.block q (own4.lt q (by simpa using hq)).2 (fun hm => hgn5 q hm (by simp [Value.ownBlock] at hq; exact hq)))
      have oo5 := Owns.changed HT5.out hlt5 hnd5 hc5 hr5 hset5
      rw [← hG5] at oo5
      have on5 := on4.trans (hc5.mono sub5)
      have hp5_0 : Hid ((((((ps.set (m * 5) (.bool (decide (K % 3 = 0)))).set (m * 5 + 1) (encText (markTs (K + 1) x.lines))).set (m * 5 + 2) (encText (markTs ((K + 1) + (x.lines.length : Nat)) x.old))).set (m * 5 + 3) (encText (markTs (((K + 1) + (x.lines.length : Nat)) + (x.old.length : Nat)) x.one))).set (m * 5 + 4) (encText (markTs ((((K + 1) + (x.lines.length : Nat)) + (x.old.length : Nat)) + (x.one.length : Nat)) x.two)))[m * 5]? = _) := Lib.hid ((List.getElem?_set_ne (by omega)).trans hp4_0.out)
      have hp5_1 : Hid ((((((ps.set (m * 5) (.bool (decide (K % 3 = 0)))).set (m * 5 + 1) (encText (markTs (K + 1) x.lines))).set (m * 5 + 2) (encText (markTs ((K + 1) + (x.lines.length : Nat)) x.old))).set (m * 5 + 3) (encText (markTs (((K + 1) + (x.lines.length : Nat)) + (x.old.length : Nat)) x.one))).set (m * 5 + 4) (encText (markTs ((((K + 1) + (x.lines.length : Nat)) + (x.old.length : Nat)) + (x.one.length : Nat)) x.two)))[m * 5 + 1]? = _) := Lib.hid ((List.getElem?_set_ne (by omega)).trans hp4_1.out)
      have hp5_2 : Hid ((((((ps.set (m * 5) (.bool (decide (K % 3 = 0)))).set (m * 5 + 1) (encText (markTs (K + 1) x.lines))).set (m * 5 + 2) (encText (markTs ((K + 1) + (x.lines.length : Nat)) x.old))).set (m * 5 + 3) (encText (markTs (((K + 1) + (x.lines.length : Nat)) + (x.old.length : Nat)) x.one))).set (m * 5 + 4) (encText (markTs ((((K + 1) + (x.lines.length : Nat)) + (x.old.length : Nat)) + (x.one.length : Nat)) x.two)))[m * 5 + 2]? = _) := Lib.hid ((List.getElem?_set_ne (by omega)).trans hp4_2.out)
      have hp5_3 : Hid ((((((ps.set (m * 5) (.bool (decide (K % 3 = 0)))).set (m * 5 + 1) (encText (markTs (K + 1) x.lines))).set (m * 5 + 2) (encText (markTs ((K + 1) + (x.lines.length : Nat)) x.old))).set (m * 5 + 3) (encText (markTs (((K + 1) + (x.lines.length : Nat)) + (x.old.length : Nat)) x.one))).set (m * 5 + 4) (encText (markTs ((((K + 1) + (x.lines.length : Nat)) + (x.old.length : Nat)) + (x.one.length : Nat)) x.two)))[m * 5 + 3]? = _) := Lib.hid ((List.getElem?_set_ne (by omega)).trans hp4_3.out)
      have hp5_4 : Hid ((((((ps.set (m * 5) (.bool (decide (K % 3 = 0)))).set (m * 5 + 1) (encText (markTs (K + 1) x.lines))).set (m * 5 + 2) (encText (markTs ((K + 1) + (x.lines.length : Nat)) x.old))).set (m * 5 + 3) (encText (markTs (((K + 1) + (x.lines.length : Nat)) + (x.old.length : Nat)) x.one))).set (m * 5 + 4) (encText (markTs ((((K + 1) + (x.lines.length : Nat)) + (x.old.length : Nat)) + (x.one.length : Nat)) x.two)))[m * 5 + 4]? = some (encText (markTs ((((K + 1) + (x.lines.length : Nat)) + (x.old.length : Nat)) + (x.one.length : Nat)) x.two))) := Lib.hid (List.getElem?_set_self (List.getElem?_eq_some_iff.1 hp4_4.out).1)
      clear own4 oo4 on4 hq5 hr5 hc5 hset5 hlt5 hnd5 sub5 hgn5 HT5 y0 y1 y2 y3 y4 hfr hp4_0 hp4_1 hp4_2 hp4_3 hp4_4
      have HG5 := Lib.hid hG5
      clear hG5
      have hul5 := own5.1
      have hul'5 : ((us.set (m * 5) (.bool (decide (K % 3 = 0))))).length = us.length := by simp
      have y0 := own5.cellAt (m * 5) (by omega)
      rw [hu1_0.out] at y0
      have y1 := own5.cellAt (m * 5 + 1) (by omega)
      rw [hu1_1.out] at y1
      have y2 := own5.cellAt (m * 5 + 2) (by omega)
      rw [hu1_2.out] at y2
      have y3 := own5.cellAt (m * 5 + 3) (by omega)
      rw [hu1_3.out] at y3
      have y4 := own5.cellAt (m * 5 + 4) (by omega)
      rw [hu1_4.out] at y4
      have hfr := fun j => own5.frozenAt j
      clear hul5 hul'5
      go_wp2
      go_roundw
      case rel => exact ⟨m + 1, _, by omega, by go_num, by rw [HK2.out]; unfold cntPart; go_num, own5, Hfin.out ▸ oo5, on5⟩
      case measure => simp [intOf]; omega
    · obtain rfl : m = xs.length := by omega
      rw [halfWith_all _ _ _ _ (Nat.le_refl _)] at ho
      go_wp2
      go_ret
      exact ⟨by rw [List.take_length]; rfl, Own.shut hown hF ho, hon⟩
set_option maxHeartbeats 1600000 in
theorem heldPartS_any (A : Option Addr) (n c : Nat) (xs : List PPart) (k : Int) (w : World) (lo hi : Nat) (h : Rep w lo hi (encParts (markParts k xs)) (.slice A n c)) (hh : hi ≤ w.heap.size) (h0 : 0 ≤ k) (h1 : k + cntParts xs ≤ 1099511627776) :
    Calls Try.prog 34 #[.slice A n c, .int .i64 k] w fun e w' => e = .returned (.int .i64 (k + cntParts xs)) ∧ Below w.heap.size w w' := by
  have hl := Parts.n h
  obtain ⟨hc, hm⟩ := Parts.cap h
  rw [markParts, marksWith_length] at hl
  subst hl
  go_enter Try.func34, Try.ntmps34
  go_wp2
  go_loopw [1, 5] (fun kk i wr => ∃ m : Nat, m ≤ xs.length ∧ i = .int .i64 m ∧ kk = .int .i64 (k + (((xs.take m).map cntPart).sum : Nat)) ∧ Below w.heap.size w wr) (fun _ i _ => xs.length - (intOf i).toNat)
  case atStart => exact ⟨0, Nat.zero_le _, rfl, by simp, Below.refl _ _⟩
  case round =>
    obtain ⟨m, hk, rfl, rfl, hb⟩ := hrel
    by_cases hkn : m < xs.length
    · obtain ⟨b1, o1, x', rfl, hblo, hbhi, hx', A1, n1, c1, A2, n2, c2, A3, n3, c3, A4, n4, c4, d0, d1, r1, d2, r2, d3, r3, d4, r4⟩ := Parts.at (h.keep hb hh) hkn
      have hkn' : (m : Int) < (xs.length : Int) := by omega
      obtain ⟨x, hx⟩ : ∃ x, xs[m]? = some x := ⟨_, List.getElem?_eq_getElem hkn⟩
      rw [markParts, marksWith_get, hx, Option.map_some, Option.some.injEq] at hx'
      subst hx'
      have hs1 := sum_take_succ (cnt := cntPart) hx
      have hs2 := sum_take_le (cnt := cntPart) xs (m + 1)
      have hK0 : 0 ≤ k + (((xs.take m).map cntPart).sum : Nat) := by omega
      have hK1 : k + (((xs.take m).map cntPart).sum : Nat) + (cntPart x : Nat) ≤ 1099511627776 := by unfold cntParts at h1; omega
      have hK2 : k + (((xs.take (m + 1)).map cntPart).sum : Nat) = k + (((xs.take m).map cntPart).sum : Nat) + (cntPart x : Nat) := by omega
      obtain ⟨K, eK⟩ : ∃ K : Int, K = k + (((xs.take m).map cntPart).sum : Nat) := ⟨_, rfl⟩
      rw [← eK] at hK0 hK1 hK2 d0 r1 r2 r3 r4 ⊢
      have HK2 := Lib.hid hK2
      unfold cntPart at hK1
      dsimp only [markPart] at d0 r1 r2 r3 r4
      clear hs1 hs2 hK2 eK hx hk
      have hq0 : (!(decide (K % 3 = 0) == (K % 3 == 0))) = false := by by_cases hk3 : K % 3 = 0 <;> simp [hk3]
      go_wp2_with fail
      refine Calls.mono (heldStringS_any _ _ _ x.lines (K + 1) _ lo hi r1 (Nat.le_trans hh hb.size) (by omega) (by omega)) ?_
      rintro e w1 ⟨rfl, hb1⟩
      have d2' : w1.cell? _ = _ := (hb1.cell (World.block_lt_of_cell? _ _ d2)).trans d2
      clear d2
      have d2 := d2'
      clear d2'
      have d3' : w1.cell? _ = _ := (hb1.cell (World.block_lt_of_cell? _ _ d3)).trans d3
      clear d3
      have d3 := d3'
      clear d3'
      have d4' : w1.cell? _ = _ := (hb1.cell (World.block_lt_of_cell? _ _ d4)).trans d4
      clear d4
      have d4 := d4'
      clear d4'
      replace r2 := r2.keep hb1 (Nat.le_trans hh hb.size)
      replace r3 := r3.keep hb1 (Nat.le_trans hh hb.size)
      replace r4 := r4.keep hb1 (Nat.le_trans hh hb.size)
      have bl1 := hb.trans (hb1.mono hb.size)
      clear hb1
      go_wp2_with fail
      refine Calls.mono (heldStringS_any _ _ _ x.old ((K + 1) + (x.lines.length : Nat)) _ lo hi r2 (Nat.le_trans hh bl1.size) (by omega) (by omega)) ?_
      rintro e w2 ⟨rfl, hb2⟩
      have d3' : w2.cell? _ = _ := (hb2.cell (World.block_lt_of_cell? _ _ d3)).trans d3
      clear d3
      have d3 := d3'
      clear d3'
      have d4' : w2.cell? _ = _ := (hb2.cell (World.block_lt_of_cell? _ _ d4)).trans d4
      clear d4
      have d4 := d4'
      clear d4'
      replace r3 := r3.keep hb2 (Nat.le_trans hh bl1.size)
      replace r4 := r4.keep hb2 (Nat.le_trans hh bl1.size)
      have bl2 := bl1.trans (hb2.mono bl1.size)
      clear hb2
      go_wp2_with fail
      refine Calls.mono (heldStringS_any _ _ _ x.one (((K + 1) + (x.lines.length : Nat)) + (x.old.length : Nat)) _ lo hi r3 (Nat.le_trans hh bl2.size) (by omega) (by omega)) ?_
      rintro e w3 ⟨rfl, hb3⟩
      have d4' : w3.cell? _ = _ := (hb3.cell (World.block_lt_of_cell? _ _ d4)).trans d4
      clear d4
      have d4 := d4'
      clear d4'
      replace r4 := r4.keep hb3 (Nat.le_trans hh bl2.size)
      have bl3 := bl2.trans (hb3.mono bl2.size)
      clear hb3
      go_wp2_with fail
      refine Calls.mono (heldStringS_any _ _ _ x.two ((((K + 1) + (x.lines.length : Nat)) + (x.old.length : Nat)) + (x.one.length : Nat)) _ lo hi r4 (Nat.le_trans hh bl3.size) (by omega) (by omega)) ?_
      rintro e w4 ⟨rfl, hb4⟩
      have bl4 := bl3.trans (hb4.mono bl3.size)
      clear hb4
      go_wp2
      go_roundw
      case rel => exact ⟨m + 1, by omega, by go_num, by rw [HK2.out]; unfold cntPart; go_num, bl4⟩
      case measure => simp [intOf]; omega
    · obtain rfl : m = xs.length := by omega
      go_wp2
      go_ret
      exact ⟨by rw [List.take_length]; rfl, hb⟩
end Go.Proofs.Ytbnhebmfgjdocaa
