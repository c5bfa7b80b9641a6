/- Several of my texts in one: KCommit, KHead. -/
import Derived.Test.YtenkceeicmfjhaaGreatDoorZ14
/- Walks: the laws' own helpers that mark a slice of Commit, and look whether the marks stand. Printed by wip/marks.py. -/
namespace Go.Proofs.YtenkceeicmfjhaaGreatDoor
open Go.RowKit
def cntCommit (x : PCommit) : Nat := (x.parents.length) + 1 + (cntFiles x.tree)
def cntCommits (xs : List PCommit) : Nat := (xs.map cntCommit).sum
def markCommit (k : Int) (x : PCommit) : PCommit := ⟨markIs k x.parents, markT (k + (x.parents.length : Nat)), markFiles ((k + (x.parents.length : Nat)) + 1) x.tree⟩
def markCommits (k : Int) (xs : List PCommit) : List PCommit := marksWith cntCommit markCommit k xs
set_option maxHeartbeats 1600000 in
theorem markCommitS_any (A : Option Addr) (n c : Nat) (xs : List PCommit) (k : Int) (w : World) (F : List Nat) (h : Own w (encCommits xs) (.slice A n c) F) (hnd : F.Nodup) (h0 : 0 ≤ k) (h1 : k + cntCommits xs ≤ 1099511627776) :
    Calls Tryz.prog 29 #[.slice A n c, .int .i64 k] w fun e w' => e = .returned (.int .i64 (k + cntCommits xs)) ∧ Own w' (encCommits (markCommits k xs)) (.slice A n c) F ∧ Only F w w' := by
  obtain ⟨us, G, hown, hF, ho, hl, hc, hm, hA⟩ := Own.open_ h
  have hl : n = xs.length := by rw [length_flatMap_z cCommits_len] at hl; omega
  subst hl
  clear h
  rw [← halfWith_zero cntCommit markCommit k xs] at ho
  have hGn : G.Nodup := by rw [hF] at hnd; exact (List.nodup_append.1 hnd).2.1
  have hGF : ∀ q ∈ G, q ∈ F := fun q hq => by rw [hF]; exact List.mem_append_right _ hq
  go_enter Tryz.func29, Tryz.ntmps29
  go_wp2
  go_loopw [1, 5] (fun kk i wr => ∃ (m : Nat) (us : List Value), m ≤ xs.length ∧ i = .int .i64 m ∧ kk = .int .i64 (k + (((xs.take m).map cntCommit).sum : Nat)) ∧ wr.ownsRow 0 50 3 (.slice A xs.length c) xs.length us ∧ Owns wr ((halfWith cntCommit markCommit k xs m).flatMap cCommits) us G ∧ Only F w wr) (fun _ i _ => xs.length - (intOf i).toNat)
  case atStart => exact ⟨0, us, Nat.zero_le _, rfl, by simp, hown, ho, Only.refl _ _⟩
  case round =>
    clear hown ho
    obtain ⟨m, us, hk, rfl, rfl, hown, ho, hon⟩ := hrel
    by_cases hkn : m < xs.length
    · obtain ⟨g, rfl⟩ := hA (by omega)
      have hkn' : (m : Int) < (xs.length : Int) := by omega
      obtain ⟨x, hx⟩ : ∃ x, xs[m]? = some x := ⟨_, List.getElem?_eq_getElem hkn⟩
      have hgG := own_row_ne hF hnd
      have hgF : g ∈ F := by rw [hF]; simp [Value.ownBlock]
      have hs1 := sum_take_succ (cnt := cntCommit) hx
      have hs2 := sum_take_le (cnt := cntCommit) xs (m + 1)
      have hstep := halfWith_step cntCommit markCommit k hx
      have hpx : ∀ j, j < 3 → ((halfWith cntCommit markCommit k xs m).flatMap cCommits)[m * 3 + j]? = (cCommits x)[j]? := by
        intro j hj
        rw [flatMap_at cCommits_len _ _ _ hj, halfWith_at, hx]; rfl
      have hfin := flatMap_set cCommits_len (markCommit (k + (((xs.take m).map cntCommit).sum : Nat)) x) (halfWith cntCommit markCommit k xs m) m (by rw [halfWith_length]; exact hkn)
      rw [hstep] at hfin
      have hK0 : 0 ≤ k + (((xs.take m).map cntCommit).sum : Nat) := by omega
      have hK1 : k + (((xs.take m).map cntCommit).sum : Nat) + (cntCommit x : Nat) ≤ 1099511627776 := by unfold cntCommits at h1; omega
      have hK2 : k + (((xs.take (m + 1)).map cntCommit).sum : Nat) = k + (((xs.take m).map cntCommit).sum : Nat) + (cntCommit x : Nat) := by omega
      obtain ⟨K, eK⟩ : ∃ K : Int, K = k + (((xs.take m).map cntCommit).sum : Nat) := ⟨_, rfl⟩
      rw [← eK] at hfin hK0 hK1 hK2 ⊢
      obtain ⟨ps, eps⟩ : ∃ ps, ps = (halfWith cntCommit markCommit k xs m).flatMap cCommits := ⟨_, rfl⟩
      rw [← eps] at ho hpx hfin
      have Hfin := Lib.hid hfin
      have HK2 := Lib.hid hK2
      unfold cntCommit at hK1
      have hul := hown.1
      have hp_0 : Hid (ps[m * 3]? = some (encInts x.parents)) := Lib.hid (hpx 0 (by omega))
      have hp_1 : Hid (ps[m * 3 + 1]? = some (.str x.who)) := Lib.hid (hpx 1 (by omega))
      have hp_2 : Hid (ps[m * 3 + 2]? = some (encFiles x.tree)) := Lib.hid (hpx 2 (by omega))
      clear hx hs1 hs2 hstep hpx hfin hK2 eK eps hk
      obtain ⟨v0, _, _, _, hu0, _, q0, _⟩ := Owns.at ho hp_0.out
      obtain ⟨A0, n0, c0, rfl⟩ := q0.shape
      have hu_0 := Lib.hid hu0
      obtain ⟨v1, hu1⟩ : ∃ u, us[m * 3 + 1]? = some u := ⟨us[m * 3 + 1]'(by omega), List.getElem?_eq_getElem (by omega)⟩
      have hu_1 := Lib.hid hu1
      obtain ⟨v2, _, _, _, hu2, _, q2, _⟩ := Owns.at ho hp_2.out
      obtain ⟨A2, n2, c2, rfl⟩ := q2.shape
      have hu_2 := Lib.hid hu2
      clear hu0 hu1 hu2 q0 q2 hul
      have y0 := hown.cellAt (m * 3) (by omega)
      rw [hu_0.out] at y0
      have y1 := hown.cellAt (m * 3 + 1) (by omega)
      rw [hu_1.out] at y1
      have y2 := hown.cellAt (m * 3 + 2) (by omega)
      rw [hu_2.out] at y2
      have hfr := fun j => hown.frozenAt j
      obtain ⟨t1, Fa1, F1, Fb1, ht1, hG1, hq1, hset1⟩ := Owns.at ho hp_0.out
      obtain rfl := Option.some.inj (ht1.symm.trans hu_0.out)
      have hnd1 : (Fa1 ++ (F1 ++ Fb1)).Nodup := hG1 ▸ hGn
      have sub1 : ∀ q ∈ F1, q ∈ F := fun q hq => hGF q (by rw [hG1]; simp [hq])
      have hgn1 : ∀ q ∈ F1, q ≠ g := fun q hq => hgG q (by rw [hG1]; simp [hq])
      have hlt1 := ho.lt
      rw [hG1] at hlt1
      have HT1 := Lib.hid ht1
      clear ht1
      go_wp2_with fail
      refine Calls.mono (markIntS_any _ _ _ x.parents K _ F1 hq1 (nodup_mid hnd1).1 (by omega) (by omega)) ?_
      rintro e w1 ⟨rfl, hr1, hc1⟩
      have own1 := ownsRow_same (w' := w1) hown (fun q hq => hc1.block q (hown.lt q (by simpa using hq)).2 (fun hm => hgn1 q hm (by simp [Value.ownBlock] at hq; exact hq)))
      have oo1 := Owns.changed HT1.out hlt1 hnd1 hc1 hr1 hset1
      rw [← hG1] at oo1
      have on1 := hon.trans (hc1.mono sub1)
      have hp1_0 : Hid ((ps.set (m * 3) (encInts (markIs K x.parents)))[m * 3]? = some (encInts (markIs K x.parents))) := Lib.hid (List.getElem?_set_self (List.getElem?_eq_some_iff.1 hp_0.out).1)
      have hp1_1 : Hid ((ps.set (m * 3) (encInts (markIs K x.parents)))[m * 3 + 1]? = _) := Lib.hid ((List.getElem?_set_ne (by omega)).trans hp_1.out)
      have hp1_2 : Hid ((ps.set (m * 3) (encInts (markIs K x.parents)))[m * 3 + 2]? = _) := Lib.hid ((List.getElem?_set_ne (by omega)).trans hp_2.out)
      clear hown ho hon hq1 hr1 hc1 hset1 hlt1 hnd1 sub1 hgn1 HT1 y0 y1 y2 hfr hp_0 hp_1 hp_2
      have HG1 := Lib.hid hG1
      clear hG1
      have hul1 := own1.1
      have hul'1 : (us).length = us.length := by simp
      have y0 := own1.cellAt (m * 3) (by omega)
      rw [hu_0.out] at y0
      have y1 := own1.cellAt (m * 3 + 1) (by omega)
      rw [hu_1.out] at y1
      have y2 := own1.cellAt (m * 3 + 2) (by omega)
      rw [hu_2.out] at y2
      have hfr := fun j => own1.frozenAt j
      clear hul1 hul'1
      go_wp2_with fail
      refine Calls.mono (markText_any (K + (x.parents.length : Nat)) _ (by omega)) ?_
      rintro e w2 ⟨rfl, hb2⟩
      have ln2 := own1.lt g rfl
      have lo2 := oo1.lt
      have own2 := ownsRow_same (w' := w2) own1 (fun q hq => hb2.block q (by have := own1.lt q (by simpa using hq); exact this.2))
      have oo2 := Owns.same _ _ _ oo1 (w' := w2) (fun q hq => hb2.block q (lo2 q hq))
      have on2 := on1.trans (Only.of_below hb2)
      clear y0 y1 y2 hfr own1 oo1 on1 hb2 ln2 lo2
      have y0 := own2.cellAt (m * 3) (by omega)
      rw [hu_0.out] at y0
      have y1 := own2.cellAt (m * 3 + 1) (by omega)
      rw [hu_1.out] at y1
      have y2 := own2.cellAt (m * 3 + 2) (by omega)
      rw [hu_2.out] at y2
      have hfr := fun j => own2.frozenAt j
      have own3 := (own2.stored (m * 3 + 1) (.string ⟨(markT (K + (x.parents.length : Nat))).toArray⟩)).1
      have oo3 := oo2.plain_set (w' := w2.setCell ⟨g, m * 3 + 1, none⟩ (.string ⟨(markT (K + (x.parents.length : Nat))).toArray⟩)) (p' := .str (markT (K + (x.parents.length : Nat)))) (u' := .string ⟨(markT (K + (x.parents.length : Nat))).toArray⟩) hp1_1.out (fun w u F h => h.2) (fun q hq => Below.heap_setCell w2 ⟨g, m * 3 + 1, none⟩ _ q (hgG q hq)) (fun w => ⟨rfl, rfl⟩)
      have on3 := on2.setCell (p := ⟨g, m * 3 + 1, none⟩) hgF (.string ⟨(markT (K + (x.parents.length : Nat))).toArray⟩)
      have hul3 := own2.1
      have hu3_0 : Hid ((us.set (m * 3 + 1) (.string ⟨(markT (K + (x.parents.length : Nat))).toArray⟩))[m * 3]? = _) := Lib.hid ((List.getElem?_set_ne (by omega)).trans hu_0.out)
      have hp3_0 : Hid (((ps.set (m * 3) (encInts (markIs K x.parents))).set (m * 3 + 1) (.str (markT (K + (x.parents.length : Nat)))))[m * 3]? = _) := Lib.hid ((List.getElem?_set_ne (by omega)).trans hp1_0.out)
      have hu3_1 : Hid ((us.set (m * 3 + 1) (.string ⟨(markT (K + (x.parents.length : Nat))).toArray⟩))[m * 3 + 1]? = some (.string ⟨(markT (K + (x.parents.length : Nat))).toArray⟩)) := Lib.hid (List.getElem?_set_self (by omega))
      have hp3_1 : Hid (((ps.set (m * 3) (encInts (markIs K x.parents))).set (m * 3 + 1) (.str (markT (K + (x.parents.length : Nat)))))[m * 3 + 1]? = some (.str (markT (K + (x.parents.length : Nat))))) := Lib.hid (List.getElem?_set_self (List.getElem?_eq_some_iff.1 hp1_1.out).1)
      have hu3_2 : Hid ((us.set (m * 3 + 1) (.string ⟨(markT (K + (x.parents.length : Nat))).toArray⟩))[m * 3 + 2]? = _) := Lib.hid ((List.getElem?_set_ne (by omega)).trans hu_2.out)
      have hp3_2 : Hid (((ps.set (m * 3) (encInts (markIs K x.parents))).set (m * 3 + 1) (.str (markT (K + (x.parents.length : Nat)))))[m * 3 + 2]? = _) := Lib.hid ((List.getElem?_set_ne (by omega)).trans hp1_2.out)
      clear own2 oo2 on2 hul3 hu_0 hu_1 hu_2 hp1_0 hp1_1 hp1_2
      obtain ⟨t4, Fa4, F4, Fb4, ht4, hG4, hq4, hset4⟩ := Owns.at oo3 hp3_2.out
      obtain rfl := Option.some.inj (ht4.symm.trans hu3_2.out)
      have hnd4 : (Fa4 ++ (F4 ++ Fb4)).Nodup := hG4 ▸ hGn
      have sub4 : ∀ q ∈ F4, q ∈ F := fun q hq => hGF q (by rw [hG4]; simp [hq])
      have hgn4 : ∀ q ∈ F4, q ≠ g := fun q hq => hgG q (by rw [hG4]; simp [hq])
      have hlt4 := oo3.lt
      rw [hG4] at hlt4
      have HT4 := Lib.hid ht4
      clear ht4
      go_wp2_with fail
      refine Calls.mono (markFileS_any _ _ _ x.tree ((K + (x.parents.length : Nat)) + 1) _ F4 hq4 (nodup_mid hnd4).1 (by omega) (by omega)) ?_
      rintro e w4 ⟨rfl, hr4, hc4⟩
      have own4 := ownsRow_same (w' := w4) own3 (fun q hq => hc4.block q (own3.lt q (by simpa using hq)).2 (fun hm => hgn4 q hm (by simp [Value.ownBlock] at hq; exact hq)))
      have oo4 := Owns.changed HT4.out hlt4 hnd4 hc4 hr4 hset4
      rw [← hG4] at oo4
      have on4 := on3.trans (hc4.mono sub4)
      have hp4_0 : Hid ((((ps.set (m * 3) (encInts (markIs K x.parents))).set (m * 3 + 1) (.str (markT (K + (x.parents.length : Nat))))).set (m * 3 + 2) (encFiles (markFiles ((K + (x.parents.length : Nat)) + 1) x.tree)))[m * 3]? = _) := Lib.hid ((List.getElem?_set_ne (by omega)).trans hp3_0.out)
      have hp4_1 : Hid ((((ps.set (m * 3) (encInts (markIs K x.parents))).set (m * 3 + 1) (.str (markT (K + (x.parents.length : Nat))))).set (m * 3 + 2) (encFiles (markFiles ((K + (x.parents.length : Nat)) + 1) x.tree)))[m * 3 + 1]? = _) := Lib.hid ((List.getElem?_set_ne (by omega)).trans hp3_1.out)
      have hp4_2 : Hid ((((ps.set (m * 3) (encInts (markIs K x.parents))).set (m * 3 + 1) (.str (markT (K + (x.parents.length : Nat))))).set (m * 3 + 2) (encFiles (markFiles ((K + (x.parents.length : Nat)) + 1) x.tree)))[m * 3 + 2]? = some (encFiles (markFiles ((K + (x.parents.length : Nat)) + 1) x.tree))) := Lib.hid (List.getElem?_set_self (List.getElem?_eq_some_iff.1 hp3_2.out).1)
      clear own3 oo3 on3 hq4 hr4 hc4 hset4 hlt4 hnd4 sub4 hgn4 HT4 y0 y1 y2 hfr hp3_0 hp3_1 hp3_2
      have HG4 := Lib.hid hG4
      clear hG4
      have hul4 := own4.1
      have hul'4 : ((us.set (m * 3 + 1) (.string ⟨(markT (K + (x.parents.length : Nat))).toArray⟩))).length = us.length := by simp
      have y0 := own4.cellAt (m * 3) (by omega)
      rw [hu3_0.out] at y0
      have y1 := own4.cellAt (m * 3 + 1) (by omega)
      rw [hu3_1.out] at y1
      have y2 := own4.cellAt (m * 3 + 2) (by omega)
      rw [hu3_2.out] at y2
      have hfr := fun j => own4.frozenAt j
      clear hul4 hul'4
      go_wp2
      go_roundw
      case rel => exact ⟨m + 1, _, by omega, by go_num, by rw [HK2.out]; unfold cntCommit; go_num, own4, Hfin.out ▸ oo4, on4⟩
      case measure => simp [intOf]; omega
    · obtain rfl : m = xs.length := by omega
      rw [halfWith_all _ _ _ _ (Nat.le_refl _)] at ho
      go_wp2
      go_ret
      exact ⟨by rw [List.take_length]; rfl, Own.shut hown hF ho, hon⟩
end Go.Proofs.YtenkceeicmfjhaaGreatDoor

/- Walks: the laws' own helpers that mark a slice of Head, and look whether the marks stand. Printed by wip/marks.py. -/
namespace Go.Proofs.YtenkceeicmfjhaaGreatDoor
open Go.RowKit
def cntHead (_x : PHead) : Nat := 1 + 1
def cntHeads (xs : List PHead) : Nat := (xs.map cntHead).sum
def markHead (k : Int) (_x : PHead) : PHead := ⟨markT k, (k + 1)⟩
def markHeads (k : Int) (xs : List PHead) : List PHead := marksWith cntHead markHead k xs
set_option maxHeartbeats 1600000 in
theorem markHeadS_any (A : Option Addr) (n c : Nat) (xs : List PHead) (k : Int) (w : World) (F : List Nat) (h : Own w (encHeads xs) (.slice A n c) F) (hnd : F.Nodup) (h0 : 0 ≤ k) (h1 : k + cntHeads xs ≤ 1099511627776) :
    Calls Tryz.prog 30 #[.slice A n c, .int .i64 k] w fun e w' => e = .returned (.int .i64 (k + cntHeads xs)) ∧ Own w' (encHeads (markHeads k xs)) (.slice A n c) F ∧ Only F w w' := by
  obtain ⟨us, G, hown, hF, ho, hl, hc, hm, hA⟩ := Own.open_ h
  have hl : n = xs.length := by rw [length_flatMap_z cHeads_len] at hl; omega
  subst hl
  clear h
  rw [← halfWith_zero cntHead markHead k xs] at ho
  have hGn : G.Nodup := by rw [hF] at hnd; exact (List.nodup_append.1 hnd).2.1
  have hGF : ∀ q ∈ G, q ∈ F := fun q hq => by rw [hF]; exact List.mem_append_right _ hq
  go_enter Tryz.func30, Tryz.ntmps30
  go_wp2
  go_loopw [1, 5] (fun kk i wr => ∃ (m : Nat) (us : List Value), m ≤ xs.length ∧ i = .int .i64 m ∧ kk = .int .i64 (k + (((xs.take m).map cntHead).sum : Nat)) ∧ wr.ownsRow 0 77 2 (.slice A xs.length c) xs.length us ∧ Owns wr ((halfWith cntHead markHead k xs m).flatMap cHeads) us G ∧ Only F w wr) (fun _ i _ => xs.length - (intOf i).toNat)
  case atStart => exact ⟨0, us, Nat.zero_le _, rfl, by simp, hown, ho, Only.refl _ _⟩
  case round =>
    clear hown ho
    obtain ⟨m, us, hk, rfl, rfl, hown, ho, hon⟩ := hrel
    by_cases hkn : m < xs.length
    · obtain ⟨g, rfl⟩ := hA (by omega)
      have hkn' : (m : Int) < (xs.length : Int) := by omega
      obtain ⟨x, hx⟩ : ∃ x, xs[m]? = some x := ⟨_, List.getElem?_eq_getElem hkn⟩
      have hgG := own_row_ne hF hnd
      have hgF : g ∈ F := by rw [hF]; simp [Value.ownBlock]
      have hs1 := sum_take_succ (cnt := cntHead) hx
      have hs2 := sum_take_le (cnt := cntHead) xs (m + 1)
      have hstep := halfWith_step cntHead markHead k hx
      have hpx : ∀ j, j < 2 → ((halfWith cntHead markHead k xs m).flatMap cHeads)[m * 2 + j]? = (cHeads x)[j]? := by
        intro j hj
        rw [flatMap_at cHeads_len _ _ _ hj, halfWith_at, hx]; rfl
      have hfin := flatMap_set cHeads_len (markHead (k + (((xs.take m).map cntHead).sum : Nat)) x) (halfWith cntHead markHead k xs m) m (by rw [halfWith_length]; exact hkn)
      rw [hstep] at hfin
      have hK0 : 0 ≤ k + (((xs.take m).map cntHead).sum : Nat) := by omega
      have hK1 : k + (((xs.take m).map cntHead).sum : Nat) + (cntHead x : Nat) ≤ 1099511627776 := by unfold cntHeads at h1; omega
      have hK2 : k + (((xs.take (m + 1)).map cntHead).sum : Nat) = k + (((xs.take m).map cntHead).sum : Nat) + (cntHead x : Nat) := by omega
      obtain ⟨K, eK⟩ : ∃ K : Int, K = k + (((xs.take m).map cntHead).sum : Nat) := ⟨_, rfl⟩
      rw [← eK] at hfin hK0 hK1 hK2 ⊢
      obtain ⟨ps, eps⟩ : ∃ ps, ps = (halfWith cntHead markHead k xs m).flatMap cHeads := ⟨_, rfl⟩
      rw [← eps] at ho hpx hfin
      have Hfin := Lib.hid hfin
      have HK2 := Lib.hid hK2
      unfold cntHead at hK1
      have hul := hown.1
      have hp_0 : Hid (ps[m * 2]? = some (.str x.name)) := Lib.hid (hpx 0 (by omega))
      have hp_1 : Hid (ps[m * 2 + 1]? = some (.int .i64 x.at_)) := Lib.hid (hpx 1 (by omega))
      clear hx hs1 hs2 hstep hpx hfin hK2 eK eps hk
      obtain ⟨v0, hu0⟩ : ∃ u, us[m * 2]? = some u := ⟨us[m * 2]'(by omega), List.getElem?_eq_getElem (by omega)⟩
      have hu_0 := Lib.hid hu0
      obtain ⟨v1, hu1⟩ : ∃ u, us[m * 2 + 1]? = some u := ⟨us[m * 2 + 1]'(by omega), List.getElem?_eq_getElem (by omega)⟩
      have hu_1 := Lib.hid hu1
      clear hu0 hu1  hul
      have y0 := hown.cellAt (m * 2) (by omega)
      rw [hu_0.out] at y0
      have y1 := hown.cellAt (m * 2 + 1) (by omega)
      rw [hu_1.out] at y1
      have hfr := fun j => hown.frozenAt j
      go_wp2_with fail
      refine Calls.mono (markText_any K _ (by omega)) ?_
      rintro e w1 ⟨rfl, hb1⟩
      have ln1 := hown.lt g rfl
      have lo1 := ho.lt
      have own1 := ownsRow_same (w' := w1) hown (fun q hq => hb1.block q (by have := hown.lt q (by simpa using hq); exact this.2))
      have oo1 := Owns.same _ _ _ ho (w' := w1) (fun q hq => hb1.block q (lo1 q hq))
      have on1 := hon.trans (Only.of_below hb1)
      clear y0 y1 hfr hown ho hon hb1 ln1 lo1
      have y0 := own1.cellAt (m * 2) (by omega)
      rw [hu_0.out] at y0
      have y1 := own1.cellAt (m * 2 + 1) (by omega)
      rw [hu_1.out] at y1
      have hfr := fun j => own1.frozenAt j
      have own2 := (own1.stored (m * 2) (.string ⟨(markT K).toArray⟩)).1
      have oo2 := oo1.plain_set (w' := w1.setCell ⟨g, m * 2, none⟩ (.string ⟨(markT K).toArray⟩)) (p' := .str (markT K)) (u' := .string ⟨(markT K).toArray⟩) hp_0.out (fun w u F h => h.2) (fun q hq => Below.heap_setCell w1 ⟨g, m * 2, none⟩ _ q (hgG q hq)) (fun w => ⟨rfl, rfl⟩)
      have on2 := on1.setCell (p := ⟨g, m * 2, none⟩) hgF (.string ⟨(markT K).toArray⟩)
      have hul2 := own1.1
      have hu2_0 : Hid ((us.set (m * 2) (.string ⟨(markT K).toArray⟩))[m * 2]? = some (.string ⟨(markT K).toArray⟩)) := Lib.hid (List.getElem?_set_self (by omega))
      have hp2_0 : Hid ((ps.set (m * 2) (.str (markT K)))[m * 2]? = some (.str (markT K))) := Lib.hid (List.getElem?_set_self (List.getElem?_eq_some_iff.1 hp_0.out).1)
      have hu2_1 : Hid ((us.set (m * 2) (.string ⟨(markT K).toArray⟩))[m * 2 + 1]? = _) := Lib.hid ((List.getElem?_set_ne (by omega)).trans hu_1.out)
      have hp2_1 : Hid ((ps.set (m * 2) (.str (markT K)))[m * 2 + 1]? = _) := Lib.hid ((List.getElem?_set_ne (by omega)).trans hp_1.out)
      clear own1 oo1 on1 hul2 hu_0 hu_1 hp_0 hp_1
      have own3 := (own2.stored (m * 2 + 1) (.int .i64 (K + 1))).1
      have oo3 := oo2.plain_set (w' := (w1.setCell ⟨g, m * 2, none⟩ (.string ⟨(markT K).toArray⟩)).setCell ⟨g, m * 2 + 1, none⟩ (.int .i64 (K + 1))) (p' := .int .i64 (K + 1)) (u' := .int .i64 (K + 1)) hp2_1.out (fun w u F h => h.2) (fun q hq => Below.heap_setCell (w1.setCell ⟨g, m * 2, none⟩ (.string ⟨(markT K).toArray⟩)) ⟨g, m * 2 + 1, none⟩ _ q (hgG q hq)) (fun w => ⟨rfl, rfl⟩)
      have on3 := on2.setCell (p := ⟨g, m * 2 + 1, none⟩) hgF (.int .i64 (K + 1))
      have hul3 := own2.1
      have hu3_0 : Hid (((us.set (m * 2) (.string ⟨(markT K).toArray⟩)).set (m * 2 + 1) (.int .i64 (K + 1)))[m * 2]? = _) := Lib.hid ((List.getElem?_set_ne (by omega)).trans hu2_0.out)
      have hp3_0 : Hid (((ps.set (m * 2) (.str (markT K))).set (m * 2 + 1) (.int .i64 (K + 1)))[m * 2]? = _) := Lib.hid ((List.getElem?_set_ne (by omega)).trans hp2_0.out)
      have hu3_1 : Hid (((us.set (m * 2) (.string ⟨(markT K).toArray⟩)).set (m * 2 + 1) (.int .i64 (K + 1)))[m * 2 + 1]? = some (.int .i64 (K + 1))) := Lib.hid (List.getElem?_set_self (by omega))
      have hp3_1 : Hid (((ps.set (m * 2) (.str (markT K))).set (m * 2 + 1) (.int .i64 (K + 1)))[m * 2 + 1]? = some (.int .i64 (K + 1))) := Lib.hid (List.getElem?_set_self (List.getElem?_eq_some_iff.1 hp2_1.out).1)
      clear own2 oo2 on2 hul3 hu2_0 hu2_1 hp2_0 hp2_1
      go_wp2
      go_roundw
      case rel => exact ⟨m + 1, _, by omega, by go_num, by rw [HK2.out]; unfold cntHead; go_num, own3, Hfin.out ▸ oo3, on3⟩
      case measure => simp [intOf]; omega
    · obtain rfl : m = xs.length := by omega
      rw [halfWith_all _ _ _ _ (Nat.le_refl _)] at ho
      go_wp2
      go_ret
      exact ⟨by rw [List.take_length]; rfl, Own.shut hown hF ho, hon⟩
end Go.Proofs.YtenkceeicmfjhaaGreatDoor
