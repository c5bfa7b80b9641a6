/- Walks: the laws' own helpers that mark a slice of Head, and look whether the marks stand. Printed by wip/marks.py. -/
import Derived.Test.YtifeflneodmmlaaDoorMark
namespace Go.Proofs.YtifeflneodmmlaaDoor
open Go.RowKit
def cntHead (_x : PHead) : Nat := 1 + 1
def cntHeads (xs : List PHead) : Nat := (xs.map cntHead).sum
def markHead (k : Int) (_x : PHead) : PHead := ⟨markT k, (k + 1)⟩
def markHeads (k : Int) (xs : List PHead) : List PHead := marksWith cntHead markHead k xs
set_option maxHeartbeats 1600000 in
theorem markHeadS_any (A : Option Addr) (n c : Nat) (xs : List PHead) (k : Int) (w : World) (F : List Nat) (h : Own w (encHeads xs) (.slice A n c) F) (hnd : F.Nodup) (h0 : 0 ≤ k) (h1 : k + cntHeads xs ≤ 1099511627776) :
    Calls Tryd.prog 25 #[.slice A n c, .int .i64 k] w fun e w' => e = .returned (.int .i64 (k + cntHeads xs)) ∧ Own w' (encHeads (markHeads k xs)) (.slice A n c) F ∧ Only F w w' := by
  obtain ⟨us, G, hown, hF, ho, hl, hc, hm, hA⟩ := Own.open_ h
  have hl : n = xs.length := by rw [length_flatMap_z cHeads_len] at hl; omega
  subst hl
  clear h
  rw [← halfWith_zero cntHead markHead k xs] at ho
  have hGn : G.Nodup := by rw [hF] at hnd; exact (List.nodup_append.1 hnd).2.1
  have hGF : ∀ q ∈ G, q ∈ F := fun q hq => by rw [hF]; exact List.mem_append_right _ hq
  go_enter Tryd.func25, Tryd.ntmps25
  go_wp2
  go_loopw [1, 5] (fun kk i wr => ∃ (m : Nat) (us : List Value), m ≤ xs.length ∧ i = .int .i64 m ∧ kk = .int .i64 (k + (((xs.take m).map cntHead).sum : Nat)) ∧ wr.ownsRow 0 63 2 (.slice A xs.length c) xs.length us ∧ Owns wr ((halfWith cntHead markHead k xs m).flatMap cHeads) us G ∧ Only F w wr) (fun _ i _ => xs.length - (intOf i).toNat)
  case atStart => exact ⟨0, us, Nat.zero_le _, rfl, by simp, hown, ho, Only.refl _ _⟩
  case round =>
    clear hown ho
    obtain ⟨m, us, hk, rfl, rfl, hown, ho, hon⟩ := hrel
    by_cases hkn : m < xs.length
    · obtain ⟨g, rfl⟩ := hA (by omega)
      have hkn' : (m : Int) < (xs.length : Int) := by omega
      obtain ⟨x, hx⟩ : ∃ x, xs[m]? = some x := ⟨_, List.getElem?_eq_getElem hkn⟩
      have hgG := own_row_ne hF hnd
      have hgF : g ∈ F := by rw [hF]; simp [Value.ownBlock]
      have hs1 := sum_take_succ (cnt := cntHead) hx
      have hs2 := sum_take_le (cnt := cntHead) xs (m + 1)
      have hstep := halfWith_step cntHead markHead k hx
      have hpx : ∀ j, j < 2 → ((halfWith cntHead markHead k xs m).flatMap cHeads)[m * 2 + j]? = (cHeads x)[j]? := by
        intro j hj
        rw [flatMap_at cHeads_len _ _ _ hj, halfWith_at, hx]; rfl
      have hfin := flatMap_set cHeads_len (markHead (k + (((xs.take m).map cntHead).sum : Nat)) x) (halfWith cntHead markHead k xs m) m (by rw [halfWith_length]; exact hkn)
      rw [hstep] at hfin
      have hK0 : 0 ≤ k + (((xs.take m).map cntHead).sum : Nat) := by omega
      have hK1 : k + (((xs.take m).map cntHead).sum : Nat) + (cntHead x : Nat) ≤ 1099511627776 := by unfold cntHeads at h1; omega
      have hK2 : k + (((xs.take (m + 1)).map cntHead).sum : Nat) = k + (((xs.take m).map cntHead).sum : Nat) + (cntHead x : Nat) := by omega
      obtain ⟨K, eK⟩ : ∃ K : Int, K = k + (((xs.take m).map cntHead).sum : Nat) := ⟨_, rfl⟩
      rw [← eK] at hfin hK0 hK1 hK2 ⊢
      obtain ⟨ps, eps⟩ : ∃ ps, ps = (halfWith cntHead markHead k xs m).flatMap cHeads := ⟨_, rfl⟩
      rw [← eps] at ho hpx hfin
      have Hfin := Lib.hid hfin
      have HK2 := Lib.hid hK2
      unfold cntHead at hK1
      have hul := hown.1
      have hp_0 : Hid (ps[m * 2]? = some (.str x.name)) := Lib.hid (hpx 0 (by omega))
      have hp_1 : Hid (ps[m * 2 + 1]? = some (.int .i64 x.at_)) := Lib.hid (hpx 1 (by omega))
      clear hx hs1 hs2 hstep hpx hfin hK2 eK eps hk
      obtain ⟨v0, hu0⟩ : ∃ u, us[m * 2]? = some u := ⟨us[m * 2]'(by omega), List.getElem?_eq_getElem (by omega)⟩
      have hu_0 := Lib.hid hu0
      obtain ⟨v1, hu1⟩ : ∃ u, us[m * 2 + 1]? = some u := ⟨us[m * 2 + 1]'(by omega), List.getElem?_eq_getElem (by omega)⟩
      have hu_1 := Lib.hid hu1
      clear hu0 hu1  hul
      have y0 := hown.cellAt (m * 2) (by omega)
      rw [hu_0.out] at y0
      have y1 := hown.cellAt (m * 2 + 1) (by omega)
      rw [hu_1.out] at y1
      have hfr := fun j => hown.frozenAt j
      go_wp2_with fail
      refine Calls.mono (markText_any K _ (by omega)) ?_
      rintro e w1 ⟨rfl, hb1⟩
      have ln1 := hown.lt g rfl
      have lo1 := ho.lt
      have own1 := ownsRow_same (w' := w1) hown (fun q hq => hb1.block q (by have := hown.lt q (by simpa using hq); exact this.2))
      have oo1 := Owns.same _ _ _ ho (w' := w1) (fun q hq => hb1.block q (lo1 q hq))
      have on1 := hon.trans (Only.of_below hb1)
      clear y0 y1 hfr hown ho hon hb1 ln1 lo1
      have y0 := own1.cellAt (m * 2) (by omega)
      rw [hu_0.out] at y0
      have y1 := own1.cellAt (m * 2 + 1) (by omega)
      rw [hu_1.out] at y1
      have hfr := fun j => own1.frozenAt j
      have own2 := (own1.stored (m * 2) (.string ⟨(markT K).toArray⟩)).1
      have oo2 := oo1.plain_set (w' := w1.setCell ⟨g, m * 2, none⟩ (.string ⟨(markT K).toArray⟩)) (p' := .str (markT K)) (u' := .string ⟨(markT K).toArray⟩) hp_0.out (fun w u F h => h.2) (fun q hq => Below.heap_setCell w1 ⟨g, m * 2, none⟩ _ q (hgG q hq)) (fun w => ⟨rfl, rfl⟩)
      have on2 := on1.setCell (p := ⟨g, m * 2, none⟩) hgF (.string ⟨(markT K).toArray⟩)
      have hul2 := own1.1
      have hu2_0 : Hid ((us.set (m * 2) (.string ⟨(markT K).toArray⟩))[m * 2]? = some (.string ⟨(markT K).toArray⟩)) := Lib.hid (List.getElem?_set_self (by omega))
      have hp2_0 : Hid ((ps.set (m * 2) (.str (markT K)))[m * 2]? = some (.str (markT K))) := Lib.hid (List.getElem?_set_self (List.getElem?_eq_some_iff.1 hp_0.out).1)
      have hu2_1 : Hid ((us.set (m * 2) (.string ⟨(markT K).toArray⟩))[m * 2 + 1]? = _) := Lib.hid ((List.getElem?_set_ne (by omega)).trans hu_1.out)
      have hp2_1 : Hid ((ps.set (m * 2) (.str (markT K)))[m * 2 + 1]? = _) := Lib.hid ((List.getElem?_set_ne (by omega)).trans hp_1.out)
      clear own1 oo1 on1 hul2 hu_0 hu_1 hp_0 hp_1
      have own3 := (own2.stored (m * 2 + 1) (.int .i64 (K + 1))).1
      have oo3 := oo2.plain_set (w' := (w1.setCell ⟨g, m * 2, none⟩ (.string ⟨(markT K).toArray⟩)).setCell ⟨g, m * 2 + 1, none⟩ (.int .i64 (K + 1))) (p' := .int .i64 (K + 1)) (u' := .int .i64 (K + 1)) hp2_1.out (fun w u F h => h.2) (fun q hq => Below.heap_setCell (w1.setCell ⟨g, m * 2, none⟩ (.string ⟨(markT K).toArray⟩)) ⟨g, m * 2 + 1, none⟩ _ q (hgG q hq)) (fun w => ⟨rfl, rfl⟩)
      have on3 := on2.setCell (p := ⟨g, m * 2 + 1, none⟩) hgF (.int .i64 (K + 1))
      have hul3 := own2.1
      have hu3_0 : Hid (((us.set (m * 2) (.string ⟨(markT K).toArray⟩)).set (m * 2 + 1) (.int .i64 (K + 1)))[m * 2]? = _) := Lib.hid ((List.getElem?_set_ne (by omega)).trans hu2_0.out)
      have hp3_0 : Hid (((ps.set (m * 2) (.str (markT K))).set (m * 2 + 1) (.int .i64 (K + 1)))[m * 2]? = _) := Lib.hid ((List.getElem?_set_ne (by omega)).trans hp2_0.out)
      have hu3_1 : Hid (((us.set (m * 2) (.string ⟨(markT K).toArray⟩)).set (m * 2 + 1) (.int .i64 (K + 1)))[m * 2 + 1]? = some (.int .i64 (K + 1))) := Lib.hid (List.getElem?_set_self (by omega))
      have hp3_1 : Hid (((ps.set (m * 2) (.str (markT K))).set (m * 2 + 1) (.int .i64 (K + 1)))[m * 2 + 1]? = some (.int .i64 (K + 1))) := Lib.hid (List.getElem?_set_self (List.getElem?_eq_some_iff.1 hp2_1.out).1)
      clear own2 oo2 on2 hul3 hu2_0 hu2_1 hp2_0 hp2_1
      go_wp2
      go_roundw
      case rel => exact ⟨m + 1, _, by omega, by go_num, by rw [HK2.out]; unfold cntHead; go_num, own3, Hfin.out ▸ oo3, on3⟩
      case measure => simp [intOf]; omega
    · obtain rfl : m = xs.length := by omega
      rw [halfWith_all _ _ _ _ (Nat.le_refl _)] at ho
      go_wp2
      go_ret
      exact ⟨by rw [List.take_length]; rfl, Own.shut hown hF ho, hon⟩
end Go.Proofs.YtifeflneodmmlaaDoor
