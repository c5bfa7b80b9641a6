/- Walks: the laws' own helpers that mark a slice of Clash, and look whether the marks stand. Printed by wip/marks.py. -/
import Derived.Test.YtgcioajaglljfaaGreatDoorMark
namespace Go.Proofs.YtgcioajaglljfaaGreatDoor
open Go.RowKit
def cntClash (_x : PClash) : Nat := 1 + 1
def cntClashs (xs : List PClash) : Nat := (xs.map cntClash).sum
def markClash (k : Int) (_x : PClash) : PClash := ⟨markT k, (k + 1)⟩
def markClashs (k : Int) (xs : List PClash) : List PClash := marksWith cntClash markClash k xs
set_option maxHeartbeats 1600000 in
theorem markClashS_any (A : Option Addr) (n c : Nat) (xs : List PClash) (k : Int) (w : World) (F : List Nat) (h : Own w (encClashs xs) (.slice A n c) F) (hnd : F.Nodup) (h0 : 0 ≤ k) (h1 : k + cntClashs xs ≤ 1099511627776) :
    Calls Tryz.prog 12 #[.slice A n c, .int .i64 k] w fun e w' => e = .returned (.int .i64 (k + cntClashs xs)) ∧ Own w' (encClashs (markClashs k xs)) (.slice A n c) F ∧ Only F w w' := by
  obtain ⟨us, G, hown, hF, ho, hl, hc, hm, hA⟩ := Own.open_ h
  have hl : n = xs.length := by rw [length_flatMap_z cClashs_len] at hl; omega
  subst hl
  clear h
  rw [← halfWith_zero cntClash markClash k xs] at ho
  have hGn : G.Nodup := by rw [hF] at hnd; exact (List.nodup_append.1 hnd).2.1
  have hGF : ∀ q ∈ G, q ∈ F := fun q hq => by rw [hF]; exact List.mem_append_right _ hq
  go_enter Tryz.func12, Tryz.ntmps12
  go_wp2
  go_loopw [1, 5] (fun kk i wr => ∃ (m : Nat) (us : List Value), m ≤ xs.length ∧ i = .int .i64 m ∧ kk = .int .i64 (k + (((xs.take m).map cntClash).sum : Nat)) ∧ wr.ownsRow 0 51 2 (.slice A xs.length c) xs.length us ∧ Owns wr ((halfWith cntClash markClash k xs m).flatMap cClashs) us G ∧ Only F w wr) (fun _ i _ => xs.length - (intOf i).toNat)
  case atStart => exact ⟨0, us, Nat.zero_le _, rfl, by simp, hown, ho, Only.refl _ _⟩
  case round =>
    clear hown ho
    obtain ⟨m, us, hk, rfl, rfl, hown, ho, hon⟩ := hrel
    by_cases hkn : m < xs.length
    · obtain ⟨g, rfl⟩ := hA (by omega)
      have hkn' : (m : Int) < (xs.length : Int) := by omega
      obtain ⟨x, hx⟩ : ∃ x, xs[m]? = some x := ⟨_, List.getElem?_eq_getElem hkn⟩
      have hgG := own_row_ne hF hnd
      have hgF : g ∈ F := by rw [hF]; simp [Value.ownBlock]
      have hs1 := sum_take_succ (cnt := cntClash) hx
      have hs2 := sum_take_le (cnt := cntClash) xs (m + 1)
      have hstep := halfWith_step cntClash markClash k hx
      have hpx : ∀ j, j < 2 → ((halfWith cntClash markClash k xs m).flatMap cClashs)[m * 2 + j]? = (cClashs x)[j]? := by
        intro j hj
        rw [flatMap_at cClashs_len _ _ _ hj, halfWith_at, hx]; rfl
      have hfin := flatMap_set cClashs_len (markClash (k + (((xs.take m).map cntClash).sum : Nat)) x) (halfWith cntClash markClash k xs m) m (by rw [halfWith_length]; exact hkn)
      rw [hstep] at hfin
      have hK0 : 0 ≤ k + (((xs.take m).map cntClash).sum : Nat) := by omega
      have hK1 : k + (((xs.take m).map cntClash).sum : Nat) + (cntClash x : Nat) ≤ 1099511627776 := by unfold cntClashs at h1; omega
      have hK2 : k + (((xs.take (m + 1)).map cntClash).sum : Nat) = k + (((xs.take m).map cntClash).sum : Nat) + (cntClash x : Nat) := by omega
      obtain ⟨K, eK⟩ : ∃ K : Int, K = k + (((xs.take m).map cntClash).sum : Nat) := ⟨_, rfl⟩
      rw [← eK] at hfin hK0 hK1 hK2 ⊢
      obtain ⟨ps, eps⟩ : ∃ ps, ps = (halfWith cntClash markClash k xs m).flatMap cClashs := ⟨_, rfl⟩
      rw [← eps] at ho hpx hfin
      have Hfin := Lib.hid hfin
      have HK2 := Lib.hid hK2
      unfold cntClash at hK1
      have hul := hown.1
      have hp_0 : Hid (ps[m * 2]? = some (.str x.path)) := Lib.hid (hpx 0 (by omega))
      have hp_1 : Hid (ps[m * 2 + 1]? = some (.int .i64 x.kind)) := Lib.hid (hpx 1 (by omega))
      clear hx hs1 hs2 hstep hpx hfin hK2 eK eps hk
      obtain ⟨v0, hu0⟩ : ∃ u, us[m * 2]? = some u := ⟨us[m * 2]'(by omega), List.getElem?_eq_getElem (by omega)⟩
      have hu_0 := Lib.hid hu0
      obtain ⟨v1, hu1⟩ : ∃ u, us[m * 2 + 1]? = some u := ⟨us[m * 2 + 1]'(by omega), List.getElem?_eq_getElem (by omega)⟩
      have hu_1 := Lib.hid hu1
      clear hu0 hu1  hul
      have y0 := hown.cellAt (m * 2) (by omega)
      rw [hu_0.out] at y0
      have y1 := hown.cellAt (m * 2 + 1) (by omega)
      rw [hu_1.out] at y1
      have hfr := fun j => hown.frozenAt j
      go_wp2_with fail
      refine Calls.mono (markText_any K _ (by omega)) ?_
      rintro e w1 ⟨rfl, hb1⟩
      have ln1 := hown.lt g rfl
      have lo1 := ho.lt
      have own1 := ownsRow_same (w' := w1) hown (fun q hq => hb1.block q (by have := hown.lt q (by simpa using hq); exact this.2))
      have oo1 := Owns.same _ _ _ ho (w' := w1) (fun q hq => hb1.block q (lo1 q hq))
      have on1 := hon.trans (Only.of_below hb1)
      clear y0 y1 hfr hown ho hon hb1 ln1 lo1
      have y0 := own1.cellAt (m * 2) (by omega)
      rw [hu_0.out] at y0
      have y1 := own1.cellAt (m * 2 + 1) (by omega)
      rw [hu_1.out] at y1
      have hfr := fun j => own1.frozenAt j
      have own2 := (own1.stored (m * 2) (.string ⟨(markT K).toArray⟩)).1
      have oo2 := oo1.plain_set (w' := w1.setCell ⟨g, m * 2, none⟩ (.string ⟨(markT K).toArray⟩)) (p' := .str (markT K)) (u' := .string ⟨(markT K).toArray⟩) hp_0.out (fun w u F h => h.2) (fun q hq => Below.heap_setCell w1 ⟨g, m * 2, none⟩ _ q (hgG q hq)) (fun w => ⟨rfl, rfl⟩)
      have on2 := on1.setCell (p := ⟨g, m * 2, none⟩) hgF (.string ⟨(markT K).toArray⟩)
      have hul2 := own1.1
      have hu2_0 : Hid ((us.set (m * 2) (.string ⟨(markT K).toArray⟩))[m * 2]? = some (.string ⟨(markT K).toArray⟩)) := Lib.hid (List.getElem?_set_self (by omega))
      have hp2_0 : Hid ((ps.set (m * 2) (.str (markT K)))[m * 2]? = some (.str (markT K))) := Lib.hid (List.getElem?_set_self (List.getElem?_eq_some_iff.1 hp_0.out).1)
      have hu2_1 : Hid ((us.set (m * 2) (.string ⟨(markT K).toArray⟩))[m * 2 + 1]? = _) := Lib.hid ((List.getElem?_set_ne (by omega)).trans hu_1.out)
      have hp2_1 : Hid ((ps.set (m * 2) (.str (markT K)))[m * 2 + 1]? = _) := Lib.hid ((List.getElem?_set_ne (by omega)).trans hp_1.out)
      clear own1 oo1 on1 hul2 hu_0 hu_1 hp_0 hp_1
      have own3 := (own2.stored (m * 2 + 1) (.int .i64 (K + 1))).1
      have oo3 := oo2.plain_set (w' := (w1.setCell ⟨g, m * 2, none⟩ (.string ⟨(markT K).toArray⟩)).setCell ⟨g, m * 2 + 1, none⟩ (.int .i64 (K + 1))) (p' := .int .i64 (K + 1)) (u' := .int .i64 (K + 1)) hp2_1.out (fun w u F h => h.2) (fun q hq => Below.heap_setCell (w1.setCell ⟨g, m * 2, none⟩ (.string ⟨(markT K).toArray⟩)) ⟨g, m * 2 + 1, none⟩ _ q (hgG q hq)) (fun w => ⟨rfl, rfl⟩)
      have on3 := on2.setCell (p := ⟨g, m * 2 + 1, none⟩) hgF (.int .i64 (K + 1))
      have hul3 := own2.1
      have hu3_0 : Hid (((us.set (m * 2) (.string ⟨(markT K).toArray⟩)).set (m * 2 + 1) (.int .i64 (K + 1)))[m * 2]? = _) := Lib.hid ((List.getElem?_set_ne (by omega)).trans hu2_0.out)
      have hp3_0 : Hid (((ps.set (m * 2) (.str (markT K))).set (m * 2 + 1) (.int .i64 (K + 1)))[m * 2]? = _) := Lib.hid ((List.getElem?_set_ne (by omega)).trans hp2_0.out)
      have hu3_1 : Hid (((us.set (m * 2) (.string ⟨(markT K).toArray⟩)).set (m * 2 + 1) (.int .i64 (K + 1)))[m * 2 + 1]? = some (.int .i64 (K + 1))) := Lib.hid (List.getElem?_set_self (by omega))
      have hp3_1 : Hid (((ps.set (m * 2) (.str (markT K))).set (m * 2 + 1) (.int .i64 (K + 1)))[m * 2 + 1]? = some (.int .i64 (K + 1))) := Lib.hid (List.getElem?_set_self (List.getElem?_eq_some_iff.1 hp2_1.out).1)
      clear own2 oo2 on2 hul3 hu2_0 hu2_1 hp2_0 hp2_1
      go_wp2
      go_roundw
      case rel => exact ⟨m + 1, _, by omega, by go_num, by rw [HK2.out]; unfold cntClash; go_num, own3, Hfin.out ▸ oo3, on3⟩
      case measure => simp [intOf]; omega
    · obtain rfl : m = xs.length := by omega
      rw [halfWith_all _ _ _ _ (Nat.le_refl _)] at ho
      go_wp2
      go_ret
      exact ⟨by rw [List.take_length]; rfl, Own.shut hown hF ho, hon⟩
set_option maxHeartbeats 1600000 in
theorem heldClashS_any (A : Option Addr) (n c : Nat) (xs : List PClash) (k : Int) (w : World) (lo hi : Nat) (h : Rep w lo hi (encClashs (markClashs k xs)) (.slice A n c)) (hh : hi ≤ w.heap.size) (h0 : 0 ≤ k) (h1 : k + cntClashs xs ≤ 1099511627776) :
    Calls Tryz.prog 14 #[.slice A n c, .int .i64 k] w fun e w' => e = .returned (.int .i64 (k + cntClashs xs)) ∧ Below w.heap.size w w' := by
  have hl := Clashs.n h
  obtain ⟨hc, hm⟩ := Clashs.cap h
  rw [markClashs, marksWith_length] at hl
  subst hl
  go_enter Tryz.func14, Tryz.ntmps14
  go_wp2
  go_loopw [1, 5] (fun kk i wr => ∃ m : Nat, m ≤ xs.length ∧ i = .int .i64 m ∧ kk = .int .i64 (k + (((xs.take m).map cntClash).sum : Nat)) ∧ Below w.heap.size w wr) (fun _ i _ => xs.length - (intOf i).toNat)
  case atStart => exact ⟨0, Nat.zero_le _, rfl, by simp, Below.refl _ _⟩
  case round =>
    obtain ⟨m, hk, rfl, rfl, hb⟩ := hrel
    by_cases hkn : m < xs.length
    · obtain ⟨b1, o1, x', rfl, hblo, hbhi, hx', d0, d1⟩ := Clashs.at (h.keep hb hh) hkn
      have hkn' : (m : Int) < (xs.length : Int) := by omega
      obtain ⟨x, hx⟩ : ∃ x, xs[m]? = some x := ⟨_, List.getElem?_eq_getElem hkn⟩
      rw [markClashs, marksWith_get, hx, Option.map_some, Option.some.injEq] at hx'
      subst hx'
      have hs1 := sum_take_succ (cnt := cntClash) hx
      have hs2 := sum_take_le (cnt := cntClash) xs (m + 1)
      have hK0 : 0 ≤ k + (((xs.take m).map cntClash).sum : Nat) := by omega
      have hK1 : k + (((xs.take m).map cntClash).sum : Nat) + (cntClash x : Nat) ≤ 1099511627776 := by unfold cntClashs at h1; omega
      have hK2 : k + (((xs.take (m + 1)).map cntClash).sum : Nat) = k + (((xs.take m).map cntClash).sum : Nat) + (cntClash x : Nat) := by omega
      obtain ⟨K, eK⟩ : ∃ K : Int, K = k + (((xs.take m).map cntClash).sum : Nat) := ⟨_, rfl⟩
      rw [← eK] at hK0 hK1 hK2 d0 d1  ⊢
      have HK2 := Lib.hid hK2
      unfold cntClash at hK1
      dsimp only [markClash] at d0 d1 
      clear hs1 hs2 hK2 eK hx hk
      have hlater1 := Later.cell d0
      go_wp2
      refine wp_region_later_lit (by kernel_rfl) (by kernel_rfl) ?_; try simp only [List.append_eq, List.cons_append, List.nil_append]
      repeat (go_big_quiet_step (((go_at_call 29; with_reducible exact Calls.later (markText_any _ _ (by omega))))))
      (refine wpQuiet_nil ?_; intro _ hw'; obtain ⟨⟨w9, hb9⟩, hw''⟩ := hw'; subst hw''; try dsimp only)
      rename World => w1
      have hb1 := hb9
      clear hb9 hlater1
      have d1' : w1.cell? _ = _ := (hb1.cell (World.block_lt_of_cell? _ _ d1)).trans d1
      clear d1
      have d1 := d1'
      clear d1'
      have bl1 := hb.trans (hb1.mono hb.size)
      clear hb1
      go_wp2
      go_roundw
      case rel => exact ⟨m + 1, by omega, by go_num, by rw [HK2.out]; unfold cntClash; go_num, bl1⟩
      case measure => simp [intOf]; omega
    · obtain rfl : m = xs.length := by omega
      go_wp2
      go_ret
      exact ⟨by rw [List.take_length]; rfl, hb⟩
end Go.Proofs.YtgcioajaglljfaaGreatDoor
