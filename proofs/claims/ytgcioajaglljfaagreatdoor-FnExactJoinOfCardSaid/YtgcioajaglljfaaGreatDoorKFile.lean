/- Walks: the laws' own helpers that mark a slice of File, and look whether the marks stand. Printed by wip/marks.py. -/
import Derived.Test.YtgcioajaglljfaaGreatDoorMark
namespace Go.Proofs.YtgcioajaglljfaaGreatDoor
open Go.RowKit
def cntFile (x : PFile) : Nat := 1 + (x.text.length)
def cntFiles (xs : List PFile) : Nat := (xs.map cntFile).sum
def markFile (k : Int) (x : PFile) : PFile := ⟨markT k, markTs (k + 1) x.text⟩
def markFiles (k : Int) (xs : List PFile) : List PFile := marksWith cntFile markFile k xs
set_option maxHeartbeats 1600000 in
theorem markFileS_any (A : Option Addr) (n c : Nat) (xs : List PFile) (k : Int) (w : World) (F : List Nat) (h : Own w (encFiles xs) (.slice A n c) F) (hnd : F.Nodup) (h0 : 0 ≤ k) (h1 : k + cntFiles xs ≤ 1099511627776) :
    Calls Tryz.prog 11 #[.slice A n c, .int .i64 k] w fun e w' => e = .returned (.int .i64 (k + cntFiles xs)) ∧ Own w' (encFiles (markFiles k xs)) (.slice A n c) F ∧ Only F w w' := by
  obtain ⟨us, G, hown, hF, ho, hl, hc, hm, hA⟩ := Own.open_ h
  have hl : n = xs.length := by rw [length_flatMap_z cFiles_len] at hl; omega
  subst hl
  clear h
  rw [← halfWith_zero cntFile markFile k xs] at ho
  have hGn : G.Nodup := by rw [hF] at hnd; exact (List.nodup_append.1 hnd).2.1
  have hGF : ∀ q ∈ G, q ∈ F := fun q hq => by rw [hF]; exact List.mem_append_right _ hq
  go_enter Tryz.func11, Tryz.ntmps11
  go_wp2
  go_loopw [1, 5] (fun kk i wr => ∃ (m : Nat) (us : List Value), m ≤ xs.length ∧ i = .int .i64 m ∧ kk = .int .i64 (k + (((xs.take m).map cntFile).sum : Nat)) ∧ wr.ownsRow 0 41 2 (.slice A xs.length c) xs.length us ∧ Owns wr ((halfWith cntFile markFile k xs m).flatMap cFiles) us G ∧ Only F w wr) (fun _ i _ => xs.length - (intOf i).toNat)
  case atStart => exact ⟨0, us, Nat.zero_le _, rfl, by simp, hown, ho, Only.refl _ _⟩
  case round =>
    clear hown ho
    obtain ⟨m, us, hk, rfl, rfl, hown, ho, hon⟩ := hrel
    by_cases hkn : m < xs.length
    · obtain ⟨g, rfl⟩ := hA (by omega)
      have hkn' : (m : Int) < (xs.length : Int) := by omega
      obtain ⟨x, hx⟩ : ∃ x, xs[m]? = some x := ⟨_, List.getElem?_eq_getElem hkn⟩
      have hgG := own_row_ne hF hnd
      have hgF : g ∈ F := by rw [hF]; simp [Value.ownBlock]
      have hs1 := sum_take_succ (cnt := cntFile) hx
      have hs2 := sum_take_le (cnt := cntFile) xs (m + 1)
      have hstep := halfWith_step cntFile markFile k hx
      have hpx : ∀ j, j < 2 → ((halfWith cntFile markFile k xs m).flatMap cFiles)[m * 2 + j]? = (cFiles x)[j]? := by
        intro j hj
        rw [flatMap_at cFiles_len _ _ _ hj, halfWith_at, hx]; rfl
      have hfin := flatMap_set cFiles_len (markFile (k + (((xs.take m).map cntFile).sum : Nat)) x) (halfWith cntFile markFile k xs m) m (by rw [halfWith_length]; exact hkn)
      rw [hstep] at hfin
      have hK0 : 0 ≤ k + (((xs.take m).map cntFile).sum : Nat) := by omega
      have hK1 : k + (((xs.take m).map cntFile).sum : Nat) + (cntFile x : Nat) ≤ 1099511627776 := by unfold cntFiles at h1; omega
      have hK2 : k + (((xs.take (m + 1)).map cntFile).sum : Nat) = k + (((xs.take m).map cntFile).sum : Nat) + (cntFile x : Nat) := by omega
      obtain ⟨K, eK⟩ : ∃ K : Int, K = k + (((xs.take m).map cntFile).sum : Nat) := ⟨_, rfl⟩
      rw [← eK] at hfin hK0 hK1 hK2 ⊢
      obtain ⟨ps, eps⟩ : ∃ ps, ps = (halfWith cntFile markFile k xs m).flatMap cFiles := ⟨_, rfl⟩
      rw [← eps] at ho hpx hfin
      have Hfin := Lib.hid hfin
      have HK2 := Lib.hid hK2
      unfold cntFile at hK1
      have hul := hown.1
      have hp_0 : Hid (ps[m * 2]? = some (.str x.path)) := Lib.hid (hpx 0 (by omega))
      have hp_1 : Hid (ps[m * 2 + 1]? = some (encText x.text)) := Lib.hid (hpx 1 (by omega))
      clear hx hs1 hs2 hstep hpx hfin hK2 eK eps hk
      obtain ⟨v0, hu0⟩ : ∃ u, us[m * 2]? = some u := ⟨us[m * 2]'(by omega), List.getElem?_eq_getElem (by omega)⟩
      have hu_0 := Lib.hid hu0
      obtain ⟨v1, _, _, _, hu1, _, q1, _⟩ := Owns.at ho hp_1.out
      obtain ⟨A1, n1, c1, rfl⟩ := q1.shape
      have hu_1 := Lib.hid hu1
      clear hu0 hu1 q1 hul
      have y0 := hown.cellAt (m * 2) (by omega)
      rw [hu_0.out] at y0
      have y1 := hown.cellAt (m * 2 + 1) (by omega)
      rw [hu_1.out] at y1
      have hfr := fun j => hown.frozenAt j
      go_wp2_with fail
      refine Calls.mono (markText_any K _ (by omega)) ?_
      rintro e w1 ⟨rfl, hb1⟩
      have ln1 := hown.lt g rfl
      have lo1 := ho.lt
      have own1 := ownsRow_same (w' := w1) hown (fun q hq => hb1.block q (by have := hown.lt q (by simpa using hq); exact this.2))
      have oo1 := Owns.same _ _ _ ho (w' := w1) (fun q hq => hb1.block q (lo1 q hq))
      have on1 := hon.trans (Only.of_below hb1)
      clear y0 y1 hfr hown ho hon hb1 ln1 lo1
      have y0 := own1.cellAt (m * 2) (by omega)
      rw [hu_0.out] at y0
      have y1 := own1.cellAt (m * 2 + 1) (by omega)
      rw [hu_1.out] at y1
      have hfr := fun j => own1.frozenAt j
      have own2 := (own1.stored (m * 2) (.string ⟨(markT K).toArray⟩)).1
      have oo2 := oo1.plain_set (w' := w1.setCell ⟨g, m * 2, none⟩ (.string ⟨(markT K).toArray⟩)) (p' := .str (markT K)) (u' := .string ⟨(markT K).toArray⟩) hp_0.out (fun w u F h => h.2) (fun q hq => Below.heap_setCell w1 ⟨g, m * 2, none⟩ _ q (hgG q hq)) (fun w => ⟨rfl, rfl⟩)
      have on2 := on1.setCell (p := ⟨g, m * 2, none⟩) hgF (.string ⟨(markT K).toArray⟩)
      have hul2 := own1.1
      have hu2_0 : Hid ((us.set (m * 2) (.string ⟨(markT K).toArray⟩))[m * 2]? = some (.string ⟨(markT K).toArray⟩)) := Lib.hid (List.getElem?_set_self (by omega))
      have hp2_0 : Hid ((ps.set (m * 2) (.str (markT K)))[m * 2]? = some (.str (markT K))) := Lib.hid (List.getElem?_set_self (List.getElem?_eq_some_iff.1 hp_0.out).1)
      have hu2_1 : Hid ((us.set (m * 2) (.string ⟨(markT K).toArray⟩))[m * 2 + 1]? = _) := Lib.hid ((List.getElem?_set_ne (by omega)).trans hu_1.out)
      have hp2_1 : Hid ((ps.set (m * 2) (.str (markT K)))[m * 2 + 1]? = _) := Lib.hid ((List.getElem?_set_ne (by omega)).trans hp_1.out)
      clear own1 oo1 on1 hul2 hu_0 hu_1 hp_0 hp_1
      obtain ⟨t3, Fa3, F3, Fb3, ht3, hG3, hq3, hset3⟩ := Owns.at oo2 hp2_1.out
      obtain rfl := Option.some.inj (ht3.symm.trans hu2_1.out)
      have hnd3 : (Fa3 ++ (F3 ++ Fb3)).Nodup := hG3 ▸ hGn
      have sub3 : ∀ q ∈ F3, q ∈ F := fun q hq => hGF q (by rw [hG3]; simp [hq])
      have hgn3 : ∀ q ∈ F3, q ≠ g := fun q hq => hgG q (by rw [hG3]; simp [hq])
      have hlt3 := oo2.lt
      rw [hG3] at hlt3
      have HT3 := Lib.hid ht3
      clear ht3
      go_wp2_with fail
      refine Calls.mono (markStringS_any _ _ _ x.text (K + 1) _ F3 hq3 (nodup_mid hnd3).1 (by omega) (by omega)) ?_
      rintro e w3 ⟨rfl, hr3, hc3⟩
      have own3 := ownsRow_same (w' := w3) own2 (fun q hq => hc3.block q (own2.lt q (by simpa using hq)).2 (fun hm => hgn3 q hm (by simp [Value.ownBlock] at hq; exact hq)))
      have oo3 := Owns.changed HT3.out hlt3 hnd3 hc3 hr3 hset3
      rw [← hG3] at oo3
      have on3 := on2.trans (hc3.mono sub3)
      have hp3_0 : Hid (((ps.set (m * 2) (.str (markT K))).set (m * 2 + 1) (encText (markTs (K + 1) x.text)))[m * 2]? = _) := Lib.hid ((List.getElem?_set_ne (by omega)).trans hp2_0.out)
      have hp3_1 : Hid (((ps.set (m * 2) (.str (markT K))).set (m * 2 + 1) (encText (markTs (K + 1) x.text)))[m * 2 + 1]? = some (encText (markTs (K + 1) x.text))) := Lib.hid (List.getElem?_set_self (List.getElem?_eq_some_iff.1 hp2_1.out).1)
      clear own2 oo2 on2 hq3 hr3 hc3 hset3 hlt3 hnd3 sub3 hgn3 HT3 y0 y1 hfr hp2_0 hp2_1
      have HG3 := Lib.hid hG3
      clear hG3
      have hul3 := own3.1
      have hul'3 : ((us.set (m * 2) (.string ⟨(markT K).toArray⟩))).length = us.length := by simp
      have y0 := own3.cellAt (m * 2) (by omega)
      rw [hu2_0.out] at y0
      have y1 := own3.cellAt (m * 2 + 1) (by omega)
      rw [hu2_1.out] at y1
      have hfr := fun j => own3.frozenAt j
      clear hul3 hul'3
      go_wp2
      go_roundw
      case rel => exact ⟨m + 1, _, by omega, by go_num, by rw [HK2.out]; unfold cntFile; go_num, own3, Hfin.out ▸ oo3, on3⟩
      case measure => simp [intOf]; omega
    · obtain rfl : m = xs.length := by omega
      rw [halfWith_all _ _ _ _ (Nat.le_refl _)] at ho
      go_wp2
      go_ret
      exact ⟨by rw [List.take_length]; rfl, Own.shut hown hF ho, hon⟩
set_option maxHeartbeats 1600000 in
theorem heldFileS_any (A : Option Addr) (n c : Nat) (xs : List PFile) (k : Int) (w : World) (lo hi : Nat) (h : Rep w lo hi (encFiles (markFiles k xs)) (.slice A n c)) (hh : hi ≤ w.heap.size) (h0 : 0 ≤ k) (h1 : k + cntFiles xs ≤ 1099511627776) :
    Calls Tryz.prog 13 #[.slice A n c, .int .i64 k] w fun e w' => e = .returned (.int .i64 (k + cntFiles xs)) ∧ Below w.heap.size w w' := by
  have hl := Files.n h
  obtain ⟨hc, hm⟩ := Files.cap h
  rw [markFiles, marksWith_length] at hl
  subst hl
  go_enter Tryz.func13, Tryz.ntmps13
  go_wp2
  go_loopw [1, 5] (fun kk i wr => ∃ m : Nat, m ≤ xs.length ∧ i = .int .i64 m ∧ kk = .int .i64 (k + (((xs.take m).map cntFile).sum : Nat)) ∧ Below w.heap.size w wr) (fun _ i _ => xs.length - (intOf i).toNat)
  case atStart => exact ⟨0, Nat.zero_le _, rfl, by simp, Below.refl _ _⟩
  case round =>
    obtain ⟨m, hk, rfl, rfl, hb⟩ := hrel
    by_cases hkn : m < xs.length
    · obtain ⟨b1, o1, x', rfl, hblo, hbhi, hx', A1, n1, c1, d0, d1, r1⟩ := Files.at (h.keep hb hh) hkn
      have hkn' : (m : Int) < (xs.length : Int) := by omega
      obtain ⟨x, hx⟩ : ∃ x, xs[m]? = some x := ⟨_, List.getElem?_eq_getElem hkn⟩
      rw [markFiles, marksWith_get, hx, Option.map_some, Option.some.injEq] at hx'
      subst hx'
      have hs1 := sum_take_succ (cnt := cntFile) hx
      have hs2 := sum_take_le (cnt := cntFile) xs (m + 1)
      have hK0 : 0 ≤ k + (((xs.take m).map cntFile).sum : Nat) := by omega
      have hK1 : k + (((xs.take m).map cntFile).sum : Nat) + (cntFile x : Nat) ≤ 1099511627776 := by unfold cntFiles at h1; omega
      have hK2 : k + (((xs.take (m + 1)).map cntFile).sum : Nat) = k + (((xs.take m).map cntFile).sum : Nat) + (cntFile x : Nat) := by omega
      obtain ⟨K, eK⟩ : ∃ K : Int, K = k + (((xs.take m).map cntFile).sum : Nat) := ⟨_, rfl⟩
      rw [← eK] at hK0 hK1 hK2 d0 r1 ⊢
      have HK2 := Lib.hid hK2
      unfold cntFile at hK1
      dsimp only [markFile] at d0 r1
      clear hs1 hs2 hK2 eK hx hk
      have hlater1 := Later.cell d0
      go_wp2
      refine wp_region_later_lit (by kernel_rfl) (by kernel_rfl) ?_; try simp only [List.append_eq, List.cons_append, List.nil_append]
      repeat (go_big_quiet_step (((go_at_call 29; with_reducible exact Calls.later (markText_any _ _ (by omega))))))
      (refine wpQuiet_nil ?_; intro _ hw'; obtain ⟨⟨w9, hb9⟩, hw''⟩ := hw'; subst hw''; try dsimp only)
      rename World => w1
      have hb1 := hb9
      clear hb9 hlater1
      have d1' : w1.cell? _ = _ := (hb1.cell (World.block_lt_of_cell? _ _ d1)).trans d1
      clear d1
      have d1 := d1'
      clear d1'
      replace r1 := r1.keep hb1 (Nat.le_trans hh hb.size)
      have bl1 := hb.trans (hb1.mono hb.size)
      clear hb1
      go_wp2_with fail
      refine Calls.mono (heldStringS_any _ _ _ x.text (K + 1) _ lo hi r1 (Nat.le_trans hh bl1.size) (by omega) (by omega)) ?_
      rintro e w2 ⟨rfl, hb2⟩
      have bl2 := bl1.trans (hb2.mono bl1.size)
      clear hb2
      go_wp2
      go_roundw
      case rel => exact ⟨m + 1, by omega, by go_num, by rw [HK2.out]; unfold cntFile; go_num, bl2⟩
      case measure => simp [intOf]; omega
    · obtain rfl : m = xs.length := by omega
      go_wp2
      go_ret
      exact ⟨by rw [List.take_length]; rfl, hb⟩
end Go.Proofs.YtgcioajaglljfaaGreatDoor
