/- Several of my texts in one: Mark, KFile. -/
import Derived.Test.YtmickenajhppoaaGreatDoorZ08
import Derived.Test.YtmickenajhppoaaGreatDoorZ02
import Derived.Laws.IdiomStrings
/- Walks: the laws' own helpers that write a mark into each cell and look whether the marks still stand: texts and integers. -/
namespace Go.Proofs.YtmickenajhppoaaGreatDoor
open Go.RowKit

theorem ret_str {a b : ByteArray} (h : a = b) : Ending.returned (.string a) = .returned (.string b) := by rw [h]

set_option maxHeartbeats 800000 in
theorem markText_any (k : Int) (w : World) (hk : k ≤ 1099511627776) :
    Calls Tryz.prog 34 #[.int .i64 k] w fun e w' => e = .returned (.string ⟨(markT k).toArray⟩) ∧ Below w.heap.size w w' := by
  by_cases h0 : k ≤ 0
  · go_enter Tryz.func34, Tryz.ntmps34
    go_wp2
    go_ret
    exact ⟨by simp [markT, h0], Below.refl _ _⟩
  · obtain ⟨n, rfl⟩ := Int.eq_ofNat_of_zero_le (by omega : 0 ≤ k)
    go_enter Tryz.func34, Tryz.ntmps34
    go_wp2
    go_loopw [0, 3] (fun kk out wr => ∃ (m : Nat) (acc : Str), kk = .int .i64 m ∧ out = .string ⟨acc.toArray⟩ ∧ acc.length + m ≤ n ∧ Hid (digs m acc = digs n []) ∧ Below w.heap.size w wr) (fun kk _ _ => (intOf kk).toNat)
    case atStart => exact ⟨n, [], rfl, rfl, by simp, Lib.hid rfl, Below.refl _ _⟩
    case round =>
      obtain ⟨m, acc, rfl, rfl, hl, hd, hb⟩ := hrel
      by_cases hm : 0 < m
      · have hm' : (0 : Int) < (m : Int) := by omega
        obtain ⟨d, ed⟩ : ∃ d, d = UInt8.ofNat (48 + m % 10) := ⟨_, rfl⟩
        have hdig : d.toNat = 48 + m % 10 := by
          rw [ed, UInt8.toNat_ofNat']; omega
        have hconv : (convert 84 9 (.slice (some ⟨wr.heap.size, 0, none⟩) 1 1)).run Tryz.prog (wr.alloc (Obj.cells #[.int .u8 (48 + (m : Int) % 10)] 5)) = .ok (.string ⟨[d].toArray⟩) (wr.alloc (Obj.cells #[.int .u8 (48 + (m : Int) % 10)] 5)) := by
          refine run_convert_bytes_back (wr.alloc (Obj.cells #[.int .u8 (48 + (m : Int) % 10)] 5)) _ _ 5 ⟨wr.heap.size, 0, none⟩ 1 [d] Tryz.underlying84 Tryz.underlying5 Tryz.underlying9 (fun j hj => ?_)
          obtain rfl : j = 0 := by simpa using hj
          simp only [List.getElem_cons_zero, hdig]
          simp [go_sem]
        have Hd := Lib.hid ed
        clear hdig ed
        go_wp2
        go_roundw
        case rel => exact ⟨m / 10, d :: acc, by go_num, by rw [show #[d] = [d].toArray from rfl, bytes_app]; rfl, by simp; omega, Lib.hid (by rw [← hd.out, digs_step hm, Hd.out]), hb.alloc hb.size _⟩
        case measure => simp [intOf]; omega
      · obtain rfl : m = 0 := by omega
        go_wp2
        go_ret
        refine ⟨ret_str ?_, hb⟩
        have hd := hd.out
        rw [digs_zero] at hd
        subst hd
        rw [markT, if_neg (by omega)]
        exact bytes_app [109] _

theorem own_row_ne {F G : List Nat} {g n c : Nat} (hF : F = (Value.slice (some ⟨g, 0, none⟩) n c).ownBlock.toList ++ G) (hnd : F.Nodup) : ∀ q ∈ G, q ≠ g := by
  intro q hq e
  subst e hF
  exact (List.nodup_append.1 hnd).2.2 q (by simp [Value.ownBlock]) q hq rfl

set_option maxHeartbeats 800000 in
theorem markStringS_any (A : Option Addr) (n c : Nat) (xs : List Str) (k : Int) (w : World) (F : List Nat) (h : Own w (encText xs) (.slice A n c) F) (hnd : F.Nodup) (h0 : 0 ≤ k) (h1 : k + xs.length ≤ 1099511627776) :
    Calls Tryz.prog 35 #[.slice A n c, .int .i64 k] w fun e w' => e = .returned (.int .i64 (k + xs.length)) ∧ Own w' (encText (markTs k xs)) (.slice A n c) F ∧ Only F w w' := by
  obtain ⟨us, G, hown, hF, ho, hl, hc, hm, hA⟩ := Own.open_ h
  have hl : n = xs.length := by rw [length_flatMap_z cText_len] at hl; omega
  subst hl
  clear h
  rw [← halfWith_zero cntStr (fun k _ => markT k) k xs] at ho
  go_enter Tryz.func35, Tryz.ntmps35
  go_wp2
  go_loopw [1, 5] (fun kk i wr => ∃ (m : Nat) (us : List Value), m ≤ xs.length ∧ i = .int .i64 m ∧ kk = .int .i64 (k + m) ∧ wr.ownsRow 0 9 1 (.slice A xs.length c) xs.length us ∧ Owns wr ((halfWith cntStr (fun k _ => markT k) k xs m).flatMap cText) us G ∧ Only F w wr) (fun _ i _ => xs.length - (intOf i).toNat)
  case atStart => exact ⟨0, us, Nat.zero_le _, rfl, by simp, hown, ho, Only.refl _ _⟩
  case round =>
    clear hown ho
    obtain ⟨m, us, hk, rfl, rfl, hown, ho, hon⟩ := hrel
    by_cases hkn : m < xs.length
    · obtain ⟨g, rfl⟩ := hA (by omega)
      have hkn' : (m : Int) < (xs.length : Int) := by omega
      obtain ⟨x, hx⟩ : ∃ x, xs[m]? = some x := ⟨_, List.getElem?_eq_getElem hkn⟩
      go_wp2_with fail
      refine Calls.mono (markText_any (k + m) wr (by omega)) ?_
      rintro e w2 ⟨rfl, hb2⟩
      have hlt := ho.lt
      have hown := ownsRow_same (w' := w2) hown (fun q hq => hb2.block q (hown.lt q (by simpa using hq)).2)
      have ho := Owns.same _ _ _ ho (w' := w2) (fun q hq => hb2.block q (hlt q hq))
      have hon := hon.trans (Only.of_below hb2)
      have hul := hown.1
      obtain ⟨u0, hu0⟩ : ∃ u0, us[m]? = some u0 := ⟨us[m]'(by omega), List.getElem?_eq_getElem (by omega)⟩
      have hcell := hown.cellAt m (by omega)
      rw [hu0] at hcell
      have hfr := hown.frozenAt m
      have hnew := (hown.stored m (.string ⟨(markT (k + m)).toArray⟩)).1
      have hp : ((halfWith cntStr (fun k _ => markT k) k xs m).flatMap cText)[m]? = some (.str x) := by
        have := flatMap_at cText_len (halfWith cntStr (fun k _ => markT k) k xs m) m 0 (by omega)
        rw [halfWith_at, hx] at this
        simpa [cText] using this
      have hset : ((halfWith cntStr (fun k _ => markT k) k xs m).flatMap cText).set m (.str (markT (k + m))) = (halfWith cntStr (fun k _ => markT k) k xs (m + 1)).flatMap cText := by
        have h2 := halfWith_step cntStr (fun k _ => markT k) k hx
        have h3 := cntStr_sum (xs.take m)
        rw [h3, List.length_take, Nat.min_eq_left (by omega)] at h2
        rw [← h2, flatMap_set cText_len _ _ _ (by rw [halfWith_length]; exact hkn), Nat.mul_one]
        rfl
      have hgF := own_row_ne hF hnd
      have hO := ho.plain_set (w' := w2.setCell ⟨g, m, none⟩ (.string ⟨(markT (k + m)).toArray⟩)) (p' := .str (markT (k + m))) (u' := .string ⟨(markT (k + m)).toArray⟩) hp (fun w u F h => h.2) (fun q hq => Below.heap_setCell w2 ⟨g, m, none⟩ _ q (hgF q hq)) (fun w => ⟨rfl, rfl⟩)
      rw [hset] at hO
      have HO := Lib.hid hO
      clear hset hp hO hu0 hul hx
      go_wp2
      go_roundw
      case rel => exact ⟨m + 1, _, by omega, by go_num, by go_num, hnew, HO.out, hon.setCell (by rw [hF]; simp [Value.ownBlock]) _⟩
      case measure => simp [intOf]; omega
    · obtain rfl : m = xs.length := by omega
      rw [halfWith_all _ _ _ _ (Nat.le_refl _)] at ho
      go_wp2
      go_ret
      exact ⟨rfl, Own.shut hown hF ho, hon⟩


set_option maxHeartbeats 800000 in
theorem heldStringS_any (A : Option Addr) (n c : Nat) (xs : List Str) (k : Int) (w : World) (lo hi : Nat) (h : Rep w lo hi (encText (markTs k xs)) (.slice A n c)) (hh : hi ≤ w.heap.size) (h0 : 0 ≤ k) (h1 : k + xs.length ≤ 1099511627776) :
    Calls Tryz.prog 37 #[.slice A n c, .int .i64 k] w fun e w' => e = .returned (.int .i64 (k + xs.length)) ∧ Below w.heap.size w w' := by
  have hl := Text.n h
  obtain ⟨hc, hm⟩ := Text.cap h
  rw [markTs, marksWith_length] at hl
  subst hl
  go_enter Tryz.func37, Tryz.ntmps37
  go_wp2
  go_loopw [1, 5] (fun kk i wr => ∃ m : Nat, m ≤ xs.length ∧ i = .int .i64 m ∧ kk = .int .i64 (k + m) ∧ Below w.heap.size w wr) (fun _ i _ => xs.length - (intOf i).toNat)
  case atStart => exact ⟨0, Nat.zero_le _, rfl, by simp, Below.refl _ _⟩
  case round =>
    obtain ⟨m, hk, rfl, rfl, hb⟩ := hrel
    by_cases hkn : m < xs.length
    · obtain ⟨b1, o1, x, rfl, _, _, hx, hcell⟩ := Text.at (h.keep hb hh) hkn
      have hkn' : (m : Int) < (xs.length : Int) := by omega
      rw [markTs, marksWith_get, List.getElem?_eq_getElem hkn, Option.map_some, Option.some.injEq, cntStr_sum, List.length_take, Nat.min_eq_left (by omega)] at hx
      subst hx
      have hlater := Later.cell hcell
      go_wp2
      refine wp_region_later_lit (by kernel_rfl) (by kernel_rfl) ?_; try simp only [List.append_eq, List.cons_append, List.nil_append]
      repeat (go_big_quiet_step (((go_at_call 34; with_reducible exact Calls.later (markText_any _ _ (by omega))))))
      (refine wpQuiet_nil ?_; intro _ hw'; obtain ⟨⟨w9, hb9⟩, hw''⟩ := hw'; subst hw''; try dsimp only)
      go_wp2
      go_roundw
      case rel => exact ⟨m + 1, by omega, by go_num, by go_num, hb.trans (hb9.mono hb.size)⟩
      case measure => simp [intOf]; omega
    · obtain rfl : m = xs.length := by omega
      go_wp2
      go_ret
      exact ⟨rfl, hb⟩
end Go.Proofs.YtmickenajhppoaaGreatDoor

/- Walks: the laws' own helpers that mark a slice of File, and look whether the marks stand. Printed by wip/marks.py. -/
namespace Go.Proofs.YtmickenajhppoaaGreatDoor
open Go.RowKit
def cntFile (x : PFile) : Nat := 1 + (x.text.length)
def cntFiles (xs : List PFile) : Nat := (xs.map cntFile).sum
def markFile (k : Int) (x : PFile) : PFile := ⟨markT k, markTs (k + 1) x.text⟩
def markFiles (k : Int) (xs : List PFile) : List PFile := marksWith cntFile markFile k xs
set_option maxHeartbeats 1600000 in
theorem markFileS_any (A : Option Addr) (n c : Nat) (xs : List PFile) (k : Int) (w : World) (F : List Nat) (h : Own w (encFiles xs) (.slice A n c) F) (hnd : F.Nodup) (h0 : 0 ≤ k) (h1 : k + cntFiles xs ≤ 1099511627776) :
    Calls Tryz.prog 12 #[.slice A n c, .int .i64 k] w fun e w' => e = .returned (.int .i64 (k + cntFiles xs)) ∧ Own w' (encFiles (markFiles k xs)) (.slice A n c) F ∧ Only F w w' := by
  obtain ⟨us, G, hown, hF, ho, hl, hc, hm, hA⟩ := Own.open_ h
  have hl : n = xs.length := by rw [length_flatMap_z cFiles_len] at hl; omega
  subst hl
  clear h
  rw [← halfWith_zero cntFile markFile k xs] at ho
  have hGn : G.Nodup := by rw [hF] at hnd; exact (List.nodup_append.1 hnd).2.1
  have hGF : ∀ q ∈ G, q ∈ F := fun q hq => by rw [hF]; exact List.mem_append_right _ hq
  go_enter Tryz.func12, Tryz.ntmps12
  go_wp2
  go_loopw [1, 5] (fun kk i wr => ∃ (m : Nat) (us : List Value), m ≤ xs.length ∧ i = .int .i64 m ∧ kk = .int .i64 (k + (((xs.take m).map cntFile).sum : Nat)) ∧ wr.ownsRow 0 48 2 (.slice A xs.length c) xs.length us ∧ Owns wr ((halfWith cntFile markFile k xs m).flatMap cFiles) us G ∧ Only F w wr) (fun _ i _ => xs.length - (intOf i).toNat)
  case atStart => exact ⟨0, us, Nat.zero_le _, rfl, by simp, hown, ho, Only.refl _ _⟩
  case round =>
    clear hown ho
    obtain ⟨m, us, hk, rfl, rfl, hown, ho, hon⟩ := hrel
    by_cases hkn : m < xs.length
    · obtain ⟨g, rfl⟩ := hA (by omega)
      have hkn' : (m : Int) < (xs.length : Int) := by omega
      obtain ⟨x, hx⟩ : ∃ x, xs[m]? = some x := ⟨_, List.getElem?_eq_getElem hkn⟩
      have hgG := own_row_ne hF hnd
      have hgF : g ∈ F := by rw [hF]; simp [Value.ownBlock]
      have hs1 := sum_take_succ (cnt := cntFile) hx
      have hs2 := sum_take_le (cnt := cntFile) xs (m + 1)
      have hstep := halfWith_step cntFile markFile k hx
      have hpx : ∀ j, j < 2 → ((halfWith cntFile markFile k xs m).flatMap cFiles)[m * 2 + j]? = (cFiles x)[j]? := by
        intro j hj
        rw [flatMap_at cFiles_len _ _ _ hj, halfWith_at, hx]; rfl
      have hfin := flatMap_set cFiles_len (markFile (k + (((xs.take m).map cntFile).sum : Nat)) x) (halfWith cntFile markFile k xs m) m (by rw [halfWith_length]; exact hkn)
      rw [hstep] at hfin
      have hK0 : 0 ≤ k + (((xs.take m).map cntFile).sum : Nat) := by omega
      have hK1 : k + (((xs.take m).map cntFile).sum : Nat) + (cntFile x : Nat) ≤ 1099511627776 := by unfold cntFiles at h1; omega
      have hK2 : k + (((xs.take (m + 1)).map cntFile).sum : Nat) = k + (((xs.take m).map cntFile).sum : Nat) + (cntFile x : Nat) := by omega
      obtain ⟨K, eK⟩ : ∃ K : Int, K = k + (((xs.take m).map cntFile).sum : Nat) := ⟨_, rfl⟩
      rw [← eK] at hfin hK0 hK1 hK2 ⊢
      obtain ⟨ps, eps⟩ : ∃ ps, ps = (halfWith cntFile markFile k xs m).flatMap cFiles := ⟨_, rfl⟩
      rw [← eps] at ho hpx hfin
      have Hfin := Lib.hid hfin
      have HK2 := Lib.hid hK2
      unfold cntFile at hK1
      have hul := hown.1
      have hp_0 : Hid (ps[m * 2]? = some (.str x.path)) := Lib.hid (hpx 0 (by omega))
      have hp_1 : Hid (ps[m * 2 + 1]? = some (encText x.text)) := Lib.hid (hpx 1 (by omega))
      clear hx hs1 hs2 hstep hpx hfin hK2 eK eps hk
      obtain ⟨v0, hu0⟩ : ∃ u, us[m * 2]? = some u := ⟨us[m * 2]'(by omega), List.getElem?_eq_getElem (by omega)⟩
      have hu_0 := Lib.hid hu0
      obtain ⟨v1, _, _, _, hu1, _, q1, _⟩ := Owns.at ho hp_1.out
      obtain ⟨A1, n1, c1, rfl⟩ := q1.shape
      have hu_1 := Lib.hid hu1
      clear hu0 hu1 q1 hul
      have y0 := hown.cellAt (m * 2) (by omega)
      rw [hu_0.out] at y0
      have y1 := hown.cellAt (m * 2 + 1) (by omega)
      rw [hu_1.out] at y1
      have hfr := fun j => hown.frozenAt j
      go_wp2_with fail
      refine Calls.mono (markText_any K _ (by omega)) ?_
      rintro e w1 ⟨rfl, hb1⟩
      have ln1 := hown.lt g rfl
      have lo1 := ho.lt
      have own1 := ownsRow_same (w' := w1) hown (fun q hq => hb1.block q (by have := hown.lt q (by simpa using hq); exact this.2))
      have oo1 := Owns.same _ _ _ ho (w' := w1) (fun q hq => hb1.block q (lo1 q hq))
      have on1 := hon.trans (Only.of_below hb1)
      clear y0 y1 hfr hown ho hon hb1 ln1 lo1
      have y0 := own1.cellAt (m * 2) (by omega)
      rw [hu_0.out] at y0
      have y1 := own1.cellAt (m * 2 + 1) (by omega)
      rw [hu_1.out] at y1
      have hfr := fun j => own1.frozenAt j
      have own2 := (own1.stored (m * 2) (.string ⟨(markT K).toArray⟩)).1
      have oo2 := oo1.plain_set (w' := w1.setCell ⟨g, m * 2, none⟩ (.string ⟨(markT K).toArray⟩)) (p' := .str (markT K)) (u' := .string ⟨(markT K).toArray⟩) hp_0.out (fun w u F h => h.2) (fun q hq => Below.heap_setCell w1 ⟨g, m * 2, none⟩ _ q (hgG q hq)) (fun w => ⟨rfl, rfl⟩)
      have on2 := on1.setCell (p := ⟨g, m * 2, none⟩) hgF (.string ⟨(markT K).toArray⟩)
      have hul2 := own1.1
      have hu2_0 : Hid ((us.set (m * 2) (.string ⟨(markT K).toArray⟩))[m * 2]? = some (.string ⟨(markT K).toArray⟩)) := Lib.hid (List.getElem?_set_self (by omega))
      have hp2_0 : Hid ((ps.set (m * 2) (.str (markT K)))[m * 2]? = some (.str (markT K))) := Lib.hid (List.getElem?_set_self (List.getElem?_eq_some_iff.1 hp_0.out).1)
      have hu2_1 : Hid ((us.set (m * 2) (.string ⟨(markT K).toArray⟩))[m * 2 + 1]? = _) := Lib.hid ((List.getElem?_set_ne (by omega)).trans hu_1.out)
      have hp2_1 : Hid ((ps.set (m * 2) (.str (markT K)))[m * 2 + 1]? = _) := Lib.hid ((List.getElem?_set_ne (by omega)).trans hp_1.out)
      clear own1 oo1 on1 hul2 hu_0 hu_1 hp_0 hp_1
      obtain ⟨t3, Fa3, F3, Fb3, ht3, hG3, hq3, hset3⟩ := Owns.at oo2 hp2_1.out
      obtain rfl := Option.some.inj (ht3.symm.trans hu2_1.out)
      have hnd3 : (Fa3 ++ (F3 ++ Fb3)).Nodup := hG3 ▸ hGn
      have sub3 : ∀ q ∈ F3, q ∈ F := fun q hq => hGF q (by rw [hG3]; simp [hq])
      have hgn3 : ∀ q ∈ F3, q ≠ g := fun q hq => hgG q (by rw [hG3]; simp [hq])
      have hlt3 := oo2.lt
      rw [hG3] at hlt3
      have HT3 := Lib.hid ht3
      clear ht3
      go_wp2_with fail
      refine Calls.mono (markStringS_any _ _ _ x.text (K + 1) _ F3 hq3 (nodup_mid hnd3).1 (by omega) (by omega)) ?_
      rintro e w3 ⟨rfl, hr3, hc3⟩
      have own3 := ownsRow_same (w' := w3) own2 (fun q hq => hc3.block q (own2.lt q (by simpa using hq)).2 (fun hm => hgn3 q hm (by simp [Value.ownBlock] at hq; exact hq)))
      have oo3 := Owns.changed HT3.out hlt3 hnd3 hc3 hr3 hset3
      rw [← hG3] at oo3
      have on3 := on2.trans (hc3.mono sub3)
      have hp3_0 : Hid (((ps.set (m * 2) (.str (markT K))).set (m * 2 + 1) (encText (markTs (K + 1) x.text)))[m * 2]? = _) := Lib.hid ((List.getElem?_set_ne (by omega)).trans hp2_0.out)
      have hp3_1 : Hid (((ps.set (m * 2) (.str (markT K))).set (m * 2 + 1) (encText (markTs (K + 1) x.text)))[m * 2 + 1]? = some (encText (markTs (K + 1) x.text))) := Lib.hid (List.getElem?_set_self (List.getElem?_eq_some_iff.1 hp2_1.out).1)
      clear own2 oo2 on2 hq3 hr3 hc3 hset3 hlt3 hnd3 sub3 hgn3 HT3 y0 y1 hfr hp2_0 hp2_1
      have HG3 := Lib.hid hG3
      clear hG3
      have hul3 := own3.1
      have hul'3 : ((us.set (m * 2) (.string ⟨(markT K).toArray⟩))).length = us.length := by simp
      have y0 := own3.cellAt (m * 2) (by omega)
      rw [hu2_0.out] at y0
      have y1 := own3.cellAt (m * 2 + 1) (by omega)
      rw [hu2_1.out] at y1
      have hfr := fun j => own3.frozenAt j
      clear hul3 hul'3
      go_wp2
      go_roundw
      case rel => exact ⟨m + 1, _, by omega, by go_num, by rw [HK2.out]; unfold cntFile; go_num, own3, Hfin.out ▸ oo3, on3⟩
      case measure => simp [intOf]; omega
    · obtain rfl : m = xs.length := by omega
      rw [halfWith_all _ _ _ _ (Nat.le_refl _)] at ho
      go_wp2
      go_ret
      exact ⟨by rw [List.take_length]; rfl, Own.shut hown hF ho, hon⟩
set_option maxHeartbeats 1600000 in
theorem heldFileS_any (A : Option Addr) (n c : Nat) (xs : List PFile) (k : Int) (w : World) (lo hi : Nat) (h : Rep w lo hi (encFiles (markFiles k xs)) (.slice A n c)) (hh : hi ≤ w.heap.size) (h0 : 0 ≤ k) (h1 : k + cntFiles xs ≤ 1099511627776) :
    Calls Tryz.prog 14 #[.slice A n c, .int .i64 k] w fun e w' => e = .returned (.int .i64 (k + cntFiles xs)) ∧ Below w.heap.size w w' := by
  have hl := Files.n h
  obtain ⟨hc, hm⟩ := Files.cap h
  rw [markFiles, marksWith_length] at hl
  subst hl
  go_enter Tryz.func14, Tryz.ntmps14
  go_wp2
  go_loopw [1, 5] (fun kk i wr => ∃ m : Nat, m ≤ xs.length ∧ i = .int .i64 m ∧ kk = .int .i64 (k + (((xs.take m).map cntFile).sum : Nat)) ∧ Below w.heap.size w wr) (fun _ i _ => xs.length - (intOf i).toNat)
  case atStart => exact ⟨0, Nat.zero_le _, rfl, by simp, Below.refl _ _⟩
  case round =>
    obtain ⟨m, hk, rfl, rfl, hb⟩ := hrel
    by_cases hkn : m < xs.length
    · obtain ⟨b1, o1, x', rfl, hblo, hbhi, hx', A1, n1, c1, d0, d1, r1⟩ := Files.at (h.keep hb hh) hkn
      have hkn' : (m : Int) < (xs.length : Int) := by omega
      obtain ⟨x, hx⟩ : ∃ x, xs[m]? = some x := ⟨_, List.getElem?_eq_getElem hkn⟩
      rw [markFiles, marksWith_get, hx, Option.map_some, Option.some.injEq] at hx'
      subst hx'
      have hs1 := sum_take_succ (cnt := cntFile) hx
      have hs2 := sum_take_le (cnt := cntFile) xs (m + 1)
      have hK0 : 0 ≤ k + (((xs.take m).map cntFile).sum : Nat) := by omega
      have hK1 : k + (((xs.take m).map cntFile).sum : Nat) + (cntFile x : Nat) ≤ 1099511627776 := by unfold cntFiles at h1; omega
      have hK2 : k + (((xs.take (m + 1)).map cntFile).sum : Nat) = k + (((xs.take m).map cntFile).sum : Nat) + (cntFile x : Nat) := by omega
      obtain ⟨K, eK⟩ : ∃ K : Int, K = k + (((xs.take m).map cntFile).sum : Nat) := ⟨_, rfl⟩
      rw [← eK] at hK0 hK1 hK2 d0 r1 ⊢
      have HK2 := Lib.hid hK2
      unfold cntFile at hK1
      dsimp only [markFile] at d0 r1
      clear hs1 hs2 hK2 eK hx hk
      have hlater1 := Later.cell d0
      go_wp2
      refine wp_region_later_lit (by kernel_rfl) (by kernel_rfl) ?_; try simp only [List.append_eq, List.cons_append, List.nil_append]
      repeat (go_big_quiet_step (((go_at_call 34; with_reducible exact Calls.later (markText_any _ _ (by omega))))))
      (refine wpQuiet_nil ?_; intro _ hw'; obtain ⟨⟨w9, hb9⟩, hw''⟩ := hw'; subst hw''; try dsimp only)
      rename World => w1
      have hb1 := hb9
      clear hb9 hlater1
      have d1' : w1.cell? _ = _ := (hb1.cell (World.block_lt_of_cell? _ _ d1)).trans d1
      clear d1
      have d1 := d1'
      clear d1'
      replace r1 := r1.keep hb1 (Nat.le_trans hh hb.size)
      have bl1 := hb.trans (hb1.mono hb.size)
      clear hb1
      go_wp2_with fail
      refine Calls.mono (heldStringS_any _ _ _ x.text (K + 1) _ lo hi r1 (Nat.le_trans hh bl1.size) (by omega) (by omega)) ?_
      rintro e w2 ⟨rfl, hb2⟩
      have bl2 := bl1.trans (hb2.mono bl1.size)
      clear hb2
      go_wp2
      go_roundw
      case rel => exact ⟨m + 1, by omega, by go_num, by rw [HK2.out]; unfold cntFile; go_num, bl2⟩
      case measure => simp [intOf]; omega
    · obtain rfl : m = xs.length := by omega
      go_wp2
      go_ret
      exact ⟨by rw [List.take_length]; rfl, hb⟩
end Go.Proofs.YtmickenajhppoaaGreatDoor
