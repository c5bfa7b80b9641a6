/- The walk of the law FnMergeSwap. -/
import Derived.Test.YtbnhebmfgjdocaaMergeLaw
import Derived.Test.YtbnhebmfgjdocaaMergeFn
import Derived.Test.YtbnhebmfgjdocaaDrawThree
import Derived.Test.YtbnhebmfgjdocaaSmParts
import Derived.Test.YtbnhebmfgjdocaaMergePut
namespace Go.Proofs.Ytbnhebmfgjdocaa
open Go.RowKit

theorem small20f {xs : List Str} (h : ∀ s ∈ xs, s.length ≤ 20) : ∀ s ∈ xs, s.length ≤ 9223372036854775807 := fun s hs => by have := h s hs; omega
def halfSwap (k : Nat) (ps : List PPart) : List PPart := (ps.take k).map swapPart ++ ps.drop k
theorem half_zero (ps : List PPart) : halfSwap 0 ps = ps := by simp [halfSwap]
theorem half_all (ps : List PPart) : halfSwap ps.length ps = ps.map swapPart := by simp [halfSwap]
theorem half_len (k : Nat) (ps : List PPart) : (halfSwap k ps).length = ps.length := by simp [halfSwap]; omega
theorem half_at {k : Nat} {ps : List PPart} {p : PPart} (h : ps[k]? = some p) : (halfSwap k ps)[k]? = some p := by
  have hlt := (List.getElem?_eq_some_iff.1 h).1
  unfold halfSwap
  rw [List.getElem?_append_right (by simp; omega), List.length_map, List.length_take, Nat.min_eq_left (by omega), Nat.sub_self, List.getElem?_drop]
  exact h
theorem half_next {k : Nat} {ps : List PPart} {p : PPart} (h : ps[k]? = some p) : halfSwap (k + 1) ps = (halfSwap k ps).set k (swapPart p) := by
  have hlt := (List.getElem?_eq_some_iff.1 h).1
  unfold halfSwap
  rw [List.set_append_right _ _ (by simp; omega), List.length_map, List.length_take, Nat.min_eq_left (by omega), Nat.sub_self, drop_cons h, List.take_add_one, h]
  simp
/-- Two cells of one part of a list in blocks of its own, exchanged. -/
theorem Parts.exchange {w : World} {ps : List PPart} {g n c k : Nat} {F : List Nat} {p : PPart} {v3 v4 : Value} (h : Own w (encParts ps) (.slice (some ⟨g, 0, none⟩) n c) F) (hnd : F.Nodup) (hk : ps[k]? = some p) (h3 : w.cell? ⟨g, k * 5 + 3, none⟩ = some v3) (h4 : w.cell? ⟨g, k * 5 + 4, none⟩ = some v4) :
    ∃ F', Own ((w.setCell ⟨g, k * 5 + 3, none⟩ v4).setCell ⟨g, k * 5 + 4, none⟩ v3) (encParts (ps.set k (swapPart p))) (.slice (some ⟨g, 0, none⟩) n c) F' ∧ F'.Nodup ∧ (∀ q, q ∈ F' → q ∈ F) := by
  obtain ⟨us, G, hn, hrow, ho, rfl⟩ := Parts.open_ h
  have hkl := (List.getElem?_eq_some_iff.1 hk).1
  have hnd' : (g :: G).Nodup := hnd
  obtain ⟨hgG, hGn⟩ := List.nodup_cons.1 hnd'
  have e3 : (ps.flatMap cParts)[k * 5 + 3]? = some (encText p.one) := by rw [flatMap_at cParts_len ps k 3 (by omega), hk]; rfl
  have e4 : (ps.flatMap cParts)[k * 5 + 4]? = some (encText p.two) := by rw [flatMap_at cParts_len ps k 4 (by omega), hk]; rfl
  have u3 := (hrow.cellAt (k * 5 + 3) (by omega)).symm.trans h3
  have u4 := (hrow.cellAt (k * 5 + 4) (by omega)).symm.trans h4
  obtain ⟨w3, Fa, F3, Fb, hw3, hG, ho3, hset3⟩ := Owns.at ho e3
  obtain ⟨w4, _, F4, _, hw4, _, ho4, _⟩ := Owns.at ho e4
  obtain rfl := Option.some.inj (hw3.symm.trans u3)
  obtain rfl := Option.some.inj (hw4.symm.trans u4)
  have hGl := Owns.lt _ _ _ ho
  have hF4 : ∀ q ∈ F4, q ∈ G := fun q hq => by
    obtain ⟨w4', Fa', F4', Fb', hw4', hG', ho4', _⟩ := Owns.at ho e4
    have e := Option.some.inj (hw4'.symm.trans hw4)
    subst e
    rw [(own_text_inv ho4).1, ← (own_text_inv ho4').1] at hq
    rw [hG']; simp [hq]
  have hkeep : ∀ q ∈ G, ((w.setCell ⟨g, k * 5 + 3, none⟩ w4).setCell ⟨g, k * 5 + 4, none⟩ w3).heap[q]? = w.heap[q]? := fun q hq => by
    have hne : q ≠ g := fun e => hgG (e ▸ hq)
    exact (Below.heap_setCell _ _ _ _ hne).trans (Below.heap_setCell _ _ _ _ hne)
  have hO4 := Own.same _ _ _ ho4 (fun q hq => hkeep q (hF4 q hq))
  have hO3 := Own.same _ _ _ ho3 (fun q hq => hkeep q (by rw [hG]; simp [hq]))
  have h1 := hset3 _ (encText p.two) w4 F4 (fun q hq => hkeep q (by rw [hG]; rcases List.mem_append.1 hq with m | m <;> simp [m])) hO4
  have e4' : ((ps.flatMap cParts).set (k * 5 + 3) (encText p.two))[k * 5 + 4]? = some (encText p.two) := by rw [List.getElem?_set_ne (by omega)]; exact e4
  obtain ⟨x4, Fa', F4', Fb', hx4, hG1, hx, hset4⟩ := Owns.at h1 e4'
  have hx4' : x4 = w4 := by
    rw [List.getElem?_set_ne (by omega), hw4] at hx4
    exact (Option.some.inj hx4).symm
  subst hx4'
  have hF4' : F4' = F4 := by rw [(own_text_inv hx).1, (own_text_inv hO4).1]
  subst hF4'
  have h2 := hset4 _ (encText p.one) w3 F3 (fun _ _ => rfl) hO3
  have hp1 : (Fa ++ Fb).Perm (Fa' ++ Fb') := (List.perm_append_left_iff F4').1 ((List.perm_append_comm_assoc F4' Fa Fb).trans ((List.Perm.of_eq hG1).trans (List.perm_append_comm_assoc Fa' F4' Fb')))
  have hp2 : (Fa' ++ (F3 ++ Fb')).Perm G := by
    rw [hG]
    exact (List.perm_append_comm_assoc Fa' F3 Fb').trans (((hp1.symm).append_left F3).trans (List.perm_append_comm_assoc F3 Fa Fb))
  have y1 := flatMap_set_one cParts_len (y' := { p with one := p.two }) (j := 3) (p := encText p.two) ps k p hk (by omega) rfl
  have y2 := flatMap_set_one cParts_len (y' := swapPart p) (j := 4) (p := encText p.one) (ps.set k { p with one := p.two }) k { p with one := p.two } (by rw [List.getElem?_set_self hkl]) (by omega) rfl
  rw [y1, y2, List.set_set] at h2
  have r1 := hrow.stored (k * 5 + 3) x4
  have r2 := r1.1.stored (k * 5 + 4) w3
  refine ⟨g :: (Fa' ++ (F3 ++ Fb')), ⟨n, _, _, r2.1, rfl, h2⟩, List.nodup_cons.2 ⟨fun m => hgG (hp2.mem_iff.1 m), hp2.nodup_iff.2 hGn⟩, fun q hq => ?_⟩
  rcases List.mem_cons.1 hq with rfl | hq
  · simp [Value.ownBlock]
  · exact List.mem_append_right _ (hp2.mem_iff.1 hq)

set_option maxRecDepth 100000 in
set_option maxHeartbeats 3200000 in
theorem law_MergeSwap (A : Option Addr) (n c : Nat) (bs : List UInt8) (w : World) (h : Rep w 0 w.heap.size (encBytes bs) (.slice A n c)) :
    Calls Try.prog 7 #[.slice A n c] w fun e w' => e = .returned (.bool true) ∧ Below w.heap.size w w' := by
  have hl := Bytes.n h
  subst hl
  by_cases g : 1048576 < (bs.length : Int)
  · go_enter Try.func7, Try.ntmps7
    go_wp2
    go_ret
    exact ⟨rfl, Below.refl _ _⟩
  go_enter Try.func7, Try.ntmps7
  go_wp2_with fail
  refine Calls.mono (spec_DrawMergeOf_any A bs.length c bs w 0 w.heap.size h (Nat.le_refl _)) ?_
  rintro e w1 ⟨xs, ys, zs, v, u, t, rfl, hb1, hM1, hM2, hM3, hl1, hl2, hl3⟩
  obtain ⟨A1, c1, rfl, hc1, _, _⟩ := hM1.shape
  obtain ⟨A2, c2, rfl, hc2, _, _⟩ := hM2.shape
  obtain ⟨A3, c3, rfl, hc3, _, _⟩ := hM3.shape
  have R1 := hM1.fresh.rep
  have R2 := hM2.fresh.rep
  have R3 := hM3.fresh.rep
  have k1 := small20f hM1.2
  have k2 := small20f hM2.2
  have k3 := small20f hM3.2
  have hs1 := hb1.size
  go_wp2_with fail
  refine Calls.mono (impl_MergeOf_any _ _ _ _ _ _ _ _ _ xs ys zs w1 _ _ _ _ _ _ R1 R2 R3 (Nat.le_refl _) (Nat.le_refl _) (Nat.le_refl _)) ?_
  rintro e w2 ⟨A4, n4, c4, rfl, hb2, hf2⟩
  have hs2 := hb2.size
  replace R1 := R1.keep hb2 (Nat.le_refl _)
  replace R2 := R2.keep hb2 (Nat.le_refl _)
  replace R3 := R3.keep hb2 (Nat.le_refl _)
  go_wp2_with fail
  refine Calls.mono (spec_MergeOf_any _ _ _ _ _ _ _ _ _ xs ys zs w2 _ _ _ _ _ _ R1 R2 R3 hs2 hs2 hs2 k1 k2 k3) ?_
  rintro e wv ⟨A5, n5, c5, rfl, hbv, hfv⟩
  have hsv := hbv.size
  replace R1 := R1.keep hbv hs2
  replace R2 := R2.keep hbv hs2
  replace R3 := R3.keep hbv hs2
  have X4 := hf2.rep.keep hbv (Nat.le_refl _)
  go_wp2_with fail
  refine Calls.mono (smParts_same _ _ _ _ _ _ _ wv _ _ _ _ X4 hfv.rep hsv (Nat.le_refl _)) ?_
  rintro e w3 ⟨rfl, hb3⟩
  have hs3 := hb3.size
  have hbw : Below w.heap.size w w3 := ((hb1.trans (hb2.mono hs1)).trans (hbv.mono (Nat.le_trans hs1 hs2))).trans (hb3.mono (by omega))
  replace R1 := R1.keep hb3 (Nat.le_trans hs2 hsv)
  replace R2 := R2.keep hb3 (Nat.le_trans hs2 hsv)
  replace R3 := R3.keep hb3 (Nat.le_trans hs2 hsv)
  replace X4 := X4.keep hb3 hsv
  have hz : w1.heap.size ≤ w3.heap.size := by omega
  have hz4 : w2.heap.size ≤ w3.heap.size := by omega
  clear hb1 hb2 hbv hb3 hf2 hfv hM1 hM2 hM3
  go_wp2_with fail
  refine Calls.mono (impl_TextOk_any _ _ _ xs w3 _ _ R1) ?_
  rintro e w' ⟨rfl, rfl⟩
  cases t1 : textOk xs
  · go_wp2_with fail
    refine Calls.mono (spec_MergeOf_any _ _ _ _ _ _ _ _ _ xs ys zs w3 _ _ _ _ _ _ R1 R2 R3 hz hz hz k1 k2 k3) ?_
    rintro e w5 ⟨A5, n5, c5, rfl, hb5, hf5⟩
    go_wp2_with fail
    refine Calls.mono (smParts_same _ _ _ _ _ _ _ w5 _ _ _ _ (X4.keep hb5 hz4) hf5.rep (Nat.le_trans hz4 hb5.size) (Nat.le_refl _)) ?_
    rintro e w6 ⟨rfl, hb6⟩
    go_wp2
    go_ret
    exact ⟨rfl, (hbw.trans (hb5.mono hbw.size)).trans (hb6.mono (Nat.le_trans hbw.size hb5.size))⟩
  go_wp2_with fail
  refine Calls.mono (impl_TextOk_any _ _ _ ys w3 _ _ R2) ?_
  rintro e w' ⟨rfl, rfl⟩
  cases t2 : textOk ys
  · go_wp2_with fail
    refine Calls.mono (spec_MergeOf_any _ _ _ _ _ _ _ _ _ xs ys zs w3 _ _ _ _ _ _ R1 R2 R3 hz hz hz k1 k2 k3) ?_
    rintro e w5 ⟨A5, n5, c5, rfl, hb5, hf5⟩
    go_wp2_with fail
    refine Calls.mono (smParts_same _ _ _ _ _ _ _ w5 _ _ _ _ (X4.keep hb5 hz4) hf5.rep (Nat.le_trans hz4 hb5.size) (Nat.le_refl _)) ?_
    rintro e w6 ⟨rfl, hb6⟩
    go_wp2
    go_ret
    exact ⟨rfl, (hbw.trans (hb5.mono hbw.size)).trans (hb6.mono (Nat.le_trans hbw.size hb5.size))⟩
  go_wp2_with fail
  refine Calls.mono (impl_TextOk_any _ _ _ zs w3 _ _ R3) ?_
  rintro e w' ⟨rfl, rfl⟩
  cases t3 : textOk zs
  · go_wp2_with fail
    refine Calls.mono (spec_MergeOf_any _ _ _ _ _ _ _ _ _ xs ys zs w3 _ _ _ _ _ _ R1 R2 R3 hz hz hz k1 k2 k3) ?_
    rintro e w5 ⟨A5, n5, c5, rfl, hb5, hf5⟩
    go_wp2_with fail
    refine Calls.mono (smParts_same _ _ _ _ _ _ _ w5 _ _ _ _ (X4.keep hb5 hz4) hf5.rep (Nat.le_trans hz4 hb5.size) (Nat.le_refl _)) ?_
    rintro e w6 ⟨rfl, hb6⟩
    go_wp2
    go_ret
    exact ⟨rfl, (hbw.trans (hb5.mono hbw.size)).trans (hb6.mono (Nat.le_trans hbw.size hb5.size))⟩
  have hmo : mergeOk xs ys zs = true := by unfold mergeOk; rw [t1, t2, t3]; rfl
  rw [mergeParts_yes hmo] at X4
  have hmo2 : mergeOk xs zs ys = true := by unfold mergeOk; rw [t1, t2, t3]; rfl
  have hsw : (mergeOf xs zs ys).map swapPart = mergeOf xs ys zs := by rw [swap_merge xs ys zs, swap_swap]
  obtain ⟨qs, hqs⟩ : ∃ qs, qs = mergeOf xs zs ys := ⟨_, rfl⟩
  have hpq := mergeParts_yes hmo2
  rw [← hqs] at hsw hpq
  rw [← hsw] at X4
  have Hpq := Lib.hid hpq
  clear hqs hmo hmo2 t1 t2 t3 hsw hpq
  go_wp2_with fail
  refine Calls.mono (impl_MergeOf_any _ _ _ _ _ _ _ _ _ xs zs ys w3 _ _ _ _ _ _ R1 R3 R2 hz hz hz) ?_
  rw [Hpq.out]
  rintro e wb ⟨A6, n6, c6, rfl, hbb, F0, hO0, hN0, hF0⟩
  have hX0 := Own.rep _ _ _ hO0 hF0
  have hnp := Parts.n hX0
  obtain ⟨hc6, hm6⟩ := Parts.cap hX0
  subst hnp
  have hsb0 := hbb.size
  clear hX0
  go_wp2
  go_loopw [8, 9] (fun i _ wr => ∃ (k : Nat) (F : List Nat), k ≤ qs.length ∧ i = .int .i64 k ∧ Own wr (encParts (halfSwap k qs)) (.slice A6 qs.length c6) F ∧ F.Nodup ∧ (∀ q ∈ F, w3.heap.size ≤ q) ∧ Below w3.heap.size w3 wr) (fun i _ _ => qs.length - (intOf i).toNat)
  case atStart => exact ⟨0, F0, Nat.zero_le _, rfl, by rw [half_zero]; exact hO0, hN0, fun q hq => (hF0 q hq).1, hbb⟩
  case round =>
    clear hO0 hN0 hF0
    obtain ⟨k, F, hk, rfl, hO, hN, hF, hb⟩ := hrel
    have hsb := hb.size
    by_cases hkn : k < qs.length
    · have hkn' : (k : Int) < (qs.length : Int) := by omega
      have hX := Own.rep _ _ _ hO (fun q hq => ⟨hF q hq, Own.lt _ _ _ hO q hq⟩)
      obtain ⟨p, hp⟩ : ∃ p, qs[k]? = some p := ⟨_, List.getElem?_eq_getElem hkn⟩
      have hhp := half_at hp
      obtain ⟨b1, o1, p', rfl, hblo, hbhi, hp', B1, m1, e1, B2, m2, e2, B3, m3, e3, B4, m4, e4, d0, d1, r1, d2, r2, d3, r3, d4, r4⟩ := Parts.at hX hkn
      obtain ⟨us, G, hnn, hrow, _, _⟩ := Parts.open_ hO
      obtain ⟨g, cap, cur, hA, _⟩ : ∃ (g cap : Nat) (cur : Array Value), (some ⟨b1, o1, none⟩ : Option Addr) = some ⟨g, 0, none⟩ ∧ True := by
        rcases hrow.2 with ⟨e, h0⟩ | ⟨g, cap, cur, e, _, _⟩
        · omega
        · cases e; exact ⟨b1, 0, #[], rfl, trivial⟩
      cases hA
      simp only [Nat.zero_add] at d0 d1 d2 d3 d4
      obtain ⟨F', hO', hN', hF'⟩ := Parts.exchange hO hN hhp d3 d4
      rw [← half_next hp] at hO'
      have fz3 := hrow.frozenAt (k * 5 + 3)
      have fz4 := (hrow.stored (k * 5 + 3) (.slice B4 m4 e4)).1.frozenAt (k * 5 + 4)
      have HO := Lib.hid hO'
      have hFn : ∀ q ∈ F', w3.heap.size ≤ q := fun q hq => hF q (hF' q hq)
      have hbn := (hb.setCell (p := ⟨b1, k * 5 + 3, none⟩) hblo (.slice B4 m4 e4)).setCell (p := ⟨b1, k * 5 + 4, none⟩) hblo (.slice B3 m3 e3)
      clear hO' hO hrow hnn hp hhp hp' hX hN hF hF'
      go_wp2
      go_roundw
      case rel => exact ⟨k + 1, F', by omega, by go_num, HO.out, hN', hFn, hbn⟩
      case measure => simp [intOf]; omega
    · obtain rfl : k = qs.length := by omega
      rw [half_all] at hO
      have hX := Own.rep _ _ _ hO (fun q hq => ⟨hF q hq, Own.lt _ _ _ hO q hq⟩)
      go_wp2_with fail
      refine Calls.mono (smParts_same _ _ _ _ _ _ _ wr _ _ _ _ hX (X4.keep hb hz4) (Nat.le_refl _) (by omega)) ?_
      rintro e w6 ⟨rfl, hb6⟩
      go_wp2
      go_ret
      exact ⟨rfl, (hbw.trans (hb.mono hbw.size)).trans (hb6.mono (Nat.le_trans hbw.size hsb))⟩
end Go.Proofs.Ytbnhebmfgjdocaa
