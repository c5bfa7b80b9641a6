/- The walk of the law FnMergeParts. -/
import Derived.Test.YtbnhebmfgjdocaaMergeLaw
import Derived.Test.YtbnhebmfgjdocaaMergeFn
import Derived.Test.YtbnhebmfgjdocaaDrawThree
import Derived.Test.YtbnhebmfgjdocaaSmParts
namespace Go.Proofs.Ytbnhebmfgjdocaa
open Go.RowKit

theorem small20e {xs : List Str} (h : ∀ s ∈ xs, s.length ≤ 20) : ∀ s ∈ xs, s.length ≤ 9223372036854775807 := fun s hs => by have := h s hs; omega
set_option maxRecDepth 100000 in
set_option maxHeartbeats 3200000 in
theorem law_MergeParts (A : Option Addr) (n c : Nat) (bs : List UInt8) (w : World) (h : Rep w 0 w.heap.size (encBytes bs) (.slice A n c)) :
    Calls Try.prog 6 #[.slice A n c] w fun e w' => e = .returned (.bool true) ∧ Below w.heap.size w w' := by
  have hl := Bytes.n h
  subst hl
  by_cases g : 1048576 < (bs.length : Int)
  · go_enter Try.func6, Try.ntmps6
    go_wp2
    go_ret
    exact ⟨rfl, Below.refl _ _⟩
  go_enter Try.func6, Try.ntmps6
  go_wp2_with fail
  refine Calls.mono (spec_DrawMergeOf_any A bs.length c bs w 0 w.heap.size h (Nat.le_refl _)) ?_
  rintro e w1 ⟨xs, ys, zs, v, u, t, rfl, hb1, hM1, hM2, hM3, hl1, hl2, hl3⟩
  obtain ⟨A1, c1, rfl, hc1, _, _⟩ := hM1.shape
  obtain ⟨A2, c2, rfl, hc2, _, _⟩ := hM2.shape
  obtain ⟨A3, c3, rfl, hc3, _, _⟩ := hM3.shape
  have R1 := hM1.fresh.rep
  have R2 := hM2.fresh.rep
  have R3 := hM3.fresh.rep
  have k1 := small20e hM1.2
  have k2 := small20e hM2.2
  have k3 := small20e hM3.2
  have hs1 := hb1.size
  go_wp2_with fail
  refine Calls.mono (impl_MergeOf_any _ _ _ _ _ _ _ _ _ xs ys zs w1 _ _ _ _ _ _ R1 R2 R3 (Nat.le_refl _) (Nat.le_refl _) (Nat.le_refl _)) ?_
  rintro e w2 ⟨A4, n4, c4, rfl, hb2, hf2⟩
  have hs2 := hb2.size
  replace R1 := R1.keep hb2 (Nat.le_refl _)
  replace R2 := R2.keep hb2 (Nat.le_refl _)
  replace R3 := R3.keep hb2 (Nat.le_refl _)
  go_wp2_with fail
  refine Calls.mono (spec_MergeOf_any _ _ _ _ _ _ _ _ _ xs ys zs w2 _ _ _ _ _ _ R1 R2 R3 hs2 hs2 hs2 k1 k2 k3) ?_
  rintro e wv ⟨A5, n5, c5, rfl, hbv, hfv⟩
  have hsv := hbv.size
  replace R1 := R1.keep hbv hs2
  replace R2 := R2.keep hbv hs2
  replace R3 := R3.keep hbv hs2
  have X4 := hf2.rep.keep hbv (Nat.le_refl _)
  go_wp2_with fail
  refine Calls.mono (smParts_same _ _ _ _ _ _ _ wv _ _ _ _ X4 hfv.rep hsv (Nat.le_refl _)) ?_
  rintro e w3 ⟨rfl, hb3⟩
  have hs3 := hb3.size
  have hbw : Below w.heap.size w w3 := ((hb1.trans (hb2.mono hs1)).trans (hbv.mono (Nat.le_trans hs1 hs2))).trans (hb3.mono (by omega))
  replace R1 := R1.keep hb3 (Nat.le_trans hs2 hsv)
  replace R2 := R2.keep hb3 (Nat.le_trans hs2 hsv)
  replace R3 := R3.keep hb3 (Nat.le_trans hs2 hsv)
  replace X4 := X4.keep hb3 hsv
  have hz : w1.heap.size ≤ w3.heap.size := by omega
  have hz4 : w2.heap.size ≤ w3.heap.size := by omega
  clear hb1 hb2 hbv hb3 hf2 hfv hM1 hM2 hM3
  go_wp2_with fail
  refine Calls.mono (impl_TextOk_any _ _ _ xs w3 _ _ R1) ?_
  rintro e w' ⟨rfl, rfl⟩
  cases t1 : textOk xs
  · go_wp2_with fail
    refine Calls.mono (spec_MergeOf_any _ _ _ _ _ _ _ _ _ xs ys zs w3 _ _ _ _ _ _ R1 R2 R3 hz hz hz k1 k2 k3) ?_
    rintro e w5 ⟨A5, n5, c5, rfl, hb5, hf5⟩
    go_wp2_with fail
    refine Calls.mono (smParts_same _ _ _ _ _ _ _ w5 _ _ _ _ (X4.keep hb5 hz4) hf5.rep (Nat.le_trans hz4 hb5.size) (Nat.le_refl _)) ?_
    rintro e w6 ⟨rfl, hb6⟩
    go_wp2
    go_ret
    exact ⟨rfl, (hbw.trans (hb5.mono hbw.size)).trans (hb6.mono (Nat.le_trans hbw.size hb5.size))⟩
  go_wp2_with fail
  refine Calls.mono (impl_TextOk_any _ _ _ ys w3 _ _ R2) ?_
  rintro e w' ⟨rfl, rfl⟩
  cases t2 : textOk ys
  · go_wp2_with fail
    refine Calls.mono (spec_MergeOf_any _ _ _ _ _ _ _ _ _ xs ys zs w3 _ _ _ _ _ _ R1 R2 R3 hz hz hz k1 k2 k3) ?_
    rintro e w5 ⟨A5, n5, c5, rfl, hb5, hf5⟩
    go_wp2_with fail
    refine Calls.mono (smParts_same _ _ _ _ _ _ _ w5 _ _ _ _ (X4.keep hb5 hz4) hf5.rep (Nat.le_trans hz4 hb5.size) (Nat.le_refl _)) ?_
    rintro e w6 ⟨rfl, hb6⟩
    go_wp2
    go_ret
    exact ⟨rfl, (hbw.trans (hb5.mono hbw.size)).trans (hb6.mono (Nat.le_trans hbw.size hb5.size))⟩
  go_wp2_with fail
  refine Calls.mono (impl_TextOk_any _ _ _ zs w3 _ _ R3) ?_
  rintro e w' ⟨rfl, rfl⟩
  cases t3 : textOk zs
  · go_wp2_with fail
    refine Calls.mono (spec_MergeOf_any _ _ _ _ _ _ _ _ _ xs ys zs w3 _ _ _ _ _ _ R1 R2 R3 hz hz hz k1 k2 k3) ?_
    rintro e w5 ⟨A5, n5, c5, rfl, hb5, hf5⟩
    go_wp2_with fail
    refine Calls.mono (smParts_same _ _ _ _ _ _ _ w5 _ _ _ _ (X4.keep hb5 hz4) hf5.rep (Nat.le_trans hz4 hb5.size) (Nat.le_refl _)) ?_
    rintro e w6 ⟨rfl, hb6⟩
    go_wp2
    go_ret
    exact ⟨rfl, (hbw.trans (hb5.mono hbw.size)).trans (hb6.mono (Nat.le_trans hbw.size hb5.size))⟩
  have hmo : mergeOk xs ys zs = true := by unfold mergeOk; rw [t1, t2, t3]; rfl
  rw [mergeParts_yes hmo] at X4
  have hgood := good_merge xs ys zs
  obtain ⟨ps, hps⟩ : ∃ ps, ps = mergeOf xs ys zs := ⟨_, rfl⟩
  rw [← hps] at X4 hgood
  have hnp := Parts.n X4
  obtain ⟨hc4, hm4⟩ := Parts.cap X4
  subst hnp
  have Hgood := Lib.hid hgood
  clear hps hgood hmo t1 t2 t3
  go_wp2
  go_loopw [7] (fun i wr => ∃ k : Nat, k ≤ ps.length ∧ i = .int .i64 k ∧ Below w3.heap.size w3 wr) (fun i _ => ps.length - (intOf i).toNat)
  case atStart => exact ⟨0, Nat.zero_le _, rfl, Below.refl _ _⟩
  case round =>
    obtain ⟨k, hk, rfl, hb⟩ := hrel
    have hsb := hb.size
    have hZ : w2.heap.size ≤ wr.heap.size := by omega
    by_cases hkn : k < ps.length
    · have hkn' : (k : Int) < (ps.length : Int) := by omega
      obtain ⟨b1, o1, p, rfl, _, _, hp, B1, m1, e1, B2, m2, e2, B3, m3, e3, B4, m4, e4, d0, d1, r1, d2, r2, d3, r3, d4, r4⟩ := Parts.at (X4.keep hb hz4) hkn
      have hg := Hgood.out.1 p (List.mem_of_getElem? hp)
      have hl1 := Text.n r1
      have hl2 := Text.n r2
      have hl3 := Text.n r3
      have hl4 := Text.n r4
      have hba := fun o => (Below.refl wr.heap.size wr).alloc (Nat.le_refl _) o
      have a1 := fun o => r1.keep (hba o) hZ
      have a2 := fun o => r2.keep (hba o) hZ
      have a3 := fun o => r3.keep (hba o) hZ
      have a4 := fun o => r4.keep (hba o) hZ
      have hbn : ∀ o, Below w3.heap.size w3 (wr.alloc o) := fun o => hb.alloc hsb o
      unfold goodPart at hg
      cases hcl : p.clash
      · rw [hcl] at hg d0
        simp only [Bool.false_eq_true, if_false] at hg
        obtain ⟨g1, g2, g3, g4⟩ := hg
        have hm1 : 0 < m1 := by rw [hl1]; exact List.length_pos_iff.2 g1
        rw [g2] at hl2
        rw [g3] at hl3
        rw [g4] at hl4
        simp only [List.length_nil] at hl2 hl3 hl4
        subst hl2 hl3 hl4
        have hm1' : ((m1 : Int) == 0) = false := by simp; omega
        have hap := Hgood.out.2
        by_cases hk0 : k = 0
        · subst hk0
          simp only [Nat.zero_mul, Nat.add_zero] at d0 d1 d2 d3 d4
          clear hp g1 g2 g3 g4 hl1 hap hcl a1 a2 a3 a4 hba r1 r2 r3 r4
          go_wp2
          go_roundw
          case rel => exact ⟨1, by omega, by go_num, hbn _⟩
          case measure => simp [intOf]; omega
        · obtain ⟨j, rfl⟩ : ∃ j, k = j + 1 := ⟨k - 1, by omega⟩
          obtain ⟨b2, o2, q, hA, _, _, hq, _, _, _, _, _, _, _, _, _, _, _, _, f0, -⟩ := Parts.at (X4.keep hb hz4) (show j < ps.length by omega)
          cases hA
          rw [hap j q p hq hp hcl] at f0
          have f0a := fun o => cell_alloc_old f0 o
          have hj1 : (0 : Int) < ((j + 1 : Nat) : Int) := by omega
          have hj2 : (j : Int) < (ps.length : Int) := by omega
          have hj3 : (0 : Int) ≤ (j : Int) := by omega
          have hj4 : ((j + 1 : Nat) : Int) - 1 = (j : Int) := by omega
          clear hp g1 g2 g3 g4 hl1 hap hcl hq a1 a2 a3 a4 hba r1 r2 r3 r4
          go_wp2
          go_roundw
          case rel => exact ⟨j + 1 + 1, by omega, by go_num, hbn _⟩
          case measure => simp [intOf]; omega
      · rw [hcl] at hg d0
        simp only [if_true] at hg
        obtain ⟨g1, g2, g3, g4⟩ := hg
        rw [g4] at hl1
        simp only [List.length_nil] at hl1
        subst hl1
        have G1 := Lib.hid g1
        have G2 := Lib.hid g2
        have G3 := Lib.hid g3
        clear hp g1 g2 g3 g4 hcl hl2 hl3 hl4 a1
        go_wp2_with fail
        refine Calls.mono (smTexts_any _ _ _ _ _ _ p.one p.two _ _ _ _ _ (a3 _) (a4 _)) ?_
        rw [decide_eq_false G1.out]
        rintro e _ ⟨rfl, q1, rfl⟩
        go_wp2_with fail
        refine Calls.mono (smTexts_any _ _ _ _ _ _ p.one p.old _ _ _ _ _ ((a3 _).same (fun _ _ _ => rfl)) ((a2 _).same (fun _ _ _ => rfl))) ?_
        rw [decide_eq_false G2.out]
        rintro e _ ⟨rfl, q2, rfl⟩
        go_wp2_with fail
        refine Calls.mono (smTexts_any _ _ _ _ _ _ p.two p.old _ _ _ _ _ ((a4 _).same (fun _ _ _ => rfl)) ((a2 _).same (fun _ _ _ => rfl))) ?_
        rw [decide_eq_false G3.out]
        rintro e _ ⟨rfl, q3, rfl⟩
        go_wp2
        go_roundw
        case rel => exact ⟨k + 1, by omega, by go_num, by (repeat' (first | with_reducible exact Below.refl _ _ | with_reducible assumption | (with_reducible refine Below.setCell ?_ ?_ _) | (with_reducible refine Below.alloc ?_ ?_ _) | (with_reducible refine below_drewN ?_ _) | (with_reducible refine Below.drew ?_) | omega | (simp; done) | (simp; omega)))⟩
        case measure => simp [intOf]; omega
    · obtain rfl : k = ps.length := by omega
      go_wp2
      go_ret
      exact ⟨rfl, hbw.trans (hb.mono hbw.size)⟩
end Go.Proofs.Ytbnhebmfgjdocaa
