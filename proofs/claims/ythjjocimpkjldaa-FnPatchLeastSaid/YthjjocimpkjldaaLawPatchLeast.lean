/- The walk of the law FnPatchLeast. -/
import Derived.Test.YthjjocimpkjldaaDrawPatch
import Derived.Test.YthjjocimpkjldaaLeastLaw
import Derived.Test.YthjjocimpkjldaaDoFn
namespace Go.Proofs.Ythjjocimpkjldaa
open Go.RowKit

theorem many_small {d : List PHunk} (h : ∀ x ∈ d, -1 ≤ x.at_ ∧ x.at_ ≤ 11 ∧ x.less.length ≤ 11 ∧ x.more.length ≤ 10 ∧ (∀ s ∈ x.less, s.length ≤ 20) ∧ ∀ s ∈ x.more, s.length ≤ 20) : manyOf d ≤ d.length * 21 := by
  induction d with
  | nil => simp [manyOf]
  | cons x t ih =>
    have h1 := h x (by simp)
    have h2 := ih (fun y hy => h y (List.mem_cons_of_mem _ hy))
    simp only [manyOf, List.map_cons, List.sum_cons, List.length_cons] at h2 ⊢
    omega
set_option maxRecDepth 100000 in
set_option maxHeartbeats 3200000 in
theorem law_PatchLeast (A : Option Addr) (n c : Nat) (bs : List UInt8) (w : World) (h : Rep w 0 w.heap.size (encBytes bs) (.slice A n c)) :
    Calls Try.prog 5 #[.slice A n c] w fun e w' => e = .returned (.bool true) ∧ Below w.heap.size w w' := by
  have hl := Bytes.n h
  subst hl
  by_cases g : 1048576 < (bs.length : Int)
  · go_enter Try.func5, Try.ntmps5
    go_wp2
    go_ret
    exact ⟨rfl, Below.refl _ _⟩
  go_enter Try.func5, Try.ntmps5
  go_wp2_with fail
  refine Calls.mono (spec_DrawPatchDo_any A bs.length c bs w 0 w.heap.size h (Nat.le_refl _)) ?_
  rintro e w1 ⟨xs, ys, A1, A2, n1, c1, n2, c2, rfl, hb1, R1, R2, hx1, hs2⟩
  have hw1 := hb1.size
  go_wp2_with fail
  refine Calls.mono (impl_PatchDo_any _ _ _ _ _ _ xs ys w1 _ _ _ _ R1 R2 (Nat.le_refl _) (Nat.le_refl _)) ?_
  rintro e w2 ⟨A3, n3, c3, rfl, hb2, hf2⟩
  have hw2 := hb2.size
  replace R1 := R1.keep hb2 (Nat.le_refl _)
  replace R2 := R2.keep hb2 (Nat.le_refl _)
  go_wp2_with fail
  refine Calls.mono (spec_PatchDo_any _ _ _ _ _ _ xs ys w2 _ _ _ _ R1 R2 hw2 hw2 (small20p hx1) (smallHunks_ok hs2)) ?_
  rintro e w3 ⟨A4, n4, c4, rfl, hb3, hf3⟩
  have hw3 := hb3.size
  replace R1 := R1.keep hb3 hw2
  replace R2 := R2.keep hb3 hw2
  have X3 := hf2.rep.keep hb3 (Nat.le_refl _)
  have X4 := hf3.rep
  have hbw : Below w.heap.size w w3 := (hb1.trans (hb2.mono hw1)).trans (hb3.mono (Nat.le_trans hw1 hw2))
  have hz : w1.heap.size ≤ w3.heap.size := Nat.le_trans hw2 hw3
  obtain ⟨r, hr⟩ : ∃ r, r = patchDo xs ys := ⟨_, rfl⟩
  rw [← hr] at X3 X4 ⊢
  have Hr := Lib.hid hr
  clear hb1 hb2 hf2 hf3 hr
  cases r with
  | none =>
    simp only [Option.isSome_none, Option.getD_none] at X3 X4 ⊢
    go_wp2_with fail
    refine Calls.mono (smTexts_any _ _ _ _ _ _ [] [] _ _ _ _ _ X3 X4) ?_
    rintro e _ ⟨rfl, m1, rfl⟩
    rw [decide_eq_true rfl]
    go_wp2_with fail
    refine Calls.mono (smTexts_any _ _ _ _ _ _ [] [] _ _ _ _ _ (X3.same (fun _ _ _ => rfl)) (X4.same (fun _ _ _ => rfl))) ?_
    rintro e _ ⟨rfl, m2, rfl⟩
    rw [decide_eq_true rfl]
    go_wp2
    go_ret
    exact ⟨by simp, by (repeat' (first | with_reducible exact Below.refl _ _ | with_reducible assumption | (with_reducible refine Below.setCell ?_ ?_ _) | (with_reducible refine Below.alloc ?_ ?_ _) | (with_reducible refine below_drewN ?_ _) | (with_reducible refine Below.drew ?_) | omega | (simp; done) | (simp; omega)))⟩
  | some zs =>
    simp only [Option.isSome_some, Option.getD_some] at X3 X4 ⊢
    obtain ⟨e1, e2, e3⟩ := patch_least Hr.out.symm
    have E1 := Lib.hid e1
    have E2 := Lib.hid e2
    have hzz := Nat.le_refl w3.heap.size
    clear e1 e2
    have hl3 := Text.n X3
    have hl2 := Hunks.n R2
    obtain ⟨hc2, hm2⟩ := Hunks.cap R2
    subst hl3 hl2
    obtain ⟨hs60, hsm⟩ := hs2
    have Hsm := Lib.hid hsm
    have Hxx := Lib.hid hx1
    clear hsm hx1
    go_wp2_with fail
    refine Calls.mono (smTexts_any _ _ _ _ _ _ zs zs _ _ _ _ _ X3 X4) ?_
    rintro e _ ⟨rfl, m1, rfl⟩
    rw [decide_eq_true rfl]
    obtain ⟨wz, hwz⟩ : ∃ wz : World, wz = w3.drewN m1 := ⟨_, rfl⟩
    rw [← hwz]
    have hbz : Below w3.heap.size w3 wz := by rw [hwz]; exact below_drewN (Below.refl _ _) _
    have hsz := hbz.size
    replace hbw := hbw.trans (hbz.mono hbw.size)
    replace R1 := R1.keep hbz hz
    replace R2 := R2.keep hbz hz
    replace X3 := X3.keep hbz hw3
    replace hz := Nat.le_trans hz hsz
    have hz3 := Nat.le_trans hw3 hsz
    clear hwz hbz X4 hb3
    go_wp2
    go_loopw [9, 10] (fun m i wr => ∃ k : Nat, k ≤ ys.length ∧ m = .int .i64 (manyOf (ys.take k)) ∧ i = .int .i64 k ∧ Below wz.heap.size wz wr) (fun _ i _ => ys.length - (intOf i).toNat)
    case atStart => exact ⟨0, Nat.zero_le _, rfl, rfl, Below.refl _ _⟩
    case round =>
      obtain ⟨k, hk, rfl, rfl, hb⟩ := hrel
      obtain ⟨wo, rfl⟩ : ∃ wo : World, wo = wr := ⟨_, rfl⟩
      have hso := hb.size
      replace hbw := hbw.trans (hb.mono hbw.size)
      replace R1 := R1.keep hb hz
      replace R2 := R2.keep hb hz
      replace X3 := X3.keep hb hz3
      replace hz := Nat.le_trans hz hso
      replace hz3 := Nat.le_trans hz3 hso
      have Hb := Lib.hid hb
      clear hb
      by_cases hkn : k < ys.length
      · have hkn' : (k : Int) < (ys.length : Int) := by omega
        obtain ⟨b1, o1, x, rfl, hblo, hbhi, hyk, B1, m1, e1, B2, m2, e2, d0, d1, r1, d2, r2⟩ := Hunks.at R2 hkn
        have hmt : manyOf (ys.take (k + 1)) = manyOf (ys.take k) + x.less.length + x.more.length := by
          rw [List.take_add_one, hyk]; simp [manyOf]; omega
        have hmb := many_small (d := ys.take k) (fun y hy => Hsm.out y (List.mem_of_mem_take hy))
        have hkl : (ys.take k).length ≤ 60 := by rw [List.length_take]; omega
        have hxs := Hsm.out x (List.mem_of_getElem? hyk)
        have hq1 := Text.n r1
        have hq2 := Text.n r2
        subst hq1 hq2
        have hv1 : IntKind.i64.wrap ((manyOf (ys.take k) : Int) + (x.less.length : Int)) = (manyOf (ys.take k) : Int) + (x.less.length : Int) := by rw [IntKind.wrap_i64]; omega
        have hv2 : IntKind.i64.wrap ((manyOf (ys.take k) : Int) + (x.less.length : Int) + (x.more.length : Int)) = (manyOf (ys.take k) : Int) + (x.less.length : Int) + (x.more.length : Int) := by rw [IntKind.wrap_i64]; omega
        have Hmt := Lib.hid hmt
        clear hmt hmb hkl hyk r1 r2 hxs
        go_wp2
        go_quiet (fail)
        go_wp2
        go_roundw
        case rel => exact ⟨k + 1, by omega, by rw [Hmt.out]; simp, by go_num, Hb.out.trans (by (repeat' (first | with_reducible exact Below.refl _ _ | with_reducible assumption | (with_reducible refine Below.setCell ?_ ?_ _) | (with_reducible refine Below.alloc ?_ ?_ _) | (with_reducible refine below_drewN ?_ _) | (with_reducible refine Below.drew ?_) | omega | (simp; done) | (simp; omega))))⟩
        case measure => simp [intOf]; omega
      · have hkn' : ¬ (k : Int) < (ys.length : Int) := by omega
        rw [List.take_of_length_le (by omega)]
        go_wp2_with fail
        refine Calls.mono (impl_TextOk_any _ _ _ zs _ _ _ X3) ?_
        rintro e w' ⟨rfl, rfl⟩
        rw [E1.out]
        go_wp2_with fail
        refine Calls.mono (impl_DiffMany_any _ _ _ _ _ _ xs zs _ _ _ _ _ R1 X3 hz hz3) ?_
        rintro e w9 ⟨rfl, hb9⟩
        have hw9 := hb9.size
        have hge : diffMany xs zs ≤ (manyOf ys : Int) := E2.out
        have hz10 : (zs.length : Int) ≤ 10 := by omega
        replace hbw := hbw.trans (hb9.mono hbw.size)
        go_wp2
        go_ret
        exact ⟨by simp, hbw⟩
end Go.Proofs.Ythjjocimpkjldaa
