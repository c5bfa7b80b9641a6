/- Walk: a patch as lines: the reference's, all pieces. -/
import Derived.Test.YteofafgleojmhaaDoorWrite2
namespace Go.Proofs.YteofafgleojmhaaDoor
open Go.RowKit

set_option maxRecDepth 100000 in
set_option maxHeartbeats 2000000 in
theorem spec_l2Put_any (A : Option Addr) (n c : Nat) (xs : List PHunk) (w : World) (lo hi : Nat) (h : Rep w lo hi (encHunks xs) (.slice A n c)) (hh : hi ≤ w.heap.size) (hok : patchOk xs = true) :
    Calls Tryd.prog 12 #[.slice A n c] w fun e w' => e = .returned (.string ⟨(wPatch xs).toArray⟩) ∧ Below w.heap.size w w' := by
  have hl := Hunks.n h
  obtain ⟨hc, hm⟩ := Hunks.cap h
  subst hl
  have h8 := patchOk_len hok
  have Hok := Lib.hid hok
  clear hok
  go_enter Tryd.func12, Tryd.ntmps12
  go_wp2
  go_loopw [3, 4, 5, 6] (fun s i _ _ wr => ∃ k : Nat, k ≤ xs.length ∧ i = .int .i64 k ∧ s = .string ⟨(wPatch (xs.take k)).toArray⟩ ∧ Below w.heap.size w wr) (fun _ i _ _ _ => xs.length - (intOf i).toNat)
  case atStart => exact ⟨0, Nat.zero_le _, rfl, rfl, Below.refl _ _⟩
  case round =>
    obtain ⟨k, hk, rfl, rfl, hb⟩ := hrel
    have hsz := hb.size
    by_cases hkn : k < xs.length
    · have hkn' : (k : Int) < (xs.length : Int) := by omega
      obtain ⟨b1, o1, x, rfl, _, hbhi, hx, B1, m1, e1, B2, m2, e2, d0, d1, r1, d2, r2⟩ := Hunks.at (h.keep hb hh) hkn
      have hxo := hunkOk_of_patchOk Hok.out x (List.mem_of_getElem? hx)
      obtain ⟨x1, x2, x3, x4, x5, x6, _⟩ := hunkOk_facts hxo
      have hn1 := Text.n r1
      have hn2 := Text.n r2
      subst hn1 hn2
      have hnx := wPatch_next hx
      have hpl := wPatch_take Hok.out k
      have hat : x.at_ = ((x.at_.toNat : Nat) : Int) := by omega
      obtain ⟨m, hme⟩ : ∃ m, m = x.at_.toNat := ⟨_, rfl⟩
      rw [hat, ← hme] at d0
      have hm10 : m ≤ 10 := by omega
      have hdl := decDigits_len (n := m) (by omega)
      obtain ⟨P0, hP0⟩ : ∃ P0, P0 = wPatch (xs.take k) := ⟨_, rfl⟩
      obtain ⟨H1, hH1⟩ : ∃ H1 : Str, H1 = P0 ++ [64] := ⟨_, rfl⟩
      obtain ⟨H2, hH2⟩ : ∃ H2 : Str, H2 = H1 ++ Lib.decDigits m := ⟨_, rfl⟩
      obtain ⟨H3, hH3⟩ : ∃ H3 : Str, H3 = H2 ++ [10] := ⟨_, rfl⟩
      have a1 := bytes_app P0 [64]
      have a2 := bytes_app H1 (Lib.decDigits m)
      have a3 := bytes_app H2 [10]
      rw [← hH1] at a1
      rw [← hH2] at a2
      rw [← hH3] at a3
      rw [← hP0] at hpl
      have hl1 : H1.length ≤ 2273 := by rw [hH1]; simp; omega
      have hl2 : H2.length ≤ 2275 := by rw [hH2]; simp; omega
      have hl3 : H3.length ≤ 2276 := by rw [hH3]; simp; omega
      have hwh : P0 ++ wHead x = H3 := by rw [hH3, hH2, hH1]; unfold wHead; rw [← hme]; simp
      have Hwh := Lib.hid hwh
      rw [← hP0] at hnx
      have Hnx := Lib.hid hnx
      have Hx3 := Lib.hid x3
      have Hx4 := Lib.hid x4
      rw [← hP0]
      have hcall := fun w => spec_l1Dec_any m hm10 w
      obtain ⟨dg, hdg⟩ : ∃ dg, dg = Lib.decDigits m := ⟨_, rfl⟩
      rw [← hdg] at hcall a2 hdl
      have Hx := Lib.hid hx
      obtain ⟨wo, rfl⟩ : ∃ wo : World, wo = wr := ⟨_, rfl⟩
      clear hx hxo x3 x4 hat hme hH1 hH2 hH3 hwh hnx hP0 hdg r1 r2
      go_wp2_with fail
      refine Calls.mono (hcall _) ?_
      rintro e w2 ⟨rfl, hb2⟩
      have hb02 : Below w.heap.size w w2 := hb.trans (hb2.mono hsz)
      clear d0 d1 d2 hb2 hcall
      go_wp2
      go_loopw [3, 5] (fun s i wq => ∃ j : Nat, j ≤ x.less.length ∧ i = .int .i64 j ∧ s = .string ⟨(H3 ++ wLines 45 (x.less.take j)).toArray⟩ ∧ Below w.heap.size w wq) (fun _ i _ => x.less.length - (intOf i).toNat)
      case atStart => exact ⟨0, Nat.zero_le _, rfl, by simp [wLines], hb02⟩
      case round =>
        obtain ⟨j, hj, rfl, rfl, hbq⟩ := hrel
        have hsq := hbq.size
        obtain ⟨wq, rfl⟩ : ∃ wq : World, wq = wr := ⟨_, rfl⟩
        obtain ⟨b2, o2, y, hA, _, _, hy, B1, m1, e1, B2, m2, e2, d0, d1, r1, d2, r2⟩ := Hunks.at (h.keep hbq hh) hkn
        obtain ⟨rfl, rfl⟩ : b1 = b2 ∧ o1 = o2 := by simpa using hA
        obtain rfl : x = y := by have := Hx.out.symm.trans hy; injection this
        have hn1 := Text.n r1
        have hn2 := Text.n r2
        subst hn1 hn2
        clear hy hA
        by_cases hjn : j < x.less.length
        · have hjn' : (j : Int) < (x.less.length : Int) := by omega
          obtain ⟨b3, o3, s, rfl, _, _, hs, q0⟩ := Text.at r1 hjn
          have hs12 := lines_small Hx3.out s (List.mem_of_getElem? hs)
          have hnl := wLines_next (c := 45) hs
          have hlt140 := wLines_take_len (c := 45) Hx3.out j
          have hplen : (H3).length ≤ 2276 := by omega
          obtain ⟨Q0, hQ0⟩ : ∃ Q0, Q0 = H3 ++ wLines 45 (x.less.take j) := ⟨_, rfl⟩
          have hQl : Q0.length ≤ 4000 := by rw [hQ0, List.length_append]; omega
          obtain ⟨L1, hL1⟩ : ∃ L1 : Str, L1 = Q0 ++ [45] := ⟨_, rfl⟩
          obtain ⟨L2, hL2⟩ : ∃ L2 : Str, L2 = L1 ++ s := ⟨_, rfl⟩
          obtain ⟨L3, hL3⟩ : ∃ L3 : Str, L3 = L2 ++ [10] := ⟨_, rfl⟩
          have a4 := bytes_app Q0 [45]
          have a5 := bytes_app L1 s
          have a6 := bytes_app L2 [10]
          rw [← hL1] at a4
          rw [← hL2] at a5
          rw [← hL3] at a6
          have hl4 : L1.length ≤ 4001 := by rw [hL1]; simp; omega
          have hl5 : L2.length ≤ 4013 := by rw [hL2]; simp; omega
          have hl6 : L3.length ≤ 4014 := by rw [hL3]; simp; omega
          have hline : H3 ++ wLines 45 (x.less.take (j + 1)) = L3 := by rw [hnl, ← List.append_assoc, ← hQ0, hL3, hL2, hL1]; unfold wLine; simp
          have Hline := Lib.hid hline
          rw [← hQ0]
          clear hs hnl hL1 hL2 hL3 hline hQ0 hlt140 hplen
          go_wp2
          go_roundw
          case rel => exact ⟨j + 1, by omega, by go_num, by rw [Hline.out], hbq⟩
          case measure => simp [intOf]; omega
        · obtain rfl : j = x.less.length := by omega
          rw [List.take_length]
          have hb03 := hbq
          have hL9 : H3 ++ wLines 45 x.less = H3 ++ wLines 45 x.less := rfl
          go_wp2
          clear d0 d1 d2 r1 r2 hbq
          go_loopw [3, 6] (fun s i wz => ∃ j : Nat, j ≤ x.more.length ∧ i = .int .i64 j ∧ s = .string ⟨((H3 ++ wLines 45 x.less) ++ wLines 43 (x.more.take j)).toArray⟩ ∧ Below w.heap.size w wz) (fun _ i _ => x.more.length - (intOf i).toNat)
          case atStart => exact ⟨0, Nat.zero_le _, rfl, by simp [wLines], hb03⟩
          case round =>
            obtain ⟨j, hj, rfl, rfl, hbz⟩ := hrel
            have hsz9 := hbz.size
            obtain ⟨wz, rfl⟩ : ∃ wz : World, wz = wr := ⟨_, rfl⟩
            obtain ⟨b2, o2, y, hA, _, _, hy, B1, m1, e1, B2, m2, e2, d0, d1, r1, d2, r2⟩ := Hunks.at (h.keep hbz hh) hkn
            obtain ⟨rfl, rfl⟩ : b1 = b2 ∧ o1 = o2 := by simpa using hA
            obtain rfl : x = y := by have := Hx.out.symm.trans hy; injection this
            have hn1 := Text.n r1
            have hn2 := Text.n r2
            subst hn1 hn2
            clear hy hA
            by_cases hjn : j < x.more.length
            · have hjn' : (j : Int) < (x.more.length : Int) := by omega
              obtain ⟨b3, o3, s, rfl, _, _, hs, q0⟩ := Text.at r2 hjn
              have hs12 := lines_small Hx4.out s (List.mem_of_getElem? hs)
              have hnl := wLines_next (c := 43) hs
              have hlt140 := wLines_take_len (c := 43) Hx4.out j
              have hplen : ((H3 ++ wLines 45 x.less)).length ≤ 2500 := by have h9 := wLines_take_len (c := 45) Hx3.out x.less.length; rw [List.take_length] at h9; simp only [List.length_append]; omega
              obtain ⟨Q0, hQ0⟩ : ∃ Q0, Q0 = (H3 ++ wLines 45 x.less) ++ wLines 43 (x.more.take j) := ⟨_, rfl⟩
              have hQl : Q0.length ≤ 4000 := by rw [hQ0, List.length_append]; omega
              obtain ⟨L1, hL1⟩ : ∃ L1 : Str, L1 = Q0 ++ [43] := ⟨_, rfl⟩
              obtain ⟨L2, hL2⟩ : ∃ L2 : Str, L2 = L1 ++ s := ⟨_, rfl⟩
              obtain ⟨L3, hL3⟩ : ∃ L3 : Str, L3 = L2 ++ [10] := ⟨_, rfl⟩
              have a4 := bytes_app Q0 [43]
              have a5 := bytes_app L1 s
              have a6 := bytes_app L2 [10]
              rw [← hL1] at a4
              rw [← hL2] at a5
              rw [← hL3] at a6
              have hl4 : L1.length ≤ 4001 := by rw [hL1]; simp; omega
              have hl5 : L2.length ≤ 4013 := by rw [hL2]; simp; omega
              have hl6 : L3.length ≤ 4014 := by rw [hL3]; simp; omega
              have hline : (H3 ++ wLines 45 x.less) ++ wLines 43 (x.more.take (j + 1)) = L3 := by rw [hnl, ← List.append_assoc, ← hQ0, hL3, hL2, hL1]; unfold wLine; simp
              have Hline := Lib.hid hline
              rw [← hQ0]
              clear hs hnl hL1 hL2 hL3 hline hQ0 hlt140 hplen
              go_wp2
              go_roundw
              case rel => exact ⟨j + 1, by omega, by go_num, by rw [Hline.out], hbz⟩
              case measure => simp [intOf]; omega
            · obtain rfl : j = x.more.length := by omega
              rw [List.take_length]
              have hfin : wPatch (xs.take (k + 1)) = H3 ++ wLines 45 x.less ++ wLines 43 x.more := by
                rw [Hnx.out, ← Hwh.out]; unfold wHunk; simp [List.append_assoc]
              have Hfin := Lib.hid hfin
              clear hfin
              go_wp2
              go_roundw
              case rel => exact ⟨k + 1, by omega, by go_num, by rw [Hfin.out], hbz⟩
              case measure => simp [intOf]; omega

    · obtain rfl : k = xs.length := by omega
      rw [List.take_length]
      go_wp2
      go_ret
      exact ⟨rfl, hb⟩
end Go.Proofs.YteofafgleojmhaaDoor
