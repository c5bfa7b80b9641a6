/- Walk: a patch as lines: the program's. -/
import Derived.Test.YteofafgleojmhaaDoorWritePlain
import Derived.Test.YteofafgleojmhaaDoorBuilder
import Derived.Test.YteofafgleojmhaaDoorStr
import Derived.Test.YteofafgleojmhaaDoorPatchOk
namespace Go.Proofs.YteofafgleojmhaaDoor
open Go.RowKit

theorem BuildAt.alloc {B b : Nat} {l : Str} {w : World} (h : BuildAt B b l w) (o : Obj) : BuildAt B b l (w.alloc o) := Lib.IsBuilderF.alloc h o
theorem new_blk (w : World) (o : Obj) : (w.alloc o).heap[w.heap.size]? = some o := by show (w.heap.push o)[w.heap.size]? = some o; simp
theorem box_kept {w w' : World} {b H t : Nat} {cs : Array Value} {fr : Nat × Nat} (h : Lib.OthersKept 5 (some b) w w') (hH : w.heap[H]? = some (.cells cs t fr)) (hb : H ≠ b) (ht : t ≠ 5) : w'.heap[H]? = some (.cells cs t fr) :=
  h H _ hH (by simpa using hb) (fun c fz e => by injection e with _ e2 _; exact ht e2)
theorem box3 {w : World} {g t : Nat} {a b c : Value} (h : w.heap[g]? = some (.cells #[a, b, c] t (0, 0))) : w.cell? ⟨g, 0, none⟩ = some a ∧ w.cell? ⟨g, 1, none⟩ = some b ∧ w.cell? ⟨g, 2, none⟩ = some c := by
  simp [World.cell?, h]
theorem itoa_any (i : Nat) (hi : i < 100) (w : World) : Calls Tryd.prog 25 #[.int .i64 i] w fun e w' => e = .returned (.string ⟨(Lib.decDigits i).toArray⟩) ∧ w = w' := by
  have hcon := Any.strconv_Itoa_small Tryd.lays171 i hi w
  exact Calls.mono hcon (fun e w' hh => ⟨hh.1, hh.2.symm⟩)

set_option maxRecDepth 100000 in
set_option maxHeartbeats 2000000 in
theorem impl_patchPut_any (A : Option Addr) (n c : Nat) (xs : List PHunk) (w : World) (lo hi : Nat) (h : Rep w lo hi (encHunks xs) (.slice A n c)) (hh : hi ≤ w.heap.size) (hok : patchOk xs = true) :
    Calls Tryd.prog 16 #[.slice A n c] w fun e w' => e = .returned (.string ⟨(wPatch xs).toArray⟩) ∧ Below w.heap.size w w' := by
  have hl := Hunks.n h
  obtain ⟨hc, hm⟩ := Hunks.cap h
  subst hl
  have h8 := patchOk_len hok
  have hb0 : BuildAt w.heap.size w.heap.size [] (w.alloc (.cells #[.pointer none, .slice none 0 0] 53)) := BuildAt.fresh (new_blk w _) _ (Nat.le_refl _)
  have Hok := Lib.hid hok
  have Hb0 := Lib.hid hb0
  clear hok hb0
  go_enter Tryd.func16, Tryd.ntmps16
  go_wp2
  go_loopw [7, 9, 12] (fun _ _ i wr => ∃ k : Nat, k ≤ xs.length ∧ i = .int .i64 k ∧ Hid (BuildAt w.heap.size w.heap.size (wPatch (xs.take k)) wr) ∧ Below w.heap.size w wr ∧ w.heap.size < wr.heap.size) (fun _ _ i _ => xs.length - (intOf i).toNat)
  case atStart => exact ⟨0, Nat.zero_le _, rfl, Lib.hid (by simpa [wPatch] using Hb0.out), (Below.refl _ _).alloc (Nat.le_refl _) _, by simp⟩
  case round =>
    obtain ⟨k, hk, rfl, hB, hb, hlt⟩ := hrel
    have hsz := hb.size
    by_cases hkn : k < xs.length
    · have hkn' : (k : Int) < (xs.length : Int) := by omega
      obtain ⟨b1, o1, x, rfl, _, hbhi, hx, B1, m1, e1, B2, m2, e2, d0, d1, r1, d2, r2⟩ := Hunks.at (h.keep hb hh) hkn
      have hxo := hunkOk_of_patchOk Hok.out x (List.mem_of_getElem? hx)
      obtain ⟨x1, x2, x3, x4, x5, x6, _⟩ := hunkOk_facts hxo
      have hn1 := Text.n r1
      have hn2 := Text.n r2
      subst hn1 hn2
      have hnx := wPatch_next hx
      have hpl := wPatch_take Hok.out k
      have hhd := wHead_len hxo
      have hat : x.at_ = ((x.at_.toNat : Nat) : Int) := by omega
      obtain ⟨m, hme⟩ : ∃ m, m = x.at_.toNat := ⟨_, rfl⟩
      rw [hat, ← hme] at d0
      have hm10 : m ≤ 10 := by omega
      have hdl := decDigits_len (n := m) (by omega)
      obtain ⟨H1, hH1⟩ : ∃ H1 : Str, H1 = [64] ++ Lib.decDigits m := ⟨_, rfl⟩
      obtain ⟨H2, hH2⟩ : ∃ H2 : Str, H2 = H1 ++ [10] := ⟨_, rfl⟩
      have a1 := bytes_app [64] (Lib.decDigits m)
      have a2 := bytes_app H1 [10]
      rw [← hH1] at a1
      rw [← hH2] at a2
      have hl1 : H1.length ≤ 3 := by rw [hH1]; simp; omega
      have hl2 : H2.length ≤ 4 := by rw [hH2]; simp; omega
      have hwh : wHead x = H2 := by rw [hH2, hH1, hme]; rfl
      have Hwh := Lib.hid hwh
      have Hnx := Lib.hid hnx
      have Hx3 := Lib.hid x3
      have Hx4 := Lib.hid x4
      obtain ⟨P0, hP0⟩ : ∃ P0, P0 = wPatch (xs.take k) := ⟨_, rfl⟩
      rw [← hP0] at hB hpl
      have HP0 := Lib.hid hP0
      have hB0 := hB.out.alloc (.cells #[.int .i64 m, .slice B1 x.less.length e1, .slice B2 x.more.length e2] 32)
      have hci := fun w => itoa_any m (by omega) w
      obtain ⟨dg, hdg⟩ : ∃ dg, dg = Lib.decDigits m := ⟨_, rfl⟩
      rw [← hdg] at hci a1 hdl
      have hr1w := r1
      have hr2w := r2
      obtain ⟨wo, rfl⟩ : ∃ wo : World, wo = wr := ⟨_, rfl⟩
      have hbx : Below w.heap.size w (wo.alloc (.cells #[.int .i64 m, .slice B1 x.less.length e1, .slice B2 x.more.length e2] 32)) := hb.alloc hsz _
      have hne : wo.heap.size ≠ w.heap.size := by omega
      clear hx hxo x3 x4 hat hme hH1 hH2 hhd hwh hnx hP0 hdg r1 r2 hB
      go_wp2_with fail
      refine Calls.mono (hci _) ?_
      rintro e w' ⟨rfl, rfl⟩
      go_wp2_with fail
      refine Calls.mono (writeString_any w.heap.size w.heap.size P0 H2 _ hB0 (by omega) (by simp; omega)) ?_
      rintro e w2 ⟨rfl, hB2, hb2, hk2⟩
      have hbox2 := box_kept hk2 (new_blk wo _) hne (by decide)
      have hb02 : Below w.heap.size w w2 := hbx.trans hb2
      have hs2 := hb2.size
      simp at hs2
      have hB2' := Lib.hid hB2
      clear hB2 hk2 hb2 hB0 hbx d0 d1 d2
      obtain ⟨f0, f1, f2⟩ := box3 hbox2
      go_wp2
      go_loopw [7, 25] (fun _ i wq => ∃ j : Nat, j ≤ x.less.length ∧ i = .int .i64 j ∧ Hid (BuildAt w.heap.size w.heap.size ((P0 ++ H2) ++ wLines 45 (x.less.take j)) wq) ∧ Below w.heap.size w wq ∧ wo.heap.size < wq.heap.size ∧ wq.heap[wo.heap.size]? = some (.cells #[.int .i64 m, .slice B1 x.less.length e1, .slice B2 x.more.length e2] 32 (0, 0))) (fun _ i _ => x.less.length - (intOf i).toNat)
      case atStart => exact ⟨0, Nat.zero_le _, rfl, Lib.hid (by simpa [wLines] using hB2'.out), hb02, by omega, hbox2⟩
      case round =>
        clear f0 f1 f2 hbox2 hB2' hb02
        obtain ⟨j, hj, rfl, hBq, hbq, hltq, hboxq⟩ := hrel
        have hsq := hbq.size
        obtain ⟨wq, rfl⟩ : ∃ wq : World, wq = wr := ⟨_, rfl⟩
        by_cases hjn : j < x.less.length
        · have hjn' : (j : Int) < (x.less.length : Int) := by omega
          obtain ⟨b3, o3, s, rfl, _, _, hs, q0⟩ := Text.at (hr1w.same (fun q _ q2 => (hbq.block q (by omega)).trans (hb.block q (by omega)).symm)) hjn
          have hs12 := lines_small Hx3.out s (List.mem_of_getElem? hs)
          have hnl := wLines_next (c := 45) hs
          have hlt140 := wLines_take_len (c := 45) Hx3.out j
          obtain ⟨L1, hL1⟩ : ∃ L1 : Str, L1 = [45] ++ s := ⟨_, rfl⟩
          obtain ⟨L2, hL2⟩ : ∃ L2 : Str, L2 = L1 ++ [10] := ⟨_, rfl⟩
          have a3 := bytes_app [45] s
          have a4 := bytes_app L1 [10]
          rw [← hL1] at a3
          rw [← hL2] at a4
          have hl3 : L1.length ≤ 13 := by rw [hL1]; simp; omega
          have hl4 : L2.length ≤ 14 := by rw [hL2]; simp; omega
          have hline : wLine 45 s = L2 := by rw [hL2, hL1]; rfl
          rw [hline] at hnl
          have Hnl := Lib.hid hnl
          have hplen : ((P0 ++ H2)).length ≤ 2276 := by rw [List.length_append]; omega
          obtain ⟨Q0, hQ0⟩ : ∃ Q0, Q0 = (P0 ++ H2) ++ wLines 45 (x.less.take j) := ⟨_, rfl⟩
          have hQl : Q0.length ≤ 4000 := by rw [hQ0, List.length_append]; omega
          rw [← hQ0] at hBq
          have HQ0 := Lib.hid hQ0
          clear hs hnl hL1 hL2 hline hQ0 hlt140 hplen
          go_wp2_with fail
          refine Calls.mono (writeString_any w.heap.size w.heap.size Q0 L2 _ hBq.out (by omega) (by omega)) ?_
          rintro e w5 ⟨rfl, hB5, hb5, hk5⟩
          have hbox5 := box_kept hk5 hboxq hne (by decide)
          have hb05 : Below w.heap.size w w5 := hbq.trans hb5
          have hs5 := hb5.size
          have hB5' := Lib.hid (show BuildAt w.heap.size w.heap.size ((P0 ++ H2) ++ wLines 45 (x.less.take (j + 1))) w5 by rw [Hnl.out, ← List.append_assoc, ← HQ0.out]; exact hB5)
          clear hB5 hk5 hb5
          go_wp2
          go_roundw
          case rel => exact ⟨j + 1, by omega, by go_num, hB5', hb05, by omega, hbox5⟩
          case measure => simp [intOf]; omega
        · obtain rfl : j = x.less.length := by omega
          rw [List.take_length] at hBq
          have hb06 := hbq
          have hbox6 := hboxq
          have hB6' : Hid (BuildAt w.heap.size w.heap.size (P0 ++ H2 ++ wLines 45 x.less) wq) := hBq
          have hsz6 := hsq
          have hlt6 := hltq
          obtain ⟨w6, hw6⟩ : ∃ w6 : World, w6 = wq := ⟨_, rfl⟩
          clear hw6
          obtain ⟨f0, f1, f2⟩ := box3 hbox6
          go_wp2
          go_loopw [9, 37] (fun _ i wz => ∃ j : Nat, j ≤ x.more.length ∧ i = .int .i64 j ∧ Hid (BuildAt w.heap.size w.heap.size ((P0 ++ H2 ++ wLines 45 x.less) ++ wLines 43 (x.more.take j)) wz) ∧ Below w.heap.size w wz ∧ wo.heap.size < wz.heap.size ∧ wz.heap[wo.heap.size]? = some (.cells #[.int .i64 m, .slice B1 x.less.length e1, .slice B2 x.more.length e2] 32 (0, 0))) (fun _ i _ => x.more.length - (intOf i).toNat)
          case atStart => exact ⟨0, Nat.zero_le _, rfl, Lib.hid (by simpa [wLines] using hB6'.out), hb06, by omega, hbox6⟩
          case round =>
            clear f0 f1 f2 hbox6 hB6' hb06
            obtain ⟨j, hj, rfl, hBz, hbz, hltz, hboxz⟩ := hrel
            have hsz9 := hbz.size
            obtain ⟨wz, rfl⟩ : ∃ wz : World, wz = wr := ⟨_, rfl⟩
            by_cases hjn : j < x.more.length
            · have hjn' : (j : Int) < (x.more.length : Int) := by omega
              obtain ⟨b3, o3, s, rfl, _, _, hs, q0⟩ := Text.at (hr2w.same (fun q _ q2 => (hbz.block q (by omega)).trans (hb.block q (by omega)).symm)) hjn
              have hs12 := lines_small Hx4.out s (List.mem_of_getElem? hs)
              have hnl := wLines_next (c := 43) hs
              have hlt140 := wLines_take_len (c := 43) Hx4.out j
              obtain ⟨L1, hL1⟩ : ∃ L1 : Str, L1 = [43] ++ s := ⟨_, rfl⟩
              obtain ⟨L2, hL2⟩ : ∃ L2 : Str, L2 = L1 ++ [10] := ⟨_, rfl⟩
              have a3 := bytes_app [43] s
              have a4 := bytes_app L1 [10]
              rw [← hL1] at a3
              rw [← hL2] at a4
              have hl3 : L1.length ≤ 13 := by rw [hL1]; simp; omega
              have hl4 : L2.length ≤ 14 := by rw [hL2]; simp; omega
              have hline : wLine 43 s = L2 := by rw [hL2, hL1]; rfl
              rw [hline] at hnl
              have Hnl := Lib.hid hnl
              have hplen : ((P0 ++ H2 ++ wLines 45 x.less)).length ≤ 2500 := by have h9 := wLines_take_len (c := 45) Hx3.out x.less.length; rw [List.take_length] at h9; simp only [List.length_append]; omega
              obtain ⟨Q0, hQ0⟩ : ∃ Q0, Q0 = (P0 ++ H2 ++ wLines 45 x.less) ++ wLines 43 (x.more.take j) := ⟨_, rfl⟩
              have hQl : Q0.length ≤ 4000 := by rw [hQ0, List.length_append]; omega
              rw [← hQ0] at hBz
              have HQ0 := Lib.hid hQ0
              clear hs hnl hL1 hL2 hline hQ0 hlt140 hplen
              go_wp2_with fail
              refine Calls.mono (writeString_any w.heap.size w.heap.size Q0 L2 _ hBz.out (by omega) (by omega)) ?_
              rintro e w5 ⟨rfl, hB5, hb5, hk5⟩
              have hbox5 := box_kept hk5 hboxz hne (by decide)
              have hb05 : Below w.heap.size w w5 := hbz.trans hb5
              have hs5 := hb5.size
              have hB5' := Lib.hid (show BuildAt w.heap.size w.heap.size ((P0 ++ H2 ++ wLines 45 x.less) ++ wLines 43 (x.more.take (j + 1))) w5 by rw [Hnl.out, ← List.append_assoc, ← HQ0.out]; exact hB5)
              clear hB5 hk5 hb5
              go_wp2
              go_roundw
              case rel => exact ⟨j + 1, by omega, by go_num, hB5', hb05, by omega, hbox5⟩
              case measure => simp [intOf]; omega
            · obtain rfl : j = x.more.length := by omega
              rw [List.take_length] at hBz
              have hfin : BuildAt w.heap.size w.heap.size (wPatch (xs.take (k + 1))) wz := by
                rw [Hnx.out, ← HP0.out]
                unfold wHunk
                rw [Hwh.out]
                have := hBz.out
                simpa [List.append_assoc] using this
              have Hfin := Lib.hid hfin
              clear hfin hBz
              go_wp2
              go_roundw
              case rel => exact ⟨k + 1, by omega, by go_num, Hfin, hbz, by omega⟩
              case measure => simp [intOf]; omega

    · obtain rfl : k = xs.length := by omega
      rw [List.take_length] at hB
      go_wp2_with fail
      refine Calls.mono (string_any w.heap.size w.heap.size _ _ hB.out hsz) ?_
      rintro e w2 ⟨rfl, hb2⟩
      go_wp2
      go_ret
      exact ⟨rfl, hb.trans hb2⟩
end Go.Proofs.YteofafgleojmhaaDoor
