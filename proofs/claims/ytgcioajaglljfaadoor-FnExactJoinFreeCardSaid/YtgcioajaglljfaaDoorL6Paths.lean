/- Walk: all paths of three trees: the reference's l6Paths. Printed by wip/mk_l6paths.py. -/
import Derived.Test.YtgcioajaglljfaaDoorJoinPlain
import Derived.Test.YtgcioajaglljfaaDoorPathsPut
namespace Go.Proofs.YtgcioajaglljfaaDoor
open Go.RowKit

set_option maxRecDepth 100000 in
set_option maxHeartbeats 2000000 in
theorem spec_l6Paths_any (A1 A2 A3 : Option Addr) (n1 c1 n2 c2 n3 c3 : Nat) (xs ys zs : List PFile) (w : World) (lo hi lo' hi' lo'' hi'' : Nat) (h1 : Rep w lo hi (encFiles xs) (.slice A1 n1 c1)) (h2 : Rep w lo' hi' (encFiles ys) (.slice A2 n2 c2)) (h3 : Rep w lo'' hi'' (encFiles zs) (.slice A3 n3 c3))
    (hh1 : hi ≤ w.heap.size) (hh2 : hi' ≤ w.heap.size) (hh3 : hi'' ≤ w.heap.size) (hx : xs.length ≤ 8) (hy : ys.length ≤ 8) (hz : zs.length ≤ 8) :
    Calls Tryd.prog 11 #[.slice A1 n1 c1, .slice A2 n2 c2, .slice A3 n3 c3] w fun e w' => ∃ A' n' c', e = .returned (.slice A' n' c') ∧ Below w.heap.size w w' ∧ Rep w' w.heap.size w'.heap.size (encText (paths3 xs ys zs)) (.slice A' n' c') := by
  have hl1 := Files.n h1
  have hl2 := Files.n h2
  have hl3 := Files.n h3
  obtain ⟨hc1, hm1⟩ := Files.cap h1
  obtain ⟨hc2, hm2⟩ := Files.cap h2
  obtain ⟨hc3, hm3⟩ := Files.cap h3
  subst hl1 hl2 hl3
  have hb0 : Below w.heap.size w (w.alloc (.cells #[] 9)) := (Below.refl _ _).alloc (Nat.le_refl _) _
  have hout0 : Rep (w.alloc (.cells #[] 9)) w.heap.size (w.alloc (.cells #[] 9)).heap.size (encText []) (.slice (some ⟨w.heap.size, 0, none⟩) 0 0) :=
    (Fresh.of_row (World.ownsRow_made w #[] 0 (Nat.le_refl _) (Nat.zero_le _) rfl) (ps := []) ⟨rfl, rfl⟩ : Fresh _ _ _ (.sl _ 1 []) _).rep
  go_enter Tryd.func11, Tryd.ntmps11
  go_wp2
  go_loopw [7, 8] (fun t i wr => ∃ (k : Nat) (done : List Str) (A' : Option Addr) (n' c' : Nat), k ≤ xs.length ∧ i = .int .i64 k ∧ t = .slice A' n' c' ∧ Hid (done = (pathsT (xs.take k)).foldl insS []) ∧ done.length ≤ k + 0 ∧
      Rep wr w.heap.size wr.heap.size (encText done) (.slice A' n' c') ∧ Below w.heap.size w wr) (fun _ i _ => xs.length - (intOf i).toNat)
  case atStart => exact ⟨0, [], _, _, _, Nat.zero_le _, rfl, rfl, Lib.hid rfl, by simp, hout0, hb0⟩
  case round =>
    clear hb0 hout0
    obtain ⟨k, done, A9, n9, c9, hk, rfl, rfl, hd, hdl, hF, hb⟩ := hrel
    have hsz := hb.size
    obtain ⟨wo, rfl⟩ : ∃ wo : World, wo = wr := ⟨_, rfl⟩
    by_cases hkn : k < xs.length
    · have hkn' : (k : Int) < (xs.length : Int) := by omega
      obtain ⟨b1, o1, x, rfl, _, hbhi, hx9, A3', n3', c3', d0, d1, r3⟩ := Files.at (h1.keep hb hh1) hkn
      have Hnx := Lib.hid (show insS done x.path = (pathsT (xs.take (k + 1))).foldl insS [] by rw [pathsT_next hx9, List.foldl_append, ← hd.out]; rfl)
      have hln := insS_len1 done x.path
      clear hx9
      have hput := spec_l5Put_any A9 n9 c9 done x.path wo w.heap.size wo.heap.size hF hsz (Nat.le_refl _) (by omega)
      go_wp2_with fail
      refine Calls.mono hput ?_
      rintro e w2 ⟨A2', n2', c2', rfl, hb2, hF2⟩
      clear hput
      go_wp2
      go_roundw
      case rel => exact ⟨k + 1, _, A2', n2', c2', by omega, by go_num, rfl, Hnx, by omega, hF2, hb.trans (hb2.mono hsz)⟩
      case measure => first | (simp [intOf]; done) | (simp [intOf]; omega)
    · obtain rfl : k = xs.length := by omega
      clear hkn
      obtain ⟨B1, hB1⟩ : ∃ B, B = done := ⟨_, rfl⟩
      have HB1 := Lib.hid (show B1 = (pathsT xs).foldl insS [] by rw [hB1, hd.out, List.take_length])
      rw [← hB1] at hF hdl
      clear hd hB1
      go_wp2
      go_loopw [7, 9] (fun t i wr => ∃ (k : Nat) (done : List Str) (A' : Option Addr) (n' c' : Nat), k ≤ ys.length ∧ i = .int .i64 k ∧ t = .slice A' n' c' ∧ Hid (done = (pathsT (ys.take k)).foldl insS B1) ∧ done.length ≤ k + 8 ∧
          Rep wr w.heap.size wr.heap.size (encText done) (.slice A' n' c') ∧ Below w.heap.size w wr) (fun _ i _ => ys.length - (intOf i).toNat)
      case atStart => exact ⟨0, B1, A9, n9, c9, Nat.zero_le _, rfl, rfl, Lib.hid rfl, by omega, hF, hb⟩
      case round =>
        clear hF hb hsz
        obtain ⟨k, done, A9, n9, c9, hk, rfl, rfl, hd, hdl, hF, hb⟩ := hrel
        have hsz := hb.size
        obtain ⟨wo, rfl⟩ : ∃ wo : World, wo = wr := ⟨_, rfl⟩
        by_cases hkn : k < ys.length
        · have hkn' : (k : Int) < (ys.length : Int) := by omega
          obtain ⟨b1, o1, x, rfl, _, hbhi, hx9, A3', n3', c3', d0, d1, r3⟩ := Files.at (h2.keep hb hh2) hkn
          have Hnx := Lib.hid (show insS done x.path = (pathsT (ys.take (k + 1))).foldl insS B1 by rw [pathsT_next hx9, List.foldl_append, ← hd.out]; rfl)
          have hln := insS_len1 done x.path
          clear hx9
          have hput := spec_l5Put_any A9 n9 c9 done x.path wo w.heap.size wo.heap.size hF hsz (Nat.le_refl _) (by omega)
          go_wp2_with fail
          refine Calls.mono hput ?_
          rintro e w2 ⟨A2', n2', c2', rfl, hb2, hF2⟩
          clear hput
          go_wp2
          go_roundw
          case rel => exact ⟨k + 1, _, A2', n2', c2', by omega, by go_num, rfl, Hnx, by omega, hF2, hb.trans (hb2.mono hsz)⟩
          case measure => first | (simp [intOf]; done) | (simp [intOf]; omega)
        · obtain rfl : k = ys.length := by omega
          clear hkn
          obtain ⟨B2, hB2⟩ : ∃ B, B = done := ⟨_, rfl⟩
          have HB2 := Lib.hid (show B2 = (pathsT ys).foldl insS B1 by rw [hB2, hd.out, List.take_length])
          rw [← hB2] at hF hdl
          clear hd hB2
          go_wp2
          go_loopw [7, 10] (fun t i wr => ∃ (k : Nat) (done : List Str) (A' : Option Addr) (n' c' : Nat), k ≤ zs.length ∧ i = .int .i64 k ∧ t = .slice A' n' c' ∧ Hid (done = (pathsT (zs.take k)).foldl insS B2) ∧ done.length ≤ k + 16 ∧
              Rep wr w.heap.size wr.heap.size (encText done) (.slice A' n' c') ∧ Below w.heap.size w wr) (fun _ i _ => zs.length - (intOf i).toNat)
          case atStart => exact ⟨0, B2, A9, n9, c9, Nat.zero_le _, rfl, rfl, Lib.hid rfl, by omega, hF, hb⟩
          case round =>
            clear hF hb hsz
            obtain ⟨k, done, A9, n9, c9, hk, rfl, rfl, hd, hdl, hF, hb⟩ := hrel
            have hsz := hb.size
            obtain ⟨wo, rfl⟩ : ∃ wo : World, wo = wr := ⟨_, rfl⟩
            by_cases hkn : k < zs.length
            · have hkn' : (k : Int) < (zs.length : Int) := by omega
              obtain ⟨b1, o1, x, rfl, _, hbhi, hx9, A3', n3', c3', d0, d1, r3⟩ := Files.at (h3.keep hb hh3) hkn
              have Hnx := Lib.hid (show insS done x.path = (pathsT (zs.take (k + 1))).foldl insS B2 by rw [pathsT_next hx9, List.foldl_append, ← hd.out]; rfl)
              have hln := insS_len1 done x.path
              clear hx9
              have hput := spec_l5Put_any A9 n9 c9 done x.path wo w.heap.size wo.heap.size hF hsz (Nat.le_refl _) (by omega)
              go_wp2_with fail
              refine Calls.mono hput ?_
              rintro e w2 ⟨A2', n2', c2', rfl, hb2, hF2⟩
              clear hput
              go_wp2
              go_roundw
              case rel => exact ⟨k + 1, _, A2', n2', c2', by omega, by go_num, rfl, Hnx, by omega, hF2, hb.trans (hb2.mono hsz)⟩
              case measure => first | (simp [intOf]; done) | (simp [intOf]; omega)
            · obtain rfl : k = zs.length := by omega
              clear hkn
              have H9 := Lib.hid (show done = paths3 xs ys zs by rw [paths3_fold, hd.out, List.take_length, HB2.out, HB1.out])
              go_wp2
              go_ret
              exact ⟨_, _, _, rfl, hb, by rw [← H9.out]; exact hF⟩
end Go.Proofs.YtgcioajaglljfaaDoor
