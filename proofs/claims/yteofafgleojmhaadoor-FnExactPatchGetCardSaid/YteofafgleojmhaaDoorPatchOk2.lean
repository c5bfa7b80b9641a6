/- Walk: the program's PatchOk. -/
import Derived.Test.YteofafgleojmhaaDoorPatchOk
namespace Go.Proofs.YteofafgleojmhaaDoor
open Go.RowKit

set_option maxRecDepth 100000 in
set_option maxHeartbeats 2000000 in
theorem impl_PatchOk_any (A : Option Addr) (n c : Nat) (xs : List PHunk) (w : World) (lo hi : Nat) (h : Rep w lo hi (encHunks xs) (.slice A n c)) (hh : hi ≤ w.heap.size) :
    Calls Tryd.prog 15 #[.slice A n c] w fun e w' => e = .returned (.bool (patchOk xs)) ∧ Below w.heap.size w w' := by
  have hl := Hunks.n h
  obtain ⟨hc, hm⟩ := Hunks.cap h
  subst hl
  by_cases h8 : xs.length ≤ 8
  · go_enter Tryd.func15, Tryd.ntmps15
    go_wp2
    go_loopw [10] (fun i wr => ∃ k : Nat, k ≤ xs.length ∧ i = .int .i64 k ∧ Hid (hunksOk (xs.take k) = true) ∧ Below w.heap.size w wr) (fun i _ => xs.length - (intOf i).toNat)
    case atStart => exact ⟨0, Nat.zero_le _, rfl, Lib.hid (by simp [hunksOk]), Below.refl _ _⟩
    case round =>
      obtain ⟨k, hk, rfl, ht, hb⟩ := hrel
      replace h := h.keep hb hh
      have hsz := hb.size
      by_cases hkn : k < xs.length
      · have hkn' : (k : Int) < (xs.length : Int) := by omega
        obtain ⟨b1, o1, x, rfl, _, _, hx, A1, n1, c1, A2, n2, c2, d0, d1, r1, d2, r2⟩ := Hunks.at h hkn
        have hok := hunksOk_take xs k hkn
        have e1 := Text.n r1
        have e2 := Text.n r2
        subst e1 e2
        have Hx := Lib.hid hx
        have Hok := Lib.hid hok
        clear hx hok
        go_wp2
        refine name_world ?_
        intro W hW
        have hbr : Below wr.heap.size wr W := by rw [hW]; exact (Below.refl _ _).alloc (Nat.le_refl _) _
        have hbW : Below w.heap.size w W := hb.trans (hbr.mono hsz)
        have p0 := Later.cell (w := W) (a := ⟨wr.heap.size, 0, none⟩) (v := .int .i64 x.at_) (by rw [hW]; simp [go_sem])
        have p1 := Later.cell (w := W) (a := ⟨wr.heap.size, 1, none⟩) (v := .slice A1 x.less.length c1) (by rw [hW]; simp [go_sem])
        have p2 := Later.cell (w := W) (a := ⟨wr.heap.size, 2, none⟩) (v := .slice A2 x.more.length c2) (by rw [hW]; simp [go_sem])
        have hhW : hi ≤ W.heap.size := Nat.le_trans hh hbW.size
        have R1 := r1.keep hbr (Nat.le_trans hh hsz)
        have R2 := r2.keep hbr (Nat.le_trans hh hsz)
        have hW2 := h.keep hbr (Nat.le_trans hh hsz)
        clear hW h hb d0 d1 d2 r1 r2
        refine wp_region_later_lit (by kernel_rfl) (by kernel_rfl) ?_; try simp only [List.append_eq, List.cons_append, List.nil_append]
        cases t4 : inRange x.at_ 0 10
        · repeat (go_big_quiet_step (((first | (go_at_call 27; first | (with_reducible exact Calls.later_same (impl_TextOk_any _ _ _ x.less _ _ _ (R1.later hhW _))) | (with_reducible exact Calls.later_same (impl_TextOk_any _ _ _ x.more _ _ _ (R2.later hhW _)))) | (go_at_call 26; with_reducible exact Calls.later_same (impl_within_any _ _ _ _))))))
          (refine wpQuiet_nil ?_; intro _ hw'; obtain ⟨⟨w9, hb9⟩, hw''⟩ := hw'; subst hw''; try dsimp only)
          go_wp2
          go_ret
          exact ⟨ret_bool (by rw [patchOk_false hkn (hunkAt_range Hx.out t4)]), hbW.trans (hb9.mono hbW.size)⟩
        · cases t1 : textOk x.less
          · repeat (go_big_quiet_step (((first | (go_at_call 27; first | (with_reducible exact Calls.later_same (impl_TextOk_any _ _ _ x.less _ _ _ (R1.later hhW _))) | (with_reducible exact Calls.later_same (impl_TextOk_any _ _ _ x.more _ _ _ (R2.later hhW _)))) | (go_at_call 26; with_reducible exact Calls.later_same (impl_within_any _ _ _ _))))))
            (refine wpQuiet_nil ?_; intro _ hw'; obtain ⟨⟨w9, hb9⟩, hw''⟩ := hw'; subst hw''; try dsimp only)
            go_wp2
            go_ret
            exact ⟨ret_bool (by rw [patchOk_false hkn (hunkAt_less Hx.out t1)]), hbW.trans (hb9.mono hbW.size)⟩
          · cases t2 : textOk x.more
            · repeat (go_big_quiet_step (((first | (go_at_call 27; first | (with_reducible exact Calls.later_same (impl_TextOk_any _ _ _ x.less _ _ _ (R1.later hhW _))) | (with_reducible exact Calls.later_same (impl_TextOk_any _ _ _ x.more _ _ _ (R2.later hhW _)))) | (go_at_call 26; with_reducible exact Calls.later_same (impl_within_any _ _ _ _))))))
              (refine wpQuiet_nil ?_; intro _ hw'; obtain ⟨⟨w9, hb9⟩, hw''⟩ := hw'; subst hw''; try dsimp only)
              go_wp2
              go_ret
              exact ⟨ret_bool (by rw [patchOk_false hkn (hunkAt_more Hx.out t2)]), hbW.trans (hb9.mono hbW.size)⟩
            · have l1 := textOk_len t1
              have l2 := textOk_len t2
              by_cases t3 : x.less.length + x.more.length = 0
              · have q3 : ((x.less.length : Int) + (x.more.length : Int) == 0) = true := by simp; omega
                repeat (go_big_quiet_step (((first | (go_at_call 27; first | (with_reducible exact Calls.later_same (impl_TextOk_any _ _ _ x.less _ _ _ (R1.later hhW _))) | (with_reducible exact Calls.later_same (impl_TextOk_any _ _ _ x.more _ _ _ (R2.later hhW _)))) | (go_at_call 26; with_reducible exact Calls.later_same (impl_within_any _ _ _ _))))))
                (refine wpQuiet_nil ?_; intro _ hw'; obtain ⟨⟨w9, hb9⟩, hw''⟩ := hw'; subst hw''; try dsimp only)
                go_wp2
                go_ret
                exact ⟨ret_bool (by rw [patchOk_false hkn (hunkAt_none Hx.out t3)]), hbW.trans (hb9.mono hbW.size)⟩
              · have q3 : ((x.less.length : Int) + (x.more.length : Int) == 0) = false := by simp; omega
                by_cases t5 : k ≤ 0
                · have q5 : decide (0 < k) = false := by simp; omega
                  have hyes := hunkAt_yes Hx.out t1 t2 t3 t4 (fun j y e _ => absurd e (by omega))
                  repeat (go_big_quiet_step (((first | (go_at_call 27; first | (with_reducible exact Calls.later_same (impl_TextOk_any _ _ _ x.less _ _ _ (R1.later hhW _))) | (with_reducible exact Calls.later_same (impl_TextOk_any _ _ _ x.more _ _ _ (R2.later hhW _)))) | (go_at_call 26; with_reducible exact Calls.later_same (impl_within_any _ _ _ _))))))
                  (refine wpQuiet_nil ?_; intro _ hw'; obtain ⟨⟨w9, hb9⟩, hw''⟩ := hw'; subst hw''; try dsimp only)
                  go_wp2
                  go_roundw
                  case rel => exact ⟨k + 1, by omega, by go_num, Lib.hid (by rw [Hok.out, ht.out, hyes]; rfl), hbW.trans (hb9.mono hbW.size)⟩
                  case measure => simp [intOf]; omega
                · have q5 : decide (0 < k) = true := by simp; omega
                  have q6 : (1 : Int) ≤ (k : Int) := by omega
                  have q7 : (k : Int) - 1 < (xs.length : Int) := by omega
                  obtain ⟨b3, o3, y, hb3, _, _, hy, A3, n3, c3, A4, n4, c4, f0, f1, r3, f2, r4⟩ := Hunks.at hW2 (k := k - 1) (by omega)
                  simp only [Option.some.injEq, Addr.mk.injEq, and_true] at hb3
                  obtain ⟨rfl, rfl⟩ := hb3
                  have hyk : hunkOk y = true := by
                    have h2 := ht.out
                    rw [show k = k - 1 + 1 by omega] at h2
                    exact hunkOk_of_take h2 hy
                  obtain ⟨y1, y2, _, _, y3, _, _⟩ := hunkOk_facts hyk
                  replace f0 := Later.cell f0
                  replace f1 := Later.cell f1
                  replace f2 := Later.cell f2
                  have Hy := Lib.hid hy
                  clear hy hyk
                  by_cases t6 : x.at_ ≤ y.stop
                  · repeat (go_big_quiet_step (((first | (go_at_call 27; first | (with_reducible exact Calls.later_same (impl_TextOk_any _ _ _ x.less _ _ _ (R1.later hhW _))) | (with_reducible exact Calls.later_same (impl_TextOk_any _ _ _ x.more _ _ _ (R2.later hhW _)))) | (go_at_call 26; with_reducible exact Calls.later_same (impl_within_any _ _ _ _)) | (go_at_call 28; with_reducible exact Calls.later (impl_end_any y _ _ _ _ _ _ _ _ _ (r3.later hhW _) y1 y2 y3))))))
                    (refine wpQuiet_nil ?_; intro _ hw'; obtain ⟨⟨w9, hb9⟩, hw''⟩ := hw'; subst hw''; try dsimp only)
                    go_wp2
                    go_ret
                    exact ⟨ret_bool (by rw [patchOk_false hkn (hunkAt_prev (by omega) Hx.out Hy.out t6)]), hbW.trans (hb9.mono hbW.size)⟩
                  · have hyes := hunkAt_yes Hx.out t1 t2 t3 t4 (fun j' y' e hy' => by
                      have hy2 := Hy.out
                      rw [show k - 1 = j' by omega, hy'] at hy2
                      obtain rfl := Option.some.inj hy2
                      omega)
                    repeat (go_big_quiet_step (((first | (go_at_call 27; first | (with_reducible exact Calls.later_same (impl_TextOk_any _ _ _ x.less _ _ _ (R1.later hhW _))) | (with_reducible exact Calls.later_same (impl_TextOk_any _ _ _ x.more _ _ _ (R2.later hhW _)))) | (go_at_call 26; with_reducible exact Calls.later_same (impl_within_any _ _ _ _)) | (go_at_call 28; with_reducible exact Calls.later (impl_end_any y _ _ _ _ _ _ _ _ _ (r3.later hhW _) y1 y2 y3))))))
                    (refine wpQuiet_nil ?_; intro _ hw'; obtain ⟨⟨w9, hb9⟩, hw''⟩ := hw'; subst hw''; try dsimp only)
                    go_wp2
                    go_roundw
                    case rel => exact ⟨k + 1, by omega, by go_num, Lib.hid (by rw [Hok.out, ht.out, hyes]; rfl), hbW.trans (hb9.mono hbW.size)⟩
                    case measure => simp [intOf]; omega
      · go_wp2
        go_ret
        have ht := ht.out
        rw [List.take_of_length_le (by omega)] at ht
        exact ⟨ret_bool (by simp [patchOk, ht]; omega), hb⟩
  · go_enter Tryd.func15, Tryd.ntmps15
    go_wp2
    go_ret
    exact ⟨ret_bool (by simp [patchOk]; omega), Below.refl _ _⟩
end Go.Proofs.YteofafgleojmhaaDoor
